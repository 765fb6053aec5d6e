/- The walk of opts.walk, whatever is told to. -/
import Derived.Test.YtljgmephajocaaaOptsFirst
import Derived.Deep.LoopGhost
namespace Go.Proofs.Ytljgmephajocaaa.Opts
set_option linter.unusedSimpArgs false
set_option linter.unusedVariables false
open Go Go.RowKit Go.Proofs.Ytljgmephajocaaa
attribute [local irreducible] Calls

/-- What is told of bytes, till one who is told has enough; and what is wrong. -/
def walkF (q : List El → Bool) : Nat → List El → List UInt8 → List El × Int
  | 0, told, _ => (told, 0)
  | _ + 1, told, [] => (told, 0)
  | f + 1, told, k :: t => let r := rd1 (k :: t); if r.2.2 ≠ 0 then (told, r.2.2) else if r.1.1 = 0 then walkF q f told r.2.1 else if q (told ++ [r.1]) then walkF q f (told ++ [r.1]) r.2.1 else (told ++ [r.1], 0)
theorem rd1_len (k : UInt8) (t : List UInt8) : (rd1 (k :: t)).2.1.length ≤ t.length := by
  unfold rd1
  simp only
  split
  · exact Nat.le_refl _
  · split
    · simp
    · split
      · simp
      · split
        · simp
        · simp only [List.length_drop, List.length_cons]; omega
theorem rd1_val (k : UInt8) (t : List UInt8) : 0 ≤ (rd1 (k :: t)).1.1 ∧ (rd1 (k :: t)).1.1 ≤ 255 ∧ (rd1 (k :: t)).1.2.size ≤ 255 := by
  have hk := k.toNat_lt
  unfold rd1
  simp only
  split
  · simp only [ByteArray.size]; simp; omega
  · split
    · decide
    · rename_i n u
      have hn := n.toNat_lt
      split
      · decide
      · split
        · decide
        · simp only [ByteArray.size]; simp; omega
theorem walkF_nil (q : List El → Bool) (f : Nat) (told : List El) : walkF q f told [] = (told, 0) := by cases f <;> rfl

set_option maxRecDepth 100000 in
set_option maxHeartbeats 800000 in
theorem walk_any (q : List El → Bool) (F : Nat) (caps : Array Value) (hG : ∀ args w, (callFunc F args).run Try.prog w = .ok (.enter F args) w) (w0 : World) (S0 : Nat → Prop) (A : List El → List Asn)
    (hcall : ∀ (told : List El) (x : El) (W : World), St w0 S0 W (A told) → told.length ≤ 3000 → isI64 x.1 → x.2.size ≤ 3000 → Calls Try.prog F (#[val x] ++ caps) W (Fin w0 S0 (.bool (q (told ++ [x]))) (A (told ++ [x]))))
    (s : ByteArray) (hs : s.size ≤ 3000) (w : World) (H : St w0 S0 w (A [])) :
    Calls Try.prog 97 #[.string s, .func (.func F) #[] caps] w (fun e w' => e = .returned (.int .i64 (walkF q s.size [] s.data.toList).2) ∧ St w0 S0 w' (A (walkF q s.size [] s.data.toList).1)) := by
  obtain ⟨R, hR⟩ : ∃ R, walkF q s.size [] s.data.toList = R := ⟨_, rfl⟩
  rw [hR]
  replace H := Lib.hid H; replace hcall := Lib.hid hcall; replace hR := Lib.hid hR
  go_enter Try.func97, Try.ntmps97
  go_wp2_with fail
  go_loopg [0, 5, 6, 7] s.size (fun g sv _ _ _ wr => ∃ (s' : ByteArray) (told : List El), sv = .string s' ∧ s'.size ≤ g ∧ told.length + g ≤ 3000 ∧ Hid (walkF q g told s'.data.toList = R) ∧ St w0 S0 wr (A told))
  case atStart => exact ⟨s, [], rfl, Nat.le_refl _, by simpa using hs, hR, H.out⟩
  case round =>
    obtain ⟨s', told, rfl, hg, htl, hw, hst⟩ := hrel
    cases hl : s'.data.toList with
    | nil =>
      have q1 : s'.toList.isEmpty = true := by rw [ByteArray.toList_eq, hl]; rfl
      have hw2 := hw.out
      rw [hl, walkF_nil] at hw2
      clear hw hl
      subst hw2
      replace hst := Lib.hid hst
      go_wp2_with fail
      go_ret
      exact ⟨rfl, hst.out⟩
    | cons k t =>
      have q1 : s'.toList.isEmpty = false := by rw [ByteArray.toList_eq, hl]; rfl
      have hsl : s'.size = t.length + 1 := by
        have : s'.data.toList.length = s'.size := by simp
        rw [hl] at this
        simpa using this.symm
      obtain ⟨g', rfl⟩ : ∃ g', gk = g' + 1 := ⟨gk - 1, by omega⟩
      have hw2 := hw.out
      rw [hl] at hw2
      simp only [walkF] at hw2
      have P := first_any s' k t hl (by omega) wr
      unfold FirstS at P
      have hrl := rd1_len k t
      have hrv := rd1_val k t
      clear hw hl
      generalize rd1 (k :: t) = r1 at *
      obtain ⟨⟨xk, xv⟩, rest, err⟩ := r1
      unfold val at P
      simp only at P hw2 hrl hrv
      obtain ⟨v1, v2, v3⟩ := hrv
      by_cases he : err = 0
      · subst he
        simp only [ne_eq, not_true_eq_false, if_false] at hw2
        by_cases hx : xk = 0
        · subst hx
          simp only [if_true] at hw2
          replace hst := Lib.hid hst; replace hw2 := Lib.hid hw2; replace hsl := Lib.hid hsl; replace hrl := Lib.hid hrl
          go_wp2_with fail
          refine Calls.mono P ?_
          rintro e w1 ⟨r, hr, rfl, hb1⟩
          have H1 := (hst.out.thru hb1).skip (.cells #[.int .i64 0, .string xv] 73)
          clear P hst
          replace H1 := Lib.hid H1; replace hr := Lib.hid hr
          go_wp2_with fail
          go_roundg g'
          case measure => omega
          case rel =>
            have hrs : r.size = rest.length := by rw [← hr.out]; simp
            exact ⟨r, told, rfl, by have := hsl.out; have := hrl.out; omega, by omega, Lib.hid (by rw [hr.out]; exact hw2.out), H1.out⟩
        · have q2 : (xk != 0) = true := by simp [hx]
          simp only [if_neg hx] at hw2
          have hcl := fun W hW => hcall.out told (xk, xv) W hW (by omega) (by unfold isI64; simp only; omega) (by simp only; omega)
          obtain ⟨b, hb⟩ : ∃ b, q (told ++ [(xk, xv)]) = b := ⟨_, rfl⟩
          rw [hb] at hw2
          unfold val at hcl
          simp only [hb] at hcl
          replace hx := Lib.hid hx
          clear hb
          cases b with
          | true =>
            simp only [if_true] at hw2
            replace hst := Lib.hid hst; replace hw2 := Lib.hid hw2; replace hsl := Lib.hid hsl; replace hrl := Lib.hid hrl; replace hcl := Lib.hid hcl
            go_wp2_with fail
            refine Calls.mono P ?_
            rintro e w1 ⟨r, hr, rfl, hb1⟩
            have H1 := (hst.out.thru hb1).skip (.cells #[.int .i64 xk, .string xv] 73)
            have P2 := hcl.out _ H1
            clear P hst H1
            replace hr := Lib.hid hr
            go_wp2_with fail
            refine Calls.mono P2 ?_
            rintro e w2 ⟨rfl, H2⟩
            clear P2
            replace H2 := Lib.hid H2
            go_wp2_with fail
            go_roundg g'
            case measure => omega
            case rel =>
              have hrs : r.size = rest.length := by rw [← hr.out]; simp
              exact ⟨r, told ++ [(xk, xv)], rfl, by have := hsl.out; have := hrl.out; omega, by simp; omega, Lib.hid (by rw [hr.out]; exact hw2.out), H2.out⟩
          | false =>
            simp only [Bool.false_eq_true, if_false] at hw2
            subst hw2
            replace hst := Lib.hid hst; replace hsl := Lib.hid hsl; replace hrl := Lib.hid hrl; replace hcl := Lib.hid hcl
            go_wp2_with fail
            refine Calls.mono P ?_
            rintro e w1 ⟨r, hr, rfl, hb1⟩
            have H1 := (hst.out.thru hb1).skip (.cells #[.int .i64 xk, .string xv] 73)
            have P2 := hcl.out _ H1
            clear P hst H1
            replace hr := Lib.hid hr
            go_wp2_with fail
            refine Calls.mono P2 ?_
            rintro e w2 ⟨rfl, H2⟩
            clear P2
            replace H2 := Lib.hid H2
            go_wp2_with fail
            go_ret
            exact ⟨rfl, H2.out⟩
      · have q2 : (err != 0) = true := by simp [he]
        simp only [ne_eq, he, not_false_eq_true, if_true] at hw2
        subst hw2
        replace he := Lib.hid he
        replace hst := Lib.hid hst; replace hsl := Lib.hid hsl; replace hrl := Lib.hid hrl
        go_wp2_with fail
        refine Calls.mono P ?_
        rintro e w1 ⟨r, hr, rfl, hb1⟩
        have H1 := (hst.out.thru hb1).skip (.cells #[.int .i64 xk, .string xv] 73)
        clear P hst
        replace H1 := Lib.hid H1; replace hr := Lib.hid hr
        go_wp2_with fail
        go_ret
        exact ⟨rfl, H1.out⟩
end Go.Proofs.Ytljgmephajocaaa.Opts
