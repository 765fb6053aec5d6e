/- The walks of bytes in writing: the answer of Bytes. -/
import Derived.Test.YtkphbgicffhceaaDoorWordBytes
namespace Go.Proofs.YtkphbgicffhceaaDoor.Words
set_option linter.unusedSimpArgs false
set_option linter.unusedVariables false
open Go Go.RowKit Go.Proofs.YtkphbgicffhceaaDoor
attribute [local irreducible] Calls

/-- What the answer says of bytes in writing. -/
def RB (l : List UInt8) (w : World) (e : Ending) (w' : World) : Prop := ∃ t ok, e = .returned (.tuple #[.string t, .bool ok]) ∧ Below w.heap.size w w' ∧ ok = (bytesV l).2 ∧ (ok = true → t = strL (bytesV l).1)
theorem bytes_i : ∀ x y : _root_.Fin 16, IntKind.u8.wrap (16 * (x.val : Int) + (y.val : Int)) = ((16 * x.val + y.val : Nat) : Int) := by decide +kernel
set_option maxRecDepth 100000 in
theorem rbytes_any (s : ByteArray) (hs : s.size ≤ 2010) (w : World) : Calls Tryd.prog 18 #[.string s] w (RB s.data.toList w) := by
  obtain ⟨l, hl⟩ : ∃ l, l = s.data.toList := ⟨_, rfl⟩
  have hsz : l.length = s.size := by rw [hl]; simp
  rw [← hl]
  by_cases hd : l = [45]
  · have hse : s = ⟨#[45]⟩ := strL_inj (by rw [← hl, hd])
    have hv : bytesV l = ([], true) := by unfold bytesV; rw [if_pos hd]
    subst hse
    clear hl hsz hd
    replace hv := Lib.hid hv
    go_enter Tryd.func18, Tryd.ntmps18
    go_wp2_with fail
    go_ret2
    exact ⟨_, _, rfl, (by repeat (first | with_reducible exact Below.refl _ _ | (with_reducible refine Below.al ?_) | (with_reducible refine Below.drew ?_) | (with_reducible refine Below.set ?_ (by first | (simp; done) | omega | (simp; omega))) | (with_reducible refine Below.thru ?_ (by assumption)) | (with_reducible refine Below.chg ?_ (by assumption) (by first | (simp; done) | omega | (simp; omega))))), (congrArg Prod.snd hv.out).symm, fun _ => (congrArg (fun p : List UInt8 × Bool => strL p.1) hv.out).symm⟩
  · have hse : ¬ s = ⟨#[45]⟩ := fun e => hd (by rw [hl, e])
    have kd' : decide (s = ⟨#[45]⟩) = false := decide_eq_false hse
    have kd2 : (s.toList == [45]) = false := by rw [ByteArray.toList_eq, ← hl]; exact beq_eq_false_iff_ne.2 hd
    obtain ⟨M, hM1, hM2⟩ : ∃ M, 2 * M ≤ s.size ∧ s.size ≤ 2 * M + 1 := ⟨s.size / 2, by omega, by omega⟩
    replace hl := Lib.hid hl; replace hsz := Lib.hid hsz; replace hd := Lib.hid hd; replace hse := Lib.hid hse
    go_enter Tryd.func18, Tryd.ntmps18
    go_wp2_with fail
    go_loopg [4, 5] M (fun g tv i wr => ∃ (k j : Nat) (rk : List UInt8), k ≤ M ∧ Hid (g = M - k) ∧ Hid (j = 2 * k) ∧ i = .int .i64 j ∧ tv = .string (strL rk) ∧ Hid (bytesF (l.take (2 * k)) = some rk) ∧ Below w.heap.size w wr)
    case atStart => exact ⟨0, 0, [], by omega, Lib.hid rfl, Lib.hid rfl, rfl, rfl, Lib.hid rfl, (by repeat (first | with_reducible exact Below.refl _ _ | (with_reducible refine Below.al ?_) | (with_reducible refine Below.drew ?_) | (with_reducible refine Below.set ?_ (by first | (simp; done) | omega | (simp; omega))) | (with_reducible refine Below.thru ?_ (by assumption)) | (with_reducible refine Below.chg ?_ (by assumption) (by first | (simp; done) | omega | (simp; omega)))))⟩
    case round =>
      obtain ⟨k, j, rk, hk, hg, hj, rfl, rfl, hrk, hbw⟩ := hrel
      have hjb : j ≤ 2010 := by have := hj.out; omega
      have hrl := bytesF_len _ _ hrk.out
      rw [List.length_take] at hrl
      by_cases hlt : k < M
      · have hj0 : j < s.size := by have := hj.out; omega
        have hj1 : j + 1 < s.size := by have := hj.out; omega
        have hjl : 2 * k + 1 < l.length := by have := hsz.out; have := hj.out; omega
        have hc0 : s[j] = l[2 * k] := at_eq hl.out hj0 (by omega) hj.out
        have hc1 : s[j + 1] = l[2 * k + 1] := at_eq hl.out hj1 hjl (by rw [hj.out])
        have hbad := fun hx => bytes_bad hjl hrk.out hx
        have hstep := fun x y hx hy => bytes_step (x := x) (y := y) hjl hrk.out hx hy
        rw [← hc0, ← hc1] at hbad hstep
        have q : decide ((j : Int) + 1 < (s.size : Int)) = true := decide_eq_true (by omega)
        have g1 : 0 ≤ (j : Int) + 1 := by omega
        have g2 : (j : Int) + 1 < (s.size : Int) := by omega
        have b0 : (s[j]).toNat < 256 := UInt8.toNat_lt _
        have b1 : (s[j + 1]).toNat < 256 := UInt8.toNat_lt _
        have P1 := fun w => value_any (s[j]).toNat b0 w
        have P2 := fun w => value_any (s[j + 1]).toNat b1 w
        have hrk1 : rk.length = k := by omega
        clear hc0 hc1 hrl
        by_cases hbb : hvN (s[j]).toNat = none ∨ hvN (s[j + 1]).toNat = none
        · have hnone := hbad hbb
          have hv : (bytesV l).2 = false := by
            unfold bytesV
            rw [if_neg hd.out, hnone]
            split <;> rfl
          clear hbad hstep hnone hrk
          replace hv := Lib.hid hv
          cases h1 : hvN (s[j]).toNat with
          | none =>
            have e1 : hvI (s[j]).toNat = -1 := by unfold hvI; rw [h1]
            rw [e1] at P1
            generalize hvI (s[j + 1]).toNat = y at P2
            clear h1 hbb e1
            replace P1 := Lib.hid P1; replace P2 := Lib.hid P2
            go_wp2_with fail
            refine wp_region_near (by kernel_rfl) (by kernel_rfl) ?_
            intro hs
            repeat (go_big_quiet_step ((first | (go_at_call 26; exact Calls.near (by simp) (P1.out _)) | (go_at_call 26; exact Calls.near (by simp) (P2.out _)))))
            refine wpQuiet_nil ?_
            clear hs
            intro w2 hb2
            have hbw2 : Below w.heap.size w w2 := Below.thru hbw hb2
            clear P1 P2
            go_wp2_with fail
            go_ret2
            exact ⟨_, _, rfl, (by repeat (first | with_reducible exact Below.refl _ _ | (with_reducible refine Below.al ?_) | (with_reducible refine Below.drew ?_) | (with_reducible refine Below.set ?_ (by first | (simp; done) | omega | (simp; omega))) | (with_reducible refine Below.thru ?_ (by assumption)) | (with_reducible refine Below.chg ?_ (by assumption) (by first | (simp; done) | omega | (simp; omega))))), hv.out.symm, fun h => absurd (show false = true from h) (by decide)⟩
          | some x =>
            have h2 : hvN (s[j + 1]).toNat = none := by rcases hbb with h | h; rw [h1] at h; cases h; exact h
            have e1 : hvI (s[j]).toNat = (x : Int) := by unfold hvI; rw [h1]
            have e2 : hvI (s[j + 1]).toNat = -1 := by unfold hvI; rw [h2]
            rw [e1] at P1
            rw [e2] at P2
            clear h1 h2 hbb e1 e2
            have kx : decide ((x : Int) < 0) = false := decide_eq_false (by omega)
            replace P1 := Lib.hid P1; replace P2 := Lib.hid P2
            go_wp2_with fail
            refine wp_region_near (by kernel_rfl) (by kernel_rfl) ?_
            intro hs
            repeat (go_big_quiet_step ((first | (go_at_call 26; exact Calls.near (by simp) (P1.out _)) | (go_at_call 26; exact Calls.near (by simp) (P2.out _)))))
            refine wpQuiet_nil ?_
            clear hs
            intro w2 hb2
            have hbw2 : Below w.heap.size w w2 := Below.thru hbw hb2
            clear P1 P2
            go_wp2_with fail
            go_ret2
            exact ⟨_, _, rfl, (by repeat (first | with_reducible exact Below.refl _ _ | (with_reducible refine Below.al ?_) | (with_reducible refine Below.drew ?_) | (with_reducible refine Below.set ?_ (by first | (simp; done) | omega | (simp; omega))) | (with_reducible refine Below.thru ?_ (by assumption)) | (with_reducible refine Below.chg ?_ (by assumption) (by first | (simp; done) | omega | (simp; omega))))), hv.out.symm, fun h => absurd (show false = true from h) (by decide)⟩
        · obtain ⟨x, h1⟩ : ∃ x, hvN (s[j]).toNat = some x := by
            cases h : hvN (s[j]).toNat with
            | none => exact absurd (Or.inl h) hbb
            | some x => exact ⟨x, rfl⟩
          obtain ⟨y, h2⟩ : ∃ y, hvN (s[j + 1]).toNat = some y := by
            cases h : hvN (s[j + 1]).toNat with
            | none => exact absurd (Or.inr h) hbb
            | some x => exact ⟨x, rfl⟩
          have hst := hstep x y h1 h2
          obtain ⟨hx16, _⟩ := hv_dig h1
          obtain ⟨hy16, _⟩ := hv_dig h2
          have e1 : hvI (s[j]).toNat = (x : Int) := by unfold hvI; rw [h1]
          have e2 : hvI (s[j + 1]).toNat = (y : Int) := by unfold hvI; rw [h2]
          rw [e1] at P1
          rw [e2] at P2
          clear h1 h2 hbb hbad hstep e1 e2
          have kx : decide ((x : Int) < 0) = false := decide_eq_false (by omega)
          have ky : decide ((y : Int) < 0) = false := decide_eq_false (by omega)
          have hszr : (strL rk).size = k := by rw [strL_size]; exact hrk1
          have hkk : k ≤ 1005 := by omega
          clear hrk1
          replace P1 := Lib.hid P1; replace P2 := Lib.hid P2; replace hst := Lib.hid hst
          go_wp2_with fail
          refine wp_region_near (by kernel_rfl) (by kernel_rfl) ?_
          intro hs
          repeat (go_big_quiet_step ((first | (go_at_call 26; exact Calls.near (by simp) (P1.out _)) | (go_at_call 26; exact Calls.near (by simp) (P2.out _)))))
          refine wpQuiet_nil ?_
          clear hs
          intro w2 hb2
          have hbw2 : Below w.heap.size w w2 := Below.thru hbw hb2
          have E1 := (St.zero w2).alloc [.int .u8 (((16 * x + y : Nat)) : Int)] 5
          have hstr := run_byte (P := Tryd.prog) _ _ _ Tryd.underlying39 Tryd.underlying5 Tryd.underlying9 (by omega : 16 * x + y < 256) (E1.box 0 rfl)
          have e48 : ((16 * x + y : Nat) : Int) = 16 * (x : Int) + (y : Int) := by omega
          rw [e48] at hstr
          obtain ⟨z, hz⟩ : ∃ z, z = UInt8.ofNat (16 * x + y) := ⟨_, rfl⟩
          have hsz1 : (ByteArray.mk #[UInt8.ofNat (16 * x + y)]).size = 1 := rfl
          rw [← hz] at hstr hsz1
          replace hst := hst.out
          rw [← hz] at hst
          replace hst := Lib.hid hst
          clear hz E1 e48 P1 P2
          go_wp2_with fail
          go_roundg (M - (k + 1))
          case measure => have := hg.out; omega
          case rel => exact ⟨k + 1, j + 2, rk ++ [z], by omega, Lib.hid rfl, Lib.hid (by rw [hj.out]; omega), by go_num, by rw [← strL_app]; rfl, hst, (by repeat (first | with_reducible exact Below.refl _ _ | (with_reducible refine Below.al ?_) | (with_reducible refine Below.drew ?_) | (with_reducible refine Below.set ?_ (by first | (simp; done) | omega | (simp; omega))) | (with_reducible refine Below.thru ?_ (by assumption)) | (with_reducible refine Below.chg ?_ (by assumption) (by first | (simp; done) | omega | (simp; omega)))))⟩
      · obtain rfl : k = M := by omega
        have hrk1 : rk.length = k := by have := hsz.out; omega
        have q : decide ((j : Int) + 1 < (s.size : Int)) = false := decide_eq_false (by have := hj.out; omega)
        have hszr : (strL rk).size = k := by rw [strL_size]; exact hrk1
        by_cases h0 : s.size = 0
        · have q0 : decide ((0 : Int) < (s.size : Int)) = false := decide_eq_false (by omega)
          have q0' : decide (0 < s.size) = false := decide_eq_false (by omega)
          have hv : (bytesV l).2 = false := by
            unfold bytesV
            rw [if_neg hd.out, if_pos (Or.inl (List.eq_nil_of_length_eq_zero (by have := hsz.out; omega)))]
          have h0n : ¬ 0 < s.size := by omega
          clear hrk hrl hrk1 h0
          replace hv := Lib.hid hv
          go_wp2_with fail
          go_ret2
          exact ⟨_, _, rfl, (by repeat (first | with_reducible exact Below.refl _ _ | (with_reducible refine Below.al ?_) | (with_reducible refine Below.drew ?_) | (with_reducible refine Below.set ?_ (by first | (simp; done) | omega | (simp; omega))) | (with_reducible refine Below.thru ?_ (by assumption)) | (with_reducible refine Below.chg ?_ (by assumption) (by first | (simp; done) | omega | (simp; omega))))), hv.out.symm, fun h => absurd (show false = true from h) (by decide)⟩
        · have q0 : decide ((0 : Int) < (s.size : Int)) = true := decide_eq_true (by omega)
          have q0' : decide (0 < s.size) = true := decide_eq_true (by omega)
          have q0n : 0 < s.size := by omega
          have hlne : l ≠ [] := by intro h; have := hsz.out; rw [h] at this; simp at this; omega
          by_cases hodd : s.size = 2 * k
          · have k3 : ((2 * (k : Int)) == (s.size : Int)) = true := by simp; omega
            have hall : l.take (2 * k) = l := List.take_of_length_le (by have := hsz.out; omega)
            have hb := hrk.out
            rw [hall] at hb
            have hv : bytesV l = (rk, true) := by
              unfold bytesV
              rw [if_neg hd.out, if_neg (by rintro (h | h); exact hlne h; have := hsz.out; omega), hb]
              rfl
            clear hrk hrl hrk1 h0 hlne hodd hall hb
            replace hv := Lib.hid hv
            go_wp2_with fail
            go_ret2
            exact ⟨_, _, rfl, (by repeat (first | with_reducible exact Below.refl _ _ | (with_reducible refine Below.al ?_) | (with_reducible refine Below.drew ?_) | (with_reducible refine Below.set ?_ (by first | (simp; done) | omega | (simp; omega))) | (with_reducible refine Below.thru ?_ (by assumption)) | (with_reducible refine Below.chg ?_ (by assumption) (by first | (simp; done) | omega | (simp; omega))))), (congrArg Prod.snd hv.out).symm, fun _ => (congrArg (fun p : List UInt8 × Bool => strL p.1) hv.out).symm⟩
          · have k3 : ((2 * (k : Int)) == (s.size : Int)) = false := by simp; omega
            have hv : (bytesV l).2 = false := by
              unfold bytesV
              rw [if_neg hd.out, if_pos (Or.inr (by have := hsz.out; omega))]
            clear hrk hrl hrk1 h0 hlne hodd
            replace hv := Lib.hid hv
            go_wp2_with fail
            go_ret2
            exact ⟨_, _, rfl, (by repeat (first | with_reducible exact Below.refl _ _ | (with_reducible refine Below.al ?_) | (with_reducible refine Below.drew ?_) | (with_reducible refine Below.set ?_ (by first | (simp; done) | omega | (simp; omega))) | (with_reducible refine Below.thru ?_ (by assumption)) | (with_reducible refine Below.chg ?_ (by assumption) (by first | (simp; done) | omega | (simp; omega))))), hv.out.symm, fun h => absurd (show false = true from h) (by decide)⟩
end Go.Proofs.YtkphbgicffhceaaDoor.Words
