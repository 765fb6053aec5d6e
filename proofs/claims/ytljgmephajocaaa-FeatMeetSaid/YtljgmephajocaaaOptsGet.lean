/- The walks of opts.Get. -/
import Derived.Test.YtljgmephajocaaaOptsWalk
import Derived.Test.YtljgmephajocaaaStep
import Derived.Shelf.Abstract
namespace Go.Proofs.Ytljgmephajocaaa.Opts
set_option linter.unusedSimpArgs false
set_option linter.unusedVariables false
open Go Go.RowKit Go.Shelf Go.Proofs.Ytljgmephajocaaa
attribute [local irreducible] Calls

theorem el_info : (Try.prog.info? 73).map (fun i => (i.zero, i.size, i.bytes)) = some (some (.agg #[.int .i64 0, .string ⟨#[]⟩]), 2, 24) := by kernel_rfl
/-- A list in a variable of its own. -/
def listA (b : Nat) (l : List El) : Asn := exA fun v => sepA [cellA b [v], rowA 2 v l.length (encs l)]
theorem list_parts {W w : World} {S : Nat → Prop} {b : Nat} {l : List El} {r : List Asn} (h : St W S w (listA b l :: r)) :
    ∃ a cap, St W S w (cellA b [.slice a l.length cap] :: rowA 2 (.slice a l.length cap) l.length (encs l) :: r) := by
  obtain ⟨v, h1⟩ := St.unex 0 h rfl
  have h2 : St W S w (cellA b [v] :: rowA 2 v l.length (encs l) :: r) := St.unsep 0 h1 rfl
  obtain ⟨a, cap, rfl, _⟩ := St.slice (by omega) 1 h2 rfl
  exact ⟨a, cap, h2⟩
theorem list_shut {W w : World} {S : Nat → Prop} {b : Nat} {l : List El} {v : Value} {r : List Asn} (h : St W S w (cellA b [v] :: rowA 2 v l.length (encs l) :: r)) : St W S w (listA b l :: r) :=
  St.ex (fun v => sepA [cellA b [v], rowA 2 v l.length (encs l)]) v (St.join [_, _] r h)
theorem rows_up {W w : World} {S : Nat → Prop} {v : Value} {l : List El} {x : El} {r : List Asn} (h : St W S w (rowA 2 v (l.length + 1) (encs l ++ [.int .i64 x.1, .string x.2]) :: r)) : St W S w (rowA 2 v (l ++ [x]).length (encs (l ++ [x])) :: r) := by
  have h2 : St W S w (rowA 2 v (l.length + 1) (encs l ++ enc x) :: r) := h
  rw [encs_app] at h2
  rw [List.length_append]
  exact h2

set_option maxRecDepth 100000 in
theorem tell_get (b : Nat) (told : List El) (x : El) (w : World) (S : Nat → Prop) (h : (listA b told).holds w S) (hn : told.length ≤ 3000) :
    Calls Try.prog 98 #[val x, .pointer (some ⟨b, 0, none⟩)] w (Fin w S (.bool true) [listA b (told ++ [x])]) := by
  obtain ⟨i0, hi, hz, hz1, hz2⟩ := info_parts el_info
  have H0 := St.start (Sep.one h)
  obtain ⟨a, cap, H⟩ := list_parts H0
  obtain ⟨z, c, f⟩ := H.box 0 rfl
  have H1 := H.skip (.cells #[.int .i64 x.1, .string x.2] 73)
  clear H0 H h
  unfold val
  replace H1 := Lib.hid H1
  go_enter Try.func98, Try.ntmps98
  go_wp2_with (at_builtin; (refine wpList_appS rfl (.tmp 4) (.tmp 6) _ rfl 73 i0 _ 2 24 Try.underlying62 hi hz hz1 hz2 rfl (by omega) 1 _ told.length _ rfl H1.out rfl 1 1 [.int .i64 x.1, .string x.2] rfl rfl (by simp [Value.oneCell']) (by omega) (by omega) ?_; intro wv5 w5 H6; obtain ⟨a6, c6, rfl, _⟩ := St.slice (by omega) 0 H6 rfl; obtain ⟨z6, k6, f6⟩ := H6.box 1 rfl; have H7 := list_shut ((((rows_up (x := x) H6).front 1 rfl).set 0 rfl 0 (.slice a6 (told.length + 1) c6) (by simp))); replace H7 := Lib.hid H7; replace H6 := Lib.hid H6))
  go_ret
  exact ⟨rfl, H7.out⟩

def readL (l : List UInt8) : List El × Int := walkF (fun _ => true) l.length [] l
theorem walkF_ok (q : List El → Bool) : ∀ (f : Nat) (told : List El) (l : List UInt8), (∀ x ∈ told, isI64 x.1 ∧ x.2.size ≤ 3000) → (∀ x ∈ (walkF q f told l).1, isI64 x.1 ∧ x.2.size ≤ 3000) ∧ (walkF q f told l).1.length ≤ told.length + f
  | 0, told, l, h => ⟨h, Nat.le_refl _⟩
  | f + 1, told, [], h => ⟨h, by simp only [walkF]; omega⟩
  | f + 1, told, k :: t, h => by
    obtain ⟨v1, v2, v3⟩ := rd1_val k t
    have hx : ∀ x ∈ told ++ [(rd1 (k :: t)).1], isI64 x.1 ∧ x.2.size ≤ 3000 := by
      intro x hx
      simp only [List.mem_append, List.mem_singleton] at hx
      rcases hx with hx | rfl
      · exact h x hx
      · unfold isI64; omega
    simp only [walkF]
    split
    · exact ⟨h, by simp only; omega⟩
    · split
      · have := walkF_ok q f told (rd1 (k :: t)).2.1 h
        exact ⟨this.1, by omega⟩
      · split
        · have := walkF_ok q f (told ++ [(rd1 (k :: t)).1]) (rd1 (k :: t)).2.1 hx
          refine ⟨this.1, ?_⟩
          have h2 := this.2
          simp only [List.length_append, List.length_cons, List.length_nil] at h2
          omega
        · refine ⟨hx, ?_⟩
          simp only [List.length_append, List.length_cons, List.length_nil]
          omega
theorem readL_few {l : List UInt8} (h : l.length ≤ 3000) : Few (readL l).1 := by
  have := walkF_ok (fun _ => true) l.length [] l (by simp)
  exact ⟨by unfold readL; have := this.2; simp at this; omega, this.1⟩
def getE (l : List UInt8) : Int := if (readL l).2 = 0 then checkL (readL l).1 else (readL l).2
def GetS (l : List UInt8) (w : World) (e : Ending) (w' : World) : Prop :=
  ∃ v, e = .returned (.tuple #[v, .int .i64 (getE l)]) ∧ (if getE l = 0 then St w none0 w' [rowA 2 v (readL l).1.length (encs (readL l).1)] else v = .slice none 0 0 ∧ Below w.heap.size w w')

set_option maxRecDepth 100000 in
theorem get_any (s : ByteArray) (hs : s.size ≤ 3000) (w : World) : Calls Try.prog 39 #[.string s] w (GetS s.data.toList w) := by
  have hsl : s.data.toList.length = s.size := by simp
  have hfew := readL_few (l := s.data.toList) (by omega)
  unfold GetS getE
  have P := fun (w1 : World) (H : St w none0 w1 [listA w.heap.size []]) => walk_any (fun _ => true) 98 #[.pointer (some ⟨w.heap.size, 0, none⟩)] (enters_of Try.func98 (by kernel_rfl) rfl) w none0 (fun l => [listA w.heap.size l])
    (fun told x W hW hn _ _ => Calls.st_at 0 hW rfl fun S hS => tell_get w.heap.size told x W S hS hn) s hs w1 H
  rw [← hsl] at P
  have hrl : walkF (fun _ => true) s.data.toList.length [] s.data.toList = readL s.data.toList := rfl
  rw [hrl] at P
  clear hrl
  generalize readL s.data.toList = R at *
  obtain ⟨L, er⟩ := R
  simp only at P hfew ⊢
  have H0 := list_shut (l := []) (((St.zero w).row_nil (size := 2)).alloc [.slice none 0 0] 62)
  have P1 := P _ H0
  clear P H0 hsl
  replace hfew := Lib.hid hfew
  by_cases he : er = 0
  · subst he
    obtain ⟨ck, hck⟩ : ∃ ck, checkL L = ck := ⟨_, rfl⟩
    have C := fun W a cap h => check_any L L.length rfl hfew.out a cap W h
    simp only [if_true]
    rw [hck] at C ⊢
    clear hck
    replace C := Lib.hid C
    by_cases hc : ck = 0
    · subst hc
      simp only [if_true]
      go_enter Try.func39, Try.ntmps39
      go_wp2_with fail
      refine Calls.mono P1 ?_
      rintro e w1 ⟨rfl, H1⟩
      obtain ⟨a1, c1, H2⟩ := list_parts H1
      obtain ⟨z2, k2, f2⟩ := H2.box 0 rfl
      have P2 := C.out w1 a1 c1 (St.rd (by omega) 1 H2 rfl)
      clear P1 H1
      replace H2 := Lib.hid H2
      go_wp2_with fail
      refine Calls.mono P2 ?_
      rintro e w2 ⟨rfl, hb2⟩
      have H3 := H2.out.thru hb2
      obtain ⟨z3, k3, f3⟩ := H3.box 0 rfl
      clear P2 H2
      replace H3 := Lib.hid H3
      go_wp2_with fail
      go_ret2
      exact ⟨_, rfl, H3.out.drop 0 rfl⟩
    · have q : (ck != 0) = true := by simp [hc]
      simp only [if_neg hc]
      replace hc := Lib.hid hc
      go_enter Try.func39, Try.ntmps39
      go_wp2_with fail
      refine Calls.mono P1 ?_
      rintro e w1 ⟨rfl, H1⟩
      obtain ⟨a1, c1, H2⟩ := list_parts H1
      obtain ⟨z2, k2, f2⟩ := H2.box 0 rfl
      have P2 := C.out w1 a1 c1 (St.rd (by omega) 1 H2 rfl)
      clear P1 H1
      replace H2 := Lib.hid H2
      go_wp2_with fail
      refine Calls.mono P2 ?_
      rintro e w2 ⟨rfl, hb2⟩
      have H3 := H2.out.thru hb2
      clear P2 H2
      replace H3 := Lib.hid H3
      go_wp2_with fail
      go_ret2
      exact ⟨_, rfl, rfl, H3.out.below⟩
  · have q : (er == 0) = false := by simp [he]
    have q2 : (er != 0) = true := by simp [he]
    simp only [if_neg he]
    replace he := Lib.hid he
    go_enter Try.func39, Try.ntmps39
    go_wp2_with fail
    refine Calls.mono P1 ?_
    rintro e w1 ⟨rfl, H1⟩
    clear P1
    replace H1 := Lib.hid H1
    go_wp2_with fail
    go_ret2
    exact ⟨_, rfl, rfl, H1.out.below⟩
end Go.Proofs.Ytljgmephajocaaa.Opts
