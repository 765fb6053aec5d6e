/- The walk of sift's Latest; those of Put where none is. -/
import Derived.Test.YtiaefmmcakagpaaSiftDue
namespace Go.Proofs.Ytiaefmmcakagpaa.Sift
set_option linter.unusedSimpArgs false
set_option linter.unusedVariables false
open Go Go.RowKit Go.Shelf Go.Proofs.Ytiaefmmcakagpaa
open Go.Proofs.Ytiaefmmcakagpaa.DockWait (El enc val encs dockA dock_open dock_parts dock_shut placed headV)
attribute [local irreducible] Calls
attribute [local go_sem] Oper.semAt_some

def lateN (a : Int) (l : List El) : Int := l.foldl (fun a x => max a x.2.2) a
def lateM (l : List El) : Int × Bool := if l = [] then (0, false) else (lateN (headV l).2.2 l, true)
theorem lateN_snoc (a : Int) (l : List El) (x : El) : lateN a (l ++ [x]) = max (lateN a l) x.2.2 := by simp [lateN]
def lateI (b s d : Nat) (c a : Int) (pre : List El) : List Asn := [sepA [cellA b [.int .i64 (lateN a pre)], cellA s [.pointer (some ⟨d, 0, none⟩), .int .i64 c]]]
theorem latest_none (w : World) : Calls Try.prog 29 #[.pointer none] w (Ret w (.tuple #[.int .i64 0, .bool false])) := by
  have P := len_none w
  replace P := Lib.hid P
  refine callsIn_wide.1 (callsIn_of_wp_marks (n := 10) Try.func29 rfl trivial ?_ rfl)
  simp only [Try.ntmps29, List.size_toArray, List.length_cons, List.length_nil, Nat.reduceAdd, Nat.reduceSub, Array.replicate_succ, Array.replicate_zero, List.push_toArray, List.append_toArray, List.nil_append, List.cons_append]
  gi_wp2
  refine ⟨trivial, (callsIn_wide.2 P.out).mono ?_⟩
  rintro e w1 ⟨rfl, hb1⟩
  simp only []
  gi_wp2
  exact ⟨.tuple #[.int .i64 0, .bool false], by simp [results, Try.results29, go_sem], rfl, hb1⟩
set_option maxRecDepth 100000 in
set_option maxHeartbeats 1000000 in
theorem latest_any (s : Nat) (c : Int) (l : List El) (hl : l.length ≤ 100000) (w : World) (S : Nat → Prop) (h : (siftA s c l).holds w S) :
    Calls Try.prog 29 #[.pointer (some ⟨s, 0, none⟩)] w (Fin w S (.tuple #[.int .i64 (lateM l).1, .bool (lateM l).2]) [siftA s c l]) := by
  obtain ⟨R, hR⟩ : ∃ R, R = lateM l := ⟨_, rfl⟩
  rw [← hR]
  have P := len_any s c l w S h
  have H0 : St w S w [siftA s c l] := St.start (Sep.one h)
  unfold lateM at hR
  clear h
  by_cases he : l = []
  · rw [if_pos he] at hR
    subst hR
    have q1 : ((l.length : Int) == 0) = true := by simp [he]
    have q2 : decide ((l.length : Int) = 0) = true := decide_eq_true (by simp [he])
    replace he := Lib.hid he
    replace P := Lib.hid P; replace H0 := Lib.hid H0
    refine callsIn_wide.1 (callsIn_of_wp_marks (n := 10) Try.func29 rfl trivial ?_ rfl)
    simp only [Try.ntmps29, List.size_toArray, List.length_cons, List.length_nil, Nat.reduceAdd, Nat.reduceSub, Array.replicate_succ, Array.replicate_zero, List.push_toArray, List.append_toArray, List.nil_append, List.cons_append]
    gi_wp2
    refine ⟨trivial, (callsIn_wide.2 P.out).mono ?_⟩
    rintro e w1 ⟨rfl, hb1⟩
    simp only []
    gi_wp2
    exact ⟨.tuple #[.int .i64 0, .bool false], by simp [results, Try.results29, go_sem], rfl, H0.out.thru hb1⟩
  · rw [if_neg he] at hR
    have hpos : 0 < l.length := List.length_pos_iff.2 he
    have q1 : ((l.length : Int) == 0) = false := by simp; omega
    have q2 : decide ((l.length : Int) = 0) = false := decide_eq_false (by omega)
    replace he := Lib.hid he
    replace P := Lib.hid P; replace H0 := Lib.hid H0; replace hR := Lib.hid hR
    refine callsIn_wide.1 (callsIn_of_wp_marks (n := 10) Try.func29 rfl trivial ?_ rfl)
    simp only [Try.ntmps29, List.size_toArray, List.length_cons, List.length_nil, Nat.reduceAdd, Nat.reduceSub, Array.replicate_succ, Array.replicate_zero, List.push_toArray, List.append_toArray, List.nil_append, List.cons_append]
    gi_wp2
    refine ⟨trivial, (callsIn_wide.2 P.out).mono ?_⟩
    rintro e w1 ⟨rfl, hb1⟩
    obtain ⟨d, H1⟩ := sift_parts (H0.out.thru hb1)
    obtain ⟨z1, k1, f1⟩ := H1.box 0 rfl
    obtain ⟨SD, hSD⟩ := H1.held 1 rfl
    have P2 := DockWait.first_any d 33 l w1 SD hSD
    obtain ⟨y, hy⟩ : ∃ y, y = headV l := ⟨_, rfl⟩
    rw [← hy] at P2 hR
    obtain ⟨y1, y2, y3⟩ := y
    simp only [val] at P2
    clear P H0 hSD
    simp only []
    replace P2 := Lib.hid P2; replace H1 := Lib.hid H1; replace hy := Lib.hid hy
    gi_wp2
    refine ⟨trivial, (callsIn_wide.2 P2.out).mono ?_⟩
    rintro e w2 ⟨rfl, hb2⟩
    have H2 := ((H1.out.thru hb2).alloc [.int .i64 y1, .string y2, .int .i64 y3] 98)
    obtain ⟨z2, k2, f2⟩ := H2.box 0 rfl
    have H3 := H2.alloc [.int .i64 y3] 3
    simp only [World.size_alloc] at H3
    obtain ⟨z3, k3, f3⟩ := H3.box 2 rfl
    clear P2 H1 H2 hb1 z1 k1 f1
    simp only []
    replace H3 := Lib.hid H3
    gi_wp2
    refine ⟨trivial, (callsIn_wide.2 (DockWait.all_new d _)).mono ?_⟩
    rintro e w3 ⟨b1, rfl, HA⟩
    simp only []
    have H4 : St w S w3 [cellA b1 [.pointer (some ⟨d, 0, none⟩)], cellA (w2.heap.size + 1) [.int .i64 y3], cellA w2.heap.size [.int .i64 y1, .string y2, .int .i64 y3], cellA s [.pointer (some ⟨d, 0, none⟩), .int .i64 c], dockA d 33 l] := (H3.out.add HA)
    have H5 : St w S w3 ([cellA b1 [.pointer (some ⟨d, 0, none⟩)], dockA d 33 l] ++ lateI (w2.heap.size + 1) s d c y3 []) := (St.join [_, _] [_, _] ((H4.drop 2 rfl).arr [1, 2, 0, 3] rfl)).arr [1, 2, 0] rfl
    clear H3 H4 HA
    gi_wp2
    refine wpIn_range_st2 rfl (by decide) (gf := 100) (lb := #[.pointer (some ⟨b1, 0, none⟩)]) rfl trivial (enters_of Try.func100 (by kernel_rfl) rfl)
      (DockWait.all_iter _ d b1 33 l hl w S) (fun _ => rfl) (lateI (w2.heap.size + 1) s d c y3) (fun _ _ => [andA False (sepA [])]) H5 ?round ?done ?stop
    case stop =>
      intro D c pre x suf w2 _ hs
      exact (hs.unand 3 rfl).1.elim
    case round =>
      intro L pre x suf w1 hx
      obtain ⟨x1, x2, x3⟩ := x
      unfold val
      gi_wp2
      refine ⟨cellA w1.heap.size [.int .i64 x1, .string x2, .int .i64 x3], fun l' h => h.alloc _ _, ?_⟩
      intro p w5 hs
      have h2 : St w S w5 (cellA (w2.heap.size + 1) [.int .i64 (lateN y3 pre)] :: cellA s [.pointer (some ⟨d, 0, none⟩), .int .i64 c] :: cellA w1.heap.size [.int .i64 x1, .string x2, .int .i64 x3] :: p) := St.unsep 0 (hs.perm (List.perm_append_comm (l₁ := _ :: p))) rfl
      obtain ⟨z0, c0, f0⟩ := h2.box 0 rfl
      obtain ⟨z3, c3, f3⟩ := h2.box 2 rfl
      clear hs H5
      have hsn := lateN_snoc y3 pre (x1, x2, x3)
      simp only [] at hsn
      have h4 := ((h2.set 0 rfl 0 (.int .i64 (max (lateN y3 pre) x3)) (by simp))).drop 2 rfl
      replace h2 := Lib.hid h2; replace hx := Lib.hid hx; replace h4 := Lib.hid h4; replace hsn := Lib.hid hsn
      gi_wp2
      refine (St.join [_, _] p (?_ : St w S _ (cellA (w2.heap.size + 1) [.int .i64 (lateN y3 (pre ++ [(x1, x2, x3)]))] :: cellA s [.pointer (some ⟨d, 0, none⟩), .int .i64 c] :: p))).perm (List.perm_append_comm (l₁ := [_]))
      rw [hsn.out]
      exact h4.out
    case done =>
      intro D w5 hs
      have h0 := St.arr (l := [objA D (.deferred (some [])), cellA b1 [.pointer (some ⟨d, 0, none⟩)], dockA d 33 l, sepA [cellA (w2.heap.size + 1) [.int .i64 (lateN y3 l)], cellA s [.pointer (some ⟨d, 0, none⟩), .int .i64 c]]]) hs [3, 0, 1, 2] rfl
      have h2 := St.unsep 0 h0 rfl
      obtain ⟨z7, c7, f7⟩ := h2.box 0 rfl
      have hD := h2.obj 2 rfl
      have HP := h2.putObj 2 rfl (.deferred none)
      have HF : St w S _ [siftA s c l] := (sift_shut (HP.arrN [2, 4, 0, 1, 3] rfl)).drops 1
      clear hs h0 h2 H5 HP
      replace hD := Lib.hid hD; replace HF := Lib.hid HF
      gi_wp2
      refine ⟨by simp, .inl ⟨_, _, rfl, run_takeDeferred hD.out, ?_⟩⟩
      exact ⟨.tuple #[.int .i64 (lateN y3 l), .bool true], by simp [results, Try.results29, go_sem], by rw [hR.out], HF.out⟩
end Go.Proofs.Ytiaefmmcakagpaa.Sift
