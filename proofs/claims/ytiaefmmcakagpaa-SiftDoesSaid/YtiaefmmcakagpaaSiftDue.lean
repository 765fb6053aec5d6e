/- The walks of sift's Due and Latest. -/
import Derived.Test.YtiaefmmcakagpaaSiftPut
namespace Go.Proofs.Ytiaefmmcakagpaa.Sift
set_option linter.unusedSimpArgs false
set_option linter.unusedVariables false
open Go Go.RowKit Go.Shelf Go.Proofs.Ytiaefmmcakagpaa
open Go.Proofs.Ytiaefmmcakagpaa.DockWait (El enc val encs dockA dock_open dock_parts dock_shut placed headV)
attribute [local irreducible] Calls
attribute [local go_sem] Oper.semAt_some

def dueN (now : Int) (l : List El) : Int := l.foldl (fun a x => if x.2.2 ≤ now then x.1 else a) 0
def dueM (c : Int) (l : List El) (now : Int) : List Dg × Int × List El := if dueN now l = 0 then ([], c, l) else upM (dueN now l) c l
theorem due_none (now : Int) (w : World) : Calls Try.prog 23 #[.pointer none, .int .i64 now] w (Ret w (.slice none 0 0)) := by
  have H := (St.zero w).alloc [.int .i64 now] 3
  replace H := Lib.hid H
  refine callsIn_wide.1 (callsIn_of_wp_marks (n := 10) Try.func23 rfl trivial ?_ rfl)
  simp only [Try.ntmps23, List.size_toArray, List.length_cons, List.length_nil, Nat.reduceAdd, Nat.reduceSub, Array.replicate_succ, Array.replicate_zero, List.push_toArray, List.append_toArray, List.nil_append, List.cons_append]
  gi_wp2
  exact ⟨.slice none 0 0, by simp [results, Try.results23, go_sem], rfl, H.out.below⟩
def dueI (b s d : Nat) (c now : Int) (pre : List El) : List Asn := [sepA [cellA b [.int .i64 now], cellA (b + 1) [.int .i64 (dueN now pre)], cellA s [.pointer (some ⟨d, 0, none⟩), .int .i64 c]]]
theorem dueN_snoc (now : Int) (l : List El) (x : El) : dueN now (l ++ [x]) = if x.2.2 ≤ now then x.1 else dueN now l := by simp [dueN]
set_option maxRecDepth 100000 in
set_option maxHeartbeats 1000000 in
theorem due_any (s : Nat) (c : Int) (l : List El) (now : Int) (hl : l.length ≤ 100000) (hc0 : 0 ≤ c) (hc1 : c ≤ top) (hb : ∀ x ∈ l, 0 < x.1 ∧ x.1 ≤ top) (w : World) (S : Nat → Prop) (h : (siftA s c l).holds w S) :
    Calls Try.prog 23 #[.pointer (some ⟨s, 0, none⟩), .int .i64 now] w (fun e w' => ∃ v', e = .returned v' ∧ St w S w' [rowA 2 v' (dueM c l now).1.length (dgs (dueM c l now).1), siftA s (dueM c l now).2.1 (dueM c l now).2.2]) := by
  obtain ⟨R, hR⟩ : ∃ R, R = dueM c l now := ⟨_, rfl⟩
  rw [← hR]
  obtain ⟨d, H⟩ := sift_open h
  have H0 := (H.alloc [.int .i64 now] 3).alloc [.int .i64 0] 3
  simp only [World.size_alloc] at H0
  obtain ⟨z, k, f⟩ := H.box 0 rfl
  clear h H
  replace H0 := Lib.hid H0; replace hb := Lib.hid hb; replace hR := Lib.hid hR
  refine callsIn_wide.1 (callsIn_of_wp_marks (n := 10) Try.func23 rfl trivial ?_ rfl)
  simp only [Try.ntmps23, List.size_toArray, List.length_cons, List.length_nil, Nat.reduceAdd, Nat.reduceSub, Array.replicate_succ, Array.replicate_zero, List.push_toArray, List.append_toArray, List.nil_append, List.cons_append]
  gi_wp2
  refine ⟨trivial, (callsIn_wide.2 (DockWait.all_new d _)).mono ?_⟩
  rintro e w1 ⟨b1, rfl, HA⟩
  simp only []
  have H1 : St w S w1 [cellA b1 [.pointer (some ⟨d, 0, none⟩)], cellA (w.heap.size + 1) [.int .i64 0], cellA w.heap.size [.int .i64 now], cellA s [.pointer (some ⟨d, 0, none⟩), .int .i64 c], dockA d 33 l] := (H0.out.add HA)
  have H3 : St w S w1 ([cellA b1 [.pointer (some ⟨d, 0, none⟩)], dockA d 33 l] ++ dueI w.heap.size s d c now []) := (St.join [_, _, _] [_, _] (H1.arr [2, 1, 3, 0, 4] rfl)).arr [1, 2, 0] rfl
  clear H0 H1 HA
  gi_wp2
  refine wpIn_range_st2 rfl (by decide) (gf := 100) (lb := #[.pointer (some ⟨b1, 0, none⟩)]) rfl trivial (enters_of Try.func100 (by kernel_rfl) rfl)
    (DockWait.all_iter _ d b1 33 l hl w S) (fun _ => rfl) (dueI w.heap.size s d c now) (fun _ _ => [andA False (sepA [])]) H3 ?round ?done ?stop
  case stop =>
    intro D c pre x suf w2 _ hs
    exact (hs.unand 3 rfl).1.elim
  case round =>
    intro L pre x suf w1 hx
    obtain ⟨x1, x2, x3⟩ := x
    unfold val
    gi_wp2
    refine ⟨cellA w1.heap.size [.int .i64 x1, .string x2, .int .i64 x3], fun l' h => h.alloc _ _, ?_⟩
    intro p w3 hs
    have h2 : St w S w3 (cellA w.heap.size [.int .i64 now] :: cellA (w.heap.size + 1) [.int .i64 (dueN now pre)] :: cellA s [.pointer (some ⟨d, 0, none⟩), .int .i64 c] :: cellA w1.heap.size [.int .i64 x1, .string x2, .int .i64 x3] :: p) := St.unsep 0 (hs.perm (List.perm_append_comm (l₁ := _ :: p))) rfl
    obtain ⟨z0, c0, f0⟩ := h2.box 0 rfl
    obtain ⟨z1, c1, f1⟩ := h2.box 1 rfl
    obtain ⟨z3, c3, f3⟩ := h2.box 3 rfl
    clear hs H3
    have hsn := dueN_snoc now pre (x1, x2, x3)
    simp only [] at hsn
    by_cases hq : x3 ≤ now
    · have hq2 : decide (x3 ≤ now) = true := decide_eq_true hq
      rw [if_pos hq] at hsn
      have h4 := ((h2.set 1 rfl 0 (.int .i64 x1) (by simp))).drop 3 rfl
      replace h2 := Lib.hid h2; replace hx := Lib.hid hx; replace h4 := Lib.hid h4; replace hsn := Lib.hid hsn
      gi_wp2
      refine (St.join [_, _, _] p (?_ : St w S _ (cellA w.heap.size [.int .i64 now] :: cellA (w.heap.size + 1) [.int .i64 (dueN now (pre ++ [(x1, x2, x3)]))] :: cellA s [.pointer (some ⟨d, 0, none⟩), .int .i64 c] :: p))).perm (List.perm_append_comm (l₁ := [_]))
      rw [hsn.out]
      exact h4.out.arrN [1, 0, 2] rfl
    · have hq2 : decide (x3 ≤ now) = false := decide_eq_false hq
      rw [if_neg hq] at hsn
      have h4 := h2.drop 3 rfl
      replace h2 := Lib.hid h2; replace hx := Lib.hid hx; replace h4 := Lib.hid h4; replace hsn := Lib.hid hsn
      gi_wp2
      refine (St.join [_, _, _] p (?_ : St w S _ (cellA w.heap.size [.int .i64 now] :: cellA (w.heap.size + 1) [.int .i64 (dueN now (pre ++ [(x1, x2, x3)]))] :: cellA s [.pointer (some ⟨d, 0, none⟩), .int .i64 c] :: p))).perm (List.perm_append_comm (l₁ := [_]))
      rw [hsn.out]
      exact h4.out
  case done =>
    intro D w2 hs
    have h0 := St.arr (l := [objA D (.deferred (some [])), cellA b1 [.pointer (some ⟨d, 0, none⟩)], dockA d 33 l, sepA [cellA w.heap.size [.int .i64 now], cellA (w.heap.size + 1) [.int .i64 (dueN now l)], cellA s [.pointer (some ⟨d, 0, none⟩), .int .i64 c]]]) hs [3, 0, 1, 2] rfl
    have h2 := St.unsep 0 h0 rfl
    obtain ⟨z7, c7, f7⟩ := h2.box 1 rfl
    obtain ⟨z8, c8, f8⟩ := h2.box 2 rfl
    have hR2 := hR.out
    unfold dueM at hR2
    have h3 : St w S w2 [siftA s c l, objA D (.deferred (some []))] := (sift_shut (h2.arr [2, 5, 3, 0, 1, 4] rfl)).drops 2
    clear hs h0 h2 H3 hR
    generalize dueN now l = N at *
    by_cases hN : N = 0
    · rw [if_pos hN] at hR2
      have q1 : (N == 0) = true := by simpa using hN
      have q2 : decide (N = 0) = true := decide_eq_true hN
      have hD := h3.obj 1 rfl
      have HP := ((h3.putObj 1 rfl (.deferred none)).drop 0 rfl).row_nil (size := 2)
      replace hN := Lib.hid hN
      clear h3
      replace hD := Lib.hid hD; replace HP := Lib.hid HP; replace hR2 := Lib.hid hR2
      gi_wp2
      refine ⟨by simp, .inl ⟨_, _, rfl, run_takeDeferred hD.out, ?_⟩⟩
      refine ⟨.slice none 0 0, by simp [results, Try.results23, go_sem], _, rfl, ?_⟩
      rw [hR2.out]
      exact HP.out
    · rw [if_neg hN] at hR2
      have q1 : (N == 0) = false := by simpa using hN
      have q2 : decide (N = 0) = false := decide_eq_false hN
      obtain ⟨S4, hS4, _, back⟩ := h3.at 0 rfl
      have P := upTo_any s c l N hl hc0 hc1 hb.out w2 S4 hS4
      replace hN := Lib.hid hN
      clear h3 hS4
      replace P := Lib.hid P; replace back := Lib.hid back; replace hR2 := Lib.hid hR2
      gi_wp2
      refine ⟨trivial, (callsIn_wide.2 P.out).mono ?_⟩
      rintro e w4 ⟨v', rfl, H5⟩
      have H6 := back.out _ _ H5
      clear P back H5
      have hD := H6.obj 2 rfl
      have HP := ((H6.putObj 2 rfl (.deferred none)).drop 0 rfl)
      simp only []
      replace hD := Lib.hid hD; replace HP := Lib.hid HP; replace H6 := Lib.hid H6
      gi_wp2
      refine ⟨by simp, .inl ⟨_, _, rfl, run_takeDeferred hD.out, ?_⟩⟩
      refine ⟨v', by simp [results, Try.results23, go_sem], _, rfl, ?_⟩
      rw [hR2.out]
      exact HP.out
end Go.Proofs.Ytiaefmmcakagpaa.Sift
