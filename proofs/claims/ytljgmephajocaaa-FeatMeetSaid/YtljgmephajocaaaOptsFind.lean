/- The walk of opts.Find. -/
import Derived.Test.YtljgmephajocaaaOptsAll
import Derived.Test.YtljgmephajocaaaRange2
namespace Go.Proofs.Ytljgmephajocaaa.Opts
set_option linter.unusedSimpArgs false
set_option linter.unusedVariables false
open Go Go.RowKit Go.Shelf Go.Proofs.Ytljgmephajocaaa
attribute [local irreducible] Calls
attribute [local go_sem] Oper.semAt_some

def findV (l : List El) (k : Int) : ByteArray × Bool := match l.find? (fun x => x.1 == k) with | some x => (x.2, true) | none => (⟨#[]⟩, false)
theorem pairs_fst (l : List El) : (pairs l).map (·.1) = l := by simp [pairs]
theorem find_hit {l : List El} {pre suf : List (El × Nat)} {xk k : Int} {xv : ByteArray} {xi : Nat} (e : pairs l = pre ++ ((xk, xv), xi) :: suf) (hp : ∀ y ∈ pre, y.1.1 ≠ k) (hx : xk = k) : findV l k = (xv, true) := by
  have h := pairs_fst l
  rw [e] at h
  rw [← h]
  unfold findV
  rw [List.map_append, List.find?_append, List.find?_eq_none.2 (by
    intro y hy
    obtain ⟨z, hz, rfl⟩ := List.mem_map.1 hy
    simpa using hp z hz)]
  simp [hx]
theorem find_none {l : List El} {k : Int} (hp : ∀ y ∈ pairs l, y.1.1 ≠ k) : findV l k = (⟨#[]⟩, false) := by
  unfold findV
  rw [List.find?_eq_none.2 (by
    intro y hy
    rw [← pairs_fst l] at hy
    obtain ⟨z, hz, rfl⟩ := List.mem_map.1 hy
    simpa using hp z hz)]
def findI (b : Nat) (k : Int) (pre : List (El × Nat)) : List Asn := [andA (∀ y ∈ pre, y.1.1 ≠ k) (sepA [cellA b [.int .i64 k], cellA (b + 1) [.string ⟨#[]⟩], cellA (b + 1 + 1) [.bool false]])]
def findX (b : Nat) (k : Int) (v : ByteArray × Bool) (c : Code) (_ : List (El × Nat)) : List Asn := [andA (c = .ret) (sepA [cellA b [.int .i64 k], cellA (b + 1) [.string v.1], cellA (b + 1 + 1) [.bool v.2]])]
set_option maxRecDepth 100000 in
set_option maxHeartbeats 1000000 in
theorem find_any (l : List El) (n cap : Nat) (k : Int) (hl : l.length = n) (hn : n ≤ 100000) (a : Option Addr) (w : World) (hR : Rd w a (encs l)) :
    Calls Try.prog 57 #[.slice a n cap, .int .i64 k] w (Ret w (.tuple #[.string (findV l k).1, .bool (findV l k).2])) := by
  obtain ⟨v, hv⟩ : ∃ v, v = findV l k := ⟨_, rfl⟩
  rw [← hv]
  have H0 := (((St.zero w).alloc [.int .i64 k] 3).alloc [.string ⟨#[]⟩] 9).alloc [.bool false] 4
  simp only [World.size_alloc] at H0
  replace H0 := Lib.hid H0; replace hR := Lib.hid hR; replace hl := Lib.hid hl; replace hv := Lib.hid hv
  refine callsIn_wide.1 (callsIn_of_wp_marks (n := 10) Try.func57 rfl trivial ?_ rfl)
  simp only [Try.ntmps57, List.size_toArray, List.length_cons, List.length_nil, Nat.reduceAdd, Nat.reduceSub, Array.replicate_succ, Array.replicate_zero, List.push_toArray, List.append_toArray, List.nil_append, List.cons_append]
  gi_wp2
  refine ⟨trivial, (callsIn_wide.2 (all_new a n cap _)).mono ?_⟩
  rintro e w1 ⟨b1, rfl, HA⟩
  simp only []
  have H1 : St w none0 w1 [cellA b1 [.slice a n cap], cellA (w.heap.size + 1 + 1) [.bool false], cellA (w.heap.size + 1) [.string ⟨#[]⟩], cellA w.heap.size [.int .i64 k]] := (H0.out.add HA)
  have H3 : St w none0 w1 ([cellA b1 [.slice a n cap]] ++ findI w.heap.size k []) := (St.and (by simp) (St.join [_, _, _] [_] (H1.arr [3, 2, 1, 0] rfl))).arr [1, 0] rfl
  clear H0 H1 HA
  gi_wp2
  refine wpIn_range_st2 rfl (by decide) (gf := 163) (lb := #[.pointer (some ⟨b1, 0, none⟩)]) rfl trivial (enters_of Try.func163 (by kernel_rfl) rfl)
    (all_iter _ b1 l n cap hl.out hn a w none0 (fun w' l h => hR.out.below h.below)) (fun _ => rfl) (findI w.heap.size k) (findX w.heap.size k v) H3 ?round ?done ?stop
  case round =>
    intro L pre x suf w1 hx
    obtain ⟨⟨xk, xv⟩, xi⟩ := x
    unfold tellP val
    gi_wp2
    refine ⟨cellA w1.heap.size [.int .i64 xk, .string xv], fun l' h => h.alloc _ _, ?_⟩
    intro p w3 hs
    obtain ⟨hno, h1⟩ := (hs.perm (List.perm_append_comm (l₁ := _ :: p))).unand 0 rfl
    have h2 : St w none0 w3 (cellA w.heap.size [.int .i64 k] :: cellA (w.heap.size + 1) [.string ⟨#[]⟩] :: cellA (w.heap.size + 1 + 1) [.bool false] :: cellA w1.heap.size [.int .i64 xk, .string xv] :: p) := St.unsep 0 h1 rfl
    obtain ⟨z0, c0, f0⟩ := h2.box 0 rfl
    obtain ⟨z1, c1, f1⟩ := h2.box 1 rfl
    obtain ⟨z2, c2, f2⟩ := h2.box 2 rfl
    obtain ⟨z3, c3, f3⟩ := h2.box 3 rfl
    clear hs h1 H3
    by_cases hq : xk = k
    · have hv2 : v = (xv, true) := by rw [hv.out]; exact find_hit hx hno hq
      have q : (xk == k) = true := by simpa using hq
      subst hv2
      have h4 := (((h2.set 1 rfl 0 (.string xv) (by simp)).front 2 rfl).set 0 rfl 0 (.bool true) (by simp)).drop 3 rfl
      replace h2 := Lib.hid h2; replace hno := Lib.hid hno; replace hx := Lib.hid hx; replace hq := Lib.hid hq; replace hv := Lib.hid hv; replace h4 := Lib.hid h4
      gi_wp2
      exact (St.and rfl (St.join [_, _, _] _ (h4.out.arrN [2, 1, 0] rfl))).perm (List.perm_append_comm (l₁ := [_]))
    · have q : (xk == k) = false := by simpa using hq
      have hno2 : ∀ y ∈ pre ++ [((xk, xv), xi)], y.1.1 ≠ k := by
        intro y hy
        rcases List.mem_append.1 hy with hy | hy
        · exact hno y hy
        · obtain rfl : y = ((xk, xv), xi) := by simpa using hy
          exact hq
      have h4 := h2.drop 3 rfl
      replace h2 := Lib.hid h2; replace hno2 := Lib.hid hno2; replace hx := Lib.hid hx; replace hq := Lib.hid hq; replace hv := Lib.hid hv; replace h4 := Lib.hid h4
      gi_wp2
      exact (St.and hno2.out (St.join [_, _, _] _ h4.out)).perm (List.perm_append_comm (l₁ := [_]))
  case done =>
    intro D w2 hs
    have h0 : St w none0 w2 ([andA (∀ y ∈ pairs l, y.1.1 ≠ k) (sepA [cellA w.heap.size [.int .i64 k], cellA (w.heap.size + 1) [.string ⟨#[]⟩], cellA (w.heap.size + 1 + 1) [.bool false]]), objA D (.deferred (some [])), cellA b1 [.slice a n cap]]) := St.arr (l := [objA D (.deferred (some [])), cellA b1 [.slice a n cap], andA (∀ y ∈ pairs l, y.1.1 ≠ k) (sepA [cellA w.heap.size [.int .i64 k], cellA (w.heap.size + 1) [.string ⟨#[]⟩], cellA (w.heap.size + 1 + 1) [.bool false]])]) hs [2, 0, 1] rfl
    obtain ⟨hno, h1⟩ := h0.unand 0 rfl
    have h2 := St.unsep 0 h1 rfl
    have hv3 : v = (⟨#[]⟩, false) := by rw [hv.out]; exact find_none hno
    subst hv3
    obtain ⟨z6, c6, f6⟩ := h2.box 1 rfl
    obtain ⟨z7, c7, f7⟩ := h2.box 2 rfl
    have h3 := ((h2.set 1 rfl 0 (.string ⟨#[]⟩) (by simp)).front 2 rfl).set 0 rfl 0 (.bool false) (by simp)
    have hD := h3.obj 3 rfl
    have HP := h3.putObj 3 rfl (.deferred none)
    obtain ⟨z8, c8, f8⟩ := HP.box 1 rfl
    obtain ⟨z9, c9, f9⟩ := HP.box 2 rfl
    clear hs h0 h1 h2 h3 H3
    replace hD := Lib.hid hD; replace HP := Lib.hid HP; replace hno := Lib.hid hno; replace hv := Lib.hid hv
    gi_wp2
    refine ⟨by simp, .inl ⟨_, _, rfl, run_takeDeferred hD.out, ?_⟩⟩
    exact ⟨.tuple #[.string ⟨#[]⟩, .bool false], by simp [results, Try.results57, go_sem, c8, c9], rfl, HP.out.below⟩
  case stop =>
    intro D c pre x suf w2 hx hs
    have h0 : St w none0 w2 ([andA (c = .ret) (sepA [cellA w.heap.size [.int .i64 k], cellA (w.heap.size + 1) [.string v.1], cellA (w.heap.size + 1 + 1) [.bool v.2]]), objA D (.deferred (some [])), cellA b1 [.slice a n cap]]) := St.arr (l := [objA D (.deferred (some [])), cellA b1 [.slice a n cap], andA (c = .ret) (sepA [cellA w.heap.size [.int .i64 k], cellA (w.heap.size + 1) [.string v.1], cellA (w.heap.size + 1 + 1) [.bool v.2]])]) hs [2, 0, 1] rfl
    obtain ⟨hc, h1⟩ := h0.unand 0 rfl
    subst hc
    have h2 := St.unsep 0 h1 rfl
    have hD := h2.obj 3 rfl
    have HP := h2.putObj 3 rfl (.deferred none)
    obtain ⟨z7, c7, f7⟩ := HP.box 2 rfl
    obtain ⟨z8, c8, f8⟩ := HP.box 3 rfl
    clear hs h0 h1 h2 H3
    replace hD := Lib.hid hD; replace HP := Lib.hid HP; replace hx := Lib.hid hx; replace hv := Lib.hid hv
    gi_wp2
    refine ⟨by simp, .inl ⟨_, _, rfl, run_takeDeferred hD.out, ?_⟩⟩
    exact ⟨.tuple #[.string v.1, .bool v.2], by simp [results, Try.results57, go_sem, c7, c8], rfl, HP.out.below⟩
end Go.Proofs.Ytljgmephajocaaa.Opts
