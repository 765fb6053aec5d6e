/- The walk of opts.Must. -/
import Derived.Test.YtljgmephajocaaaOptsFind
namespace Go.Proofs.Ytljgmephajocaaa.Opts
set_option linter.unusedSimpArgs false
set_option linter.unusedVariables false
open Go Go.RowKit Go.Shelf Go.Proofs.Ytljgmephajocaaa
attribute [local irreducible] Calls
attribute [local go_sem] Oper.semAt_some

def mustAt (l : List El) (k : Int) (i : Nat) : Bool := decide (0 < i) && (l[i]?.map (·.1) == some k) && (l[i - 1]?.map (·.1) == some 1)
def mustV (l : List El) (k : Int) : Bool := (List.range l.length).any (mustAt l k)
theorem must_hit {l : List El} {k : Int} {i : Nat} (hi : i < l.length) (h : mustAt l k i = true) : mustV l k = true := by
  unfold mustV
  rw [List.any_eq_true]
  exact ⟨i, List.mem_range.2 hi, h⟩
theorem must_none {l : List El} {k : Int} (h : ∀ i, i < l.length → mustAt l k i = false) : mustV l k = false := by
  unfold mustV
  rw [List.any_eq_false]
  intro i hi
  rw [h i (List.mem_range.1 hi)]
  simp
theorem pair_of {l : List El} {pre suf : List (El × Nat)} {x : El} {xi : Nat} (e : pairs l = pre ++ (x, xi) :: suf) : ∃ h : xi < l.length, l[xi] = x := by
  have h1 : (pairs l)[pre.length]? = some (x, xi) := by rw [e]; simp
  unfold pairs at h1
  rw [List.getElem?_zipIdx] at h1
  simp only [Nat.zero_add, Option.map_eq_some_iff, Prod.mk.injEq] at h1
  obtain ⟨y, hy, hyx, hxi⟩ := h1
  subst hxi hyx
  obtain ⟨h2, h3⟩ := List.getElem?_eq_some_iff.1 hy
  exact ⟨h2, h3⟩
theorem pairs_all {l : List El} {p : Nat → Prop} (h : ∀ y ∈ pairs l, p y.2) : ∀ i, i < l.length → p i := by
  intro i hi
  have := h (l[i], i) (by unfold pairs; rw [List.mem_zipIdx_iff_getElem?]; simp [hi])
  exact this
theorem must_at {l : List El} {k : Int} {i : Nat} (hi : i < l.length) (h0 : 0 < i) : mustAt l k i = (decide (l[i].1 = k) && decide (l[i - 1].1 = 1)) := by
  unfold mustAt
  rw [decide_eq_true h0, List.getElem?_eq_getElem hi, List.getElem?_eq_getElem (by omega), Bool.true_and]
  by_cases h1 : l[i].1 = k <;> by_cases h2 : l[i - 1].1 = 1 <;> simp [h1, h2]
def mustI (l : List El) (b : Nat) (lv : Value) (k : Int) (pre : List (El × Nat)) : List Asn := [andA (∀ y ∈ pre, mustAt l k y.2 = false) (sepA [cellA b [lv], cellA (b + 1) [.int .i64 k], cellA (b + 1 + 1) [.bool false]])]
def mustX (l : List El) (b : Nat) (lv : Value) (k : Int) (v : Bool) (c : Code) (_ : List (El × Nat)) : List Asn := [andA (c = .ret) (sepA [cellA b [lv], cellA (b + 1) [.int .i64 k], cellA (b + 1 + 1) [.bool v]])]
set_option maxRecDepth 100000 in
set_option maxHeartbeats 1000000 in
theorem must_any (l : List El) (n cap : Nat) (k : Int) (hl : l.length = n) (hn : n ≤ 100000) (a : Option Addr) (w : World) (hR : Rd w a (encs l)) :
    Calls Try.prog 58 #[.slice a n cap, .int .i64 k] w (Ret w (.bool (mustV l k))) := by
  obtain ⟨v, hv⟩ : ∃ v, v = mustV l k := ⟨_, rfl⟩
  rw [← hv]
  have H0 := (((St.zero w).alloc [.slice a n cap] 62).alloc [.int .i64 k] 3).alloc [.bool false] 4
  simp only [World.size_alloc] at H0
  replace H0 := Lib.hid H0; replace hR := Lib.hid hR; replace hl := Lib.hid hl; replace hv := Lib.hid hv
  refine callsIn_wide.1 (callsIn_of_wp_marks (n := 10) Try.func58 rfl trivial ?_ rfl)
  simp only [Try.ntmps58, List.size_toArray, List.length_cons, List.length_nil, Nat.reduceAdd, Nat.reduceSub, Array.replicate_succ, Array.replicate_zero, List.push_toArray, List.append_toArray, List.nil_append, List.cons_append]
  gi_wp2
  refine ⟨trivial, (callsIn_wide.2 (all_new a n cap _)).mono ?_⟩
  rintro e w1 ⟨b1, rfl, HA⟩
  simp only []
  have H1 : St w none0 w1 [cellA b1 [.slice a n cap], cellA (w.heap.size + 1 + 1) [.bool false], cellA (w.heap.size + 1) [.int .i64 k], cellA w.heap.size [.slice a n cap]] := (H0.out.add HA)
  have H3 : St w none0 w1 ([cellA b1 [.slice a n cap]] ++ mustI l w.heap.size (.slice a n cap) k []) := (St.and (by simp) (St.join [_, _, _] [_] (H1.arr [3, 2, 1, 0] rfl))).arr [1, 0] rfl
  clear H0 H1 HA
  gi_wp2
  refine wpIn_range_st2 rfl (by decide) (gf := 163) (lb := #[.pointer (some ⟨b1, 0, none⟩)]) rfl trivial (enters_of Try.func163 (by kernel_rfl) rfl)
    (all_iter _ b1 l n cap hl.out hn a w none0 (fun w' l h => hR.out.below h.below)) (fun _ => rfl) (mustI l w.heap.size (.slice a n cap) k) (mustX l w.heap.size (.slice a n cap) k v) H3 ?round ?done ?stop
  case round =>
    intro L pre x suf w1 hx
    obtain ⟨⟨xk, xv⟩, xi⟩ := x
    unfold tellP val
    gi_wp2
    refine ⟨cellA w1.heap.size [.int .i64 xk, .string xv], fun l' h => h.alloc _ _, ?_⟩
    intro p w3 hs
    obtain ⟨hno, h1⟩ := (hs.perm (List.perm_append_comm (l₁ := _ :: p))).unand 0 rfl
    have h2 : St w none0 w3 (cellA w.heap.size [.slice a n cap] :: cellA (w.heap.size + 1) [.int .i64 k] :: cellA (w.heap.size + 1 + 1) [.bool false] :: cellA w1.heap.size [.int .i64 xk, .string xv] :: p) := St.unsep 0 h1 rfl
    obtain ⟨z0, c0, f0⟩ := h2.box 0 rfl
    obtain ⟨z1, c1, f1⟩ := h2.box 1 rfl
    obtain ⟨z2, c2, f2⟩ := h2.box 2 rfl
    obtain ⟨z3, c3, f3⟩ := h2.box 3 rfl
    clear hs h1 H3
    obtain ⟨hxi, hxe⟩ := pair_of hx
    have hxn : xi < n := by have := hl.out; omega
    by_cases h0 : xi = 0
    · have q : decide ((0 : Int) < (xi : Int)) = false := decide_eq_false (by omega)
      have q' : decide (0 < xi) = false := decide_eq_false (by omega)
      have hm : mustAt l k xi = false := by rw [h0]; simp [mustAt]
      clear hxe hxi
      replace h0 := Lib.hid h0
      have hno2 : ∀ y ∈ pre ++ [((xk, xv), xi)], mustAt l k y.2 = false := by
        intro y hy
        rcases List.mem_append.1 hy with hy | hy
        · exact hno y hy
        · obtain rfl : y = ((xk, xv), xi) := by simpa using hy
          exact hm
      have h4 := h2.drop 3 rfl
      clear hm
      replace h2 := Lib.hid h2; replace hno2 := Lib.hid hno2; replace hx := Lib.hid hx; replace hv := Lib.hid hv; replace h4 := Lib.hid h4; replace hl := Lib.hid hl; replace hR := Lib.hid hR
      gi_wp2
      exact (St.and hno2.out (St.join [_, _, _] _ h4.out)).perm (List.perm_append_comm (l₁ := [_]))
    · have q0 : decide ((0 : Int) < (xi : Int)) = true := decide_eq_true (by omega)
      have q0' : decide (0 < xi) = true := decide_eq_true (by omega)
      have hma := must_at (k := k) hxi (by omega)
      rw [hxe] at hma
      simp only at hma
      by_cases hq : xk = k
      · have q : (xk == k) = true := by simpa using hq
        obtain ⟨b, off, rfl, hb, hc⟩ := els_at (hR.out.below h2.below) hl.out (by omega)
        obtain ⟨e0, e1⟩ := hc (xi - 1) (by omega)
        have hi1 : ((xi : Int) - 1) = ((xi - 1 : Nat) : Int) := by omega
        clear hc hxe
        generalize l[xi - 1] = y at *
        obtain ⟨yk, yv⟩ := y
        simp only at e0 e1 hma
        have hxl : xi - 1 < n := by omega
        have hge : 1 ≤ xi := by omega
        by_cases hy : yk = 1
        · subst hy
          have hv2 : v = true := by rw [hv.out]; exact must_hit hxi (by rw [hma]; simp [hq])
          subst hv2
          have h4 := ((h2.set 2 rfl 0 (.bool true) (by simp))).drop 3 rfl
          clear hma hxi
          replace h2 := Lib.hid h2; replace hno := Lib.hid hno; replace hx := Lib.hid hx; replace hq := Lib.hid hq; replace hv := Lib.hid hv; replace h4 := Lib.hid h4; replace hl := Lib.hid hl; replace hR := Lib.hid hR
          gi_wp2
          exact (St.and rfl (St.join [_, _, _] _ (h4.out.arrN [1, 2, 0] rfl))).perm (List.perm_append_comm (l₁ := [_]))
        · have q1 : (yk == 1) = false := by simpa using hy
          have hm : mustAt l k xi = false := by rw [hma]; simp [hy]
          clear hma hxi
          replace hq := Lib.hid hq; replace hy := Lib.hid hy
          have hno2 : ∀ y ∈ pre ++ [((xk, xv), xi)], mustAt l k y.2 = false := by
            intro y hy
            rcases List.mem_append.1 hy with hy | hy
            · exact hno y hy
            · obtain rfl : y = ((xk, xv), xi) := by simpa using hy
              exact hm
          have h4 := h2.drop 3 rfl
          clear hm
          replace h2 := Lib.hid h2; replace hno2 := Lib.hid hno2; replace hx := Lib.hid hx; replace hv := Lib.hid hv; replace h4 := Lib.hid h4; replace hl := Lib.hid hl; replace hR := Lib.hid hR
          gi_wp2
          exact (St.and hno2.out (St.join [_, _, _] _ h4.out)).perm (List.perm_append_comm (l₁ := [_]))
      · have q : (xk == k) = false := by simpa using hq
        have hm : mustAt l k xi = false := by rw [hma]; simp [hq]
        clear hma hxe hxi
        replace hq := Lib.hid hq
        have hno2 : ∀ y ∈ pre ++ [((xk, xv), xi)], mustAt l k y.2 = false := by
          intro y hy
          rcases List.mem_append.1 hy with hy | hy
          · exact hno y hy
          · obtain rfl : y = ((xk, xv), xi) := by simpa using hy
            exact hm
        have h4 := h2.drop 3 rfl
        clear hm
        replace h2 := Lib.hid h2; replace hno2 := Lib.hid hno2; replace hx := Lib.hid hx; replace hv := Lib.hid hv; replace h4 := Lib.hid h4; replace hl := Lib.hid hl; replace hR := Lib.hid hR
        gi_wp2
        exact (St.and hno2.out (St.join [_, _, _] _ h4.out)).perm (List.perm_append_comm (l₁ := [_]))
  case done =>
    intro D w2 hs
    have h0 : St w none0 w2 ([andA (∀ y ∈ pairs l, mustAt l k y.2 = false) (sepA [cellA w.heap.size [.slice a n cap], cellA (w.heap.size + 1) [.int .i64 k], cellA (w.heap.size + 1 + 1) [.bool false]]), objA D (.deferred (some [])), cellA b1 [.slice a n cap]]) := St.arr (l := [objA D (.deferred (some [])), cellA b1 [.slice a n cap], andA (∀ y ∈ pairs l, mustAt l k y.2 = false) (sepA [cellA w.heap.size [.slice a n cap], cellA (w.heap.size + 1) [.int .i64 k], cellA (w.heap.size + 1 + 1) [.bool false]])]) hs [2, 0, 1] rfl
    obtain ⟨hno, h1⟩ := h0.unand 0 rfl
    have h2 := St.unsep 0 h1 rfl
    have hv3 : v = false := by rw [hv.out]; exact must_none (pairs_all hno)
    subst hv3
    obtain ⟨z7, c7, f7⟩ := h2.box 2 rfl
    have h3 := h2.set 2 rfl 0 (.bool false) (by simp)
    have hD := h3.obj 3 rfl
    have HP := h3.putObj 3 rfl (.deferred none)
    obtain ⟨z8, c8, f8⟩ := HP.box 1 rfl
    clear hs h0 h1 h2 h3 H3
    replace hD := Lib.hid hD; replace HP := Lib.hid HP; replace hno := Lib.hid hno; replace hv := Lib.hid hv
    gi_wp2
    refine ⟨by simp, .inl ⟨_, _, rfl, run_takeDeferred hD.out, ?_⟩⟩
    exact ⟨.bool false, by simp [results, Try.results58, go_sem, c8], rfl, HP.out.below⟩
  case stop =>
    intro D c pre x suf w2 hx hs
    have h0 : St w none0 w2 ([andA (c = .ret) (sepA [cellA w.heap.size [.slice a n cap], cellA (w.heap.size + 1) [.int .i64 k], cellA (w.heap.size + 1 + 1) [.bool v]]), objA D (.deferred (some [])), cellA b1 [.slice a n cap]]) := St.arr (l := [objA D (.deferred (some [])), cellA b1 [.slice a n cap], andA (c = .ret) (sepA [cellA w.heap.size [.slice a n cap], cellA (w.heap.size + 1) [.int .i64 k], cellA (w.heap.size + 1 + 1) [.bool v]])]) hs [2, 0, 1] rfl
    obtain ⟨hc, h1⟩ := h0.unand 0 rfl
    subst hc
    have h2 := St.unsep 0 h1 rfl
    have hD := h2.obj 3 rfl
    have HP := h2.putObj 3 rfl (.deferred none)
    obtain ⟨z8, c8, f8⟩ := HP.box 3 rfl
    clear hs h0 h1 h2 H3
    replace hD := Lib.hid hD; replace HP := Lib.hid HP; replace hx := Lib.hid hx; replace hv := Lib.hid hv
    gi_wp2
    refine ⟨by simp, .inl ⟨_, _, rfl, run_takeDeferred hD.out, ?_⟩⟩
    exact ⟨.bool v, by simp [results, Try.results58, go_sem, c8], rfl, HP.out.below⟩
end Go.Proofs.Ytljgmephajocaaa.Opts
