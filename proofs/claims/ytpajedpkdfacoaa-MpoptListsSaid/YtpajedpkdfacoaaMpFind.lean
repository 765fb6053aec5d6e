/- The walk of mpopt.Find. -/
import Derived.Test.YtpajedpkdfacoaaMpAll
namespace Go.Proofs.Ytpajedpkdfacoaa.Mp
set_option linter.unusedSimpArgs false
set_option linter.unusedVariables false
open Go Go.RowKit Go.Shelf Go.Proofs.Ytpajedpkdfacoaa Go.Proofs.Ytpajedpkdfacoaa.Octets
open Go.Proofs.Ytpajedpkdfacoaa.Opts (El encs els_at)
attribute [local irreducible] Calls

def isK (k : Int) (x : Mu) : Bool := x.kind == k
def findM (l : List El) (k : Int) : Mu × Bool := match (allM l).find? (isK k) with | some x => (x, true) | none => (zeroM, false)
theorem isK_any (x : Mu) (k : Int) (b : Nat) (w : World) (hb : w.cell? ⟨b, 0, none⟩ = some (.int .i64 k)) (hlt : b < w.heap.size) :
    Calls Try.prog 43 #[.agg (encM x).toArray, .pointer (some ⟨b, 0, none⟩)] w (Ret w (.bool (isK k x))) := by
  obtain ⟨x0, x1, x2, x3, x4, x5, x6⟩ := x
  unfold isK
  simp only [encM]
  have H := (St.zero w).alloc [.int .i64 x0, .int .i64 x1, .int .i64 x2, .int .i64 x3, .int .i64 x4, .int .i64 x5, .string x6] 23
  have hne : ¬ b = w.heap.size := by omega
  replace H := Lib.hid H
  go_enter Try.func43, Try.ntmps43
  go_wp2_with fail
  go_ret
  exact H.out.ret rfl
set_option maxRecDepth 100000 in
set_option maxHeartbeats 400000 in
theorem indexM_any (l : List Mu) (n : Nat) (hl : l.length = n) (hn : n ≤ 1000000) (a : Option Addr) (cap : Nat) (w : World) (h : Rd w a (encMs l)) (k : Int) (bb : Nat) (hbb : w.cell? ⟨bb, 0, none⟩ = some (.int .i64 k)) (hbl : bb < w.heap.size) :
    Calls Try.prog 42 #[.slice a n cap, .func (.func 43) #[] #[.pointer (some ⟨bb, 0, none⟩)]] w (Ret w (.int .i64 (idxF (isK k) l))) := by
  have hcall : ∀ (x : Mu) (w' : World), Below w.heap.size w w' → Calls Try.prog 43 #[.agg (encM x).toArray, .pointer (some ⟨bb, 0, none⟩)] w' (Ret w' (.bool (isK k x))) := fun x w' hb => isK_any x k bb w' ((hb.cell (p := ⟨bb, 0, none⟩) hbl).trans hbb) (Nat.lt_of_lt_of_le hbl hb.size)
  obtain ⟨pr, hpr⟩ : ∃ pr, isK k = pr := ⟨_, rfl⟩
  rw [hpr] at hcall ⊢
  clear hpr hbb
  replace h := Lib.hid h; replace hl := Lib.hid hl; replace hcall := Lib.hid hcall
  go_enter Try.func42, Try.ntmps42
  go_wp2_with fail
  go_loopg [5, 8] n (fun g _ i wr => ∃ j : Nat, j ≤ n ∧ g = n - j ∧ i = .int .i64 j ∧ Hid (∀ k (hk : k < l.length), k < j → pr l[k] = false) ∧ Below w.heap.size w wr)
  case atStart => exact ⟨0, by omega, by omega, rfl, (fun k hk h => by omega), (by repeat (first | with_reducible exact Below.refl _ _ | (with_reducible refine Below.al ?_) | (with_reducible refine Below.drew ?_) | (with_reducible refine Below.set ?_ (by first | (simp; done) | omega | (simp; omega))) | (with_reducible refine Below.thru ?_ (by assumption)) | (with_reducible refine Below.chg ?_ (by assumption) (by first | (simp; done) | omega | (simp; omega)))))⟩
  case round =>
    obtain ⟨j, hj, hg, rfl, hno, hbw⟩ := hrel
    by_cases hlt : j < n
    · have hjl : j < l.length := by have := hl.out; omega
      obtain ⟨b, off, rfl, hb, hc⟩ := mus_at (h.out.below hbw) hl.out (by omega)
      obtain ⟨e0, e1, e2, e3, e4, e5, e6⟩ := hc j hjl
      have P := hcall.out l[j] wr hbw
      have hit : pr l[j] = true → idxF pr l = (j : Int) := fun h => idx_some hjl h (fun k hk hkj => hno.out k hk hkj)
      have hnx : pr l[j] = false → ∀ k (hk : k < l.length), k < j + 1 → pr l[k] = false := fun h0 k hk h1 => by
        by_cases e : k = j
        · subst e; exact h0
        · exact hno.out k hk (by omega)
      clear hc
      cases hb0 : pr l[j] with
      | true =>
        rw [hb0] at P
        replace hit := Lib.hid (hit hb0)
        clear hnx
        generalize l[j] = x at *
        obtain ⟨x0, x1, x2, x3, x4, x5, x6⟩ := x
        simp only [encM] at P e0 e1 e2 e3 e4 e5 e6
        replace P := Lib.hid P; replace hb0 := Lib.hid hb0
        go_wp2_with fail
        refine Calls.mono (P.out) ?_
        rintro e w1 ⟨rfl, hb1⟩
        have z1 := Below.size hb1; try simp only [World.size_alloc, World.size_setCell, World.size_drew] at z1
        clear P
        go_wp2_with fail
        go_ret
        exact Ret.mk (by rw [hit.out]; rfl) (by repeat (first | with_reducible exact Below.refl _ _ | (with_reducible refine Below.al ?_) | (with_reducible refine Below.drew ?_) | (with_reducible refine Below.set ?_ (by first | (simp; done) | omega | (simp; omega))) | (with_reducible refine Below.thru ?_ (by assumption)) | (with_reducible refine Below.chg ?_ (by assumption) (by first | (simp; done) | omega | (simp; omega)))))
      | false =>
        rw [hb0] at P
        replace hnx := Lib.hid (hnx hb0)
        clear hit
        generalize l[j] = x at *
        obtain ⟨x0, x1, x2, x3, x4, x5, x6⟩ := x
        simp only [encM] at P e0 e1 e2 e3 e4 e5 e6
        replace P := Lib.hid P; replace hb0 := Lib.hid hb0
        go_wp2_with fail
        refine Calls.mono (P.out) ?_
        rintro e w1 ⟨rfl, hb1⟩
        have z1 := Below.size hb1; try simp only [World.size_alloc, World.size_setCell, World.size_drew] at z1
        clear P
        go_wp2_with fail
        go_roundg (n - (j + 1))
        case measure => omega
        case rel => exact ⟨j + 1, by omega, rfl, by go_num, hnx.out, (by repeat (first | with_reducible exact Below.refl _ _ | (with_reducible refine Below.al ?_) | (with_reducible refine Below.drew ?_) | (with_reducible refine Below.set ?_ (by first | (simp; done) | omega | (simp; omega))) | (with_reducible refine Below.thru ?_ (by assumption)) | (with_reducible refine Below.chg ?_ (by assumption) (by first | (simp; done) | omega | (simp; omega)))))⟩
    · obtain rfl : j = n := by omega
      have hf : idxF pr l = -1 := idx_none (fun i hi => hno.out i hi (by have := hl.out; omega))
      replace hf := Lib.hid hf
      go_wp2_with fail
      go_ret
      exact Ret.mk (by rw [hf.out]; rfl) (by repeat (first | with_reducible exact Below.refl _ _ | (with_reducible refine Below.al ?_) | (with_reducible refine Below.drew ?_) | (with_reducible refine Below.set ?_ (by first | (simp; done) | omega | (simp; omega))) | (with_reducible refine Below.thru ?_ (by assumption)) | (with_reducible refine Below.chg ?_ (by assumption) (by first | (simp; done) | omega | (simp; omega)))))
theorem find_idx (l : List Mu) (p : Mu → Bool) : (l.find? p = none ∧ idxF p l = -1) ∨ ∃ (j : Nat) (hj : j < l.length), l.find? p = some l[j] ∧ idxF p l = (j : Int) := by
  cases h : l.any p with
  | false =>
    refine .inl ⟨?_, by unfold idxF; rw [h]; rfl⟩
    rw [List.find?_eq_none]
    intro x hx
    have := List.any_eq_false.1 h x hx
    simpa using this
  | true =>
    have h2 : l.findIdx p < l.length := by
      rw [List.findIdx_lt_length]
      simpa using h
    refine .inr ⟨l.findIdx p, h2, ?_, by unfold idxF; rw [h]; rfl⟩
    rw [List.find?_eq_some_iff_getElem]
    exact ⟨List.findIdx_getElem, _, h2, rfl, fun j hj => by simpa using List.not_of_lt_findIdx hj⟩
set_option maxRecDepth 100000 in
set_option maxHeartbeats 1000000 in
theorem find_any (l : List El) (n cap : Nat) (k : Int) (hl : l.length = n) (hn : n ≤ 1000000) (hs : ∀ x ∈ l, x.2.size ≤ 900000000) (a : Option Addr) (w : World) (h : Rd w a (encs l)) :
    Calls Try.prog 14 #[.slice a n cap, .int .i64 k] w (Ret w (.tuple #[.agg (encM (findM l k).1).toArray, .bool (findM l k).2])) := by
  have H0 := ((St.zero w).alloc [.int .i64 k] 3).alloc [.int .i64 0, .int .i64 0, .int .i64 0, .int .i64 0, .int .i64 0, .int .i64 0, .string ⟨#[]⟩] 23
  simp only [World.size_alloc] at H0
  have PA := all_any l n cap hl hn hs a _ (h.below H0.below)
  have hlen : (allM l).length ≤ n := by rw [← hl]; exact allM_len l
  unfold findM
  generalize allM l = A at *
  clear h hs
  rcases find_idx A (isK k) with ⟨e1, e2⟩ | ⟨j, hj, e1, e2⟩
  · rw [e1]
    simp only []
    clear e1
    replace e2 := Lib.hid e2
    replace H0 := Lib.hid H0; replace PA := Lib.hid PA
    go_enter Try.func14, Try.ntmps14
    go_wp2_with fail
    refine Calls.mono PA.out ?_
    rintro e w1 ⟨v, rfl, HA⟩
    have H1 : St w none0 w1 [rowA 7 v A.length (encMs A), cellA (w.heap.size + 1) [.int .i64 0, .int .i64 0, .int .i64 0, .int .i64 0, .int .i64 0, .int .i64 0, .string ⟨#[]⟩], cellA w.heap.size [.int .i64 k]] := H0.out.add HA
    clear H0 HA PA
    obtain ⟨a1, c1, rfl, _⟩ := St.slice (by omega) 0 H1 rfl
    have R1 := St.rd (by omega) 0 H1 rfl
    obtain ⟨z2, k2, f2⟩ := H1.box 2 rfl
    have PI := indexM_any A A.length rfl (by omega) a1 c1 w1 R1 k w.heap.size (k2 0) z2
    rw [e2.out] at PI
    clear e2 R1
    replace H1 := Lib.hid H1; replace PI := Lib.hid PI
    go_wp2_with fail
    refine Calls.mono PI.out ?_
    rintro e w2 ⟨rfl, hb2⟩
    have H2 := (H1.out.thru hb2)
    obtain ⟨z3, k3, f3⟩ := H2.box 1 rfl
    have H3 : St w none0 w2 (cellA (w.heap.size + 1) _ :: _) := H2.front 1 rfl
    have H4 := ((((((((((((((H3).set 0 rfl 0 (.int .i64 0) (by simp))).set 0 rfl 1 (.int .i64 0) (by simp))).set 0 rfl 2 (.int .i64 0) (by simp))).set 0 rfl 3 (.int .i64 0) (by simp))).set 0 rfl 4 (.int .i64 0) (by simp))).set 0 rfl 5 (.int .i64 0) (by simp))).set 0 rfl 6 (.string ⟨#[]⟩) (by simp))
    clear H1 PI H2 H3
    replace H4 := Lib.hid H4
    go_wp2_with fail
    exact bodyPost_ret (v := .tuple #[.agg #[.int .i64 0, .int .i64 0, .int .i64 0, .int .i64 0, .int .i64 0, .int .i64 0, .string ⟨#[]⟩], .bool false]) (by simp [results, Try.results14, go_sem, z3, k3, f3]) rfl (H4.out.ret rfl)
  · rw [e1]
    simp only []
    clear e1
    have hj2 : (j : Int) < (A.length : Int) := by omega
    generalize hx : A[j] = x at *
    obtain ⟨x0, x1, x2, x3, x4, x5, x6⟩ := x
    simp only [encM]
    replace e2 := Lib.hid e2; replace hx := Lib.hid hx
    replace H0 := Lib.hid H0; replace PA := Lib.hid PA
    go_enter Try.func14, Try.ntmps14
    go_wp2_with fail
    refine Calls.mono PA.out ?_
    rintro e w1 ⟨v, rfl, HA⟩
    have H1 : St w none0 w1 [rowA 7 v A.length (encMs A), cellA (w.heap.size + 1) [.int .i64 0, .int .i64 0, .int .i64 0, .int .i64 0, .int .i64 0, .int .i64 0, .string ⟨#[]⟩], cellA w.heap.size [.int .i64 k]] := H0.out.add HA
    clear H0 HA PA
    obtain ⟨a1, c1, rfl, _⟩ := St.slice (by omega) 0 H1 rfl
    have R1 := St.rd (by omega) 0 H1 rfl
    obtain ⟨z2, k2, f2⟩ := H1.box 2 rfl
    have PI := indexM_any A A.length rfl (by omega) a1 c1 w1 R1 k w.heap.size (k2 0) z2
    rw [e2.out] at PI
    obtain ⟨b, off, rfl, hb, hc⟩ := mus_at R1 rfl (by omega)
    have hne : ¬ w.heap.size + 1 = b := (H1.arr [1, 0, 2] rfl).ne_row 0 1 rfl rfl (by decide)
    have hne2 : ¬ b = w.heap.size + 1 := fun e => hne e.symm
    clear e2 R1 k2 f2
    obtain ⟨c0, c1', c2, c3, c4, c5, c6⟩ := hc j hj
    rw [hx.out] at c0 c1' c2 c3 c4 c5 c6
    clear hc hx
    simp only at c0 c1' c2 c3 c4 c5 c6
    replace H1 := Lib.hid H1; replace PI := Lib.hid PI
    go_wp2_with fail
    refine Calls.mono (PI.out) ?_
    rintro e w2 ⟨rfl, hb2⟩
    have z2 := Below.size hb2; try simp only [World.size_alloc, World.size_setCell, World.size_drew] at z2
    obtain ⟨c2_0, f2_0⟩ := Below.blk hb2 (b := b) (by first | (simp; done) | omega | (simp; omega))
    have z2_0 : b < w2.heap.size := (by first | (simp; done) | omega | (simp; omega))
    have H2 := (H1.out.thru hb2)
    obtain ⟨z3, k3, f3⟩ := H2.box 1 rfl
    have H3 : St w none0 w2 (cellA (w.heap.size + 1) _ :: _) := H2.front 1 rfl
    have H4 := ((((((((((((((H3).set 0 rfl 0 (.int .i64 x0) (by simp))).set 0 rfl 1 (.int .i64 x1) (by simp))).set 0 rfl 2 (.int .i64 x2) (by simp))).set 0 rfl 3 (.int .i64 x3) (by simp))).set 0 rfl 4 (.int .i64 x4) (by simp))).set 0 rfl 5 (.int .i64 x5) (by simp))).set 0 rfl 6 (.string x6) (by simp))
    clear H1 PI H2 H3
    replace H4 := Lib.hid H4
    go_wp2_with fail
    exact bodyPost_ret (v := .tuple #[.agg #[.int .i64 x0, .int .i64 x1, .int .i64 x2, .int .i64 x3, .int .i64 x4, .int .i64 x5, .string x6], .bool true]) (by simp [results, Try.results14, go_sem, z3, k3, f3]) rfl (H4.out.ret rfl)
end Go.Proofs.Ytpajedpkdfacoaa.Mp
