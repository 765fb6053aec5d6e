/- The walks of the document's answer on options of several paths: Known, Sizes. -/
import Derived.Test.YtpajedpkdfacoaaMpGet
namespace Go.Proofs.Ytpajedpkdfacoaa.Mp
set_option linter.unusedSimpArgs false
set_option linter.unusedVariables false
open Go Go.RowKit Go.Shelf Go.Proofs.Ytpajedpkdfacoaa Go.Proofs.Ytpajedpkdfacoaa.Octets
attribute [local irreducible] Calls

theorem known_any (k : Int) (w : World) : Calls Try.prog 38 #[.int .i64 k] w (Ret w (.bool (knownM k))) := by
  unfold knownM
  by_cases h0 : 0 ≤ k
  · have q0 : decide (0 ≤ k) = true := decide_eq_true h0
    by_cases h1 : k ≤ 11
    · have q1 : decide (k ≤ 11) = true := decide_eq_true h1
      by_cases h2 : k = 2
      · have q2 : (k != 2) = false := by simpa using h2
        have q3 : decide (k = 2) = true := decide_eq_true h2
        rw [q0, q1, decide_eq_false (by simpa using h2)]
        clear h0 h1 h2
        go_enter Try.func38, Try.ntmps38
        go_wp2_with fail
        go_ret
        exact Ret.mk (by simp) (by repeat (first | with_reducible exact Below.refl _ _ | (with_reducible refine Below.al ?_) | (with_reducible refine Below.drew ?_) | (with_reducible refine Below.set ?_ (by first | (simp; done) | omega | (simp; omega))) | (with_reducible refine Below.thru ?_ (by assumption)) | (with_reducible refine Below.chg ?_ (by assumption) (by first | (simp; done) | omega | (simp; omega)))))
      · have q2 : (k != 2) = true := by simpa using h2
        have q3 : decide (k = 2) = false := decide_eq_false h2
        rw [q0, q1, decide_eq_true h2]
        clear h0 h1 h2
        go_enter Try.func38, Try.ntmps38
        go_wp2_with fail
        go_ret
        exact Ret.mk (by simp) (by repeat (first | with_reducible exact Below.refl _ _ | (with_reducible refine Below.al ?_) | (with_reducible refine Below.drew ?_) | (with_reducible refine Below.set ?_ (by first | (simp; done) | omega | (simp; omega))) | (with_reducible refine Below.thru ?_ (by assumption)) | (with_reducible refine Below.chg ?_ (by assumption) (by first | (simp; done) | omega | (simp; omega)))))
    · have q1 : decide (k ≤ 11) = false := decide_eq_false h1
      rw [q0, q1]
      clear h0 h1
      go_enter Try.func38, Try.ntmps38
      go_wp2_with fail
      go_ret
      exact Ret.mk (by simp) (by repeat (first | with_reducible exact Below.refl _ _ | (with_reducible refine Below.al ?_) | (with_reducible refine Below.drew ?_) | (with_reducible refine Below.set ?_ (by first | (simp; done) | omega | (simp; omega))) | (with_reducible refine Below.thru ?_ (by assumption)) | (with_reducible refine Below.chg ?_ (by assumption) (by first | (simp; done) | omega | (simp; omega)))))
  · have q0 : decide (0 ≤ k) = false := decide_eq_false h0
    rw [q0]
    clear h0
    go_enter Try.func38, Try.ntmps38
    go_wp2_with fail
    go_ret
    exact Ret.mk (by simp) (by repeat (first | with_reducible exact Below.refl _ _ | (with_reducible refine Below.al ?_) | (with_reducible refine Below.drew ?_) | (with_reducible refine Below.set ?_ (by first | (simp; done) | omega | (simp; omega))) | (with_reducible refine Below.thru ?_ (by assumption)) | (with_reducible refine Below.chg ?_ (by assumption) (by first | (simp; done) | omega | (simp; omega)))))
theorem kinds_or (k : Int) : k = 0 ∨ k = 1 ∨ k = 3 ∨ k = 4 ∨ k = 5 ∨ k = 6 ∨ k = 7 ∨ k = 8 ∨ k = 9 ∨ k = 10 ∨ k = 11 ∨ ∀ j ∈ [0, 1, 3, 4, 5, 6, 7, 8, 9, 10, 11], k ≠ j := by
  by_cases h : fieldsO k = none
  · refine .inr (.inr (.inr (.inr (.inr (.inr (.inr (.inr (.inr (.inr (.inr ?_))))))))))
    rintro j hj rfl
    simp only [List.mem_cons, List.not_mem_nil, or_false] at hj
    rcases hj with rfl | rfl | rfl | rfl | rfl | rfl | rfl | rfl | rfl | rfl | rfl <;> cases h
  · rcases kinds h with h | h | h | h | h | h | h | h | h | h | h <;> simp [h]
set_option maxRecDepth 100000 in
set_option maxHeartbeats 1000000 in
theorem sizes_any (k : Int) (w : World) : Calls Try.prog 32 #[.int .i64 k] w (Ret w (.agg (i64s (sizesM k)).toArray)) := by
  rcases kinds_or k with rfl | rfl | rfl | rfl | rfl | rfl | rfl | rfl | rfl | rfl | rfl | hn
  · have H := (St.zero w).alloc (i64s (sizesM 0)) 66
    replace H := Lib.hid H
    go_enter Try.func32, Try.ntmps32
    go_wp2_with fail
    exact bodyPost_ret (v := .agg (i64s (sizesM 0)).toArray) (by simp [results, Try.results32, go_sem, i64s, sizesM]) rfl (H.out.ret rfl)
  · have H := (St.zero w).alloc (i64s (sizesM 1)) 66
    replace H := Lib.hid H
    go_enter Try.func32, Try.ntmps32
    go_wp2_with fail
    exact bodyPost_ret (v := .agg (i64s (sizesM 1)).toArray) (by simp [results, Try.results32, go_sem, i64s, sizesM]) rfl (H.out.ret rfl)
  · have H := (St.zero w).alloc (i64s (sizesM 3)) 66
    replace H := Lib.hid H
    go_enter Try.func32, Try.ntmps32
    go_wp2_with fail
    exact bodyPost_ret (v := .agg (i64s (sizesM 3)).toArray) (by simp [results, Try.results32, go_sem, i64s, sizesM]) rfl (H.out.ret rfl)
  · have H := (St.zero w).alloc (i64s (sizesM 4)) 66
    replace H := Lib.hid H
    go_enter Try.func32, Try.ntmps32
    go_wp2_with fail
    exact bodyPost_ret (v := .agg (i64s (sizesM 4)).toArray) (by simp [results, Try.results32, go_sem, i64s, sizesM]) rfl (H.out.ret rfl)
  · have H := (St.zero w).alloc (i64s (sizesM 5)) 66
    replace H := Lib.hid H
    go_enter Try.func32, Try.ntmps32
    go_wp2_with fail
    exact bodyPost_ret (v := .agg (i64s (sizesM 5)).toArray) (by simp [results, Try.results32, go_sem, i64s, sizesM]) rfl (H.out.ret rfl)
  · have H := (St.zero w).alloc (i64s (sizesM 6)) 66
    replace H := Lib.hid H
    go_enter Try.func32, Try.ntmps32
    go_wp2_with fail
    exact bodyPost_ret (v := .agg (i64s (sizesM 6)).toArray) (by simp [results, Try.results32, go_sem, i64s, sizesM]) rfl (H.out.ret rfl)
  · have H := (St.zero w).alloc (i64s (sizesM 7)) 66
    replace H := Lib.hid H
    go_enter Try.func32, Try.ntmps32
    go_wp2_with fail
    exact bodyPost_ret (v := .agg (i64s (sizesM 7)).toArray) (by simp [results, Try.results32, go_sem, i64s, sizesM]) rfl (H.out.ret rfl)
  · have H := (St.zero w).alloc (i64s (sizesM 8)) 66
    replace H := Lib.hid H
    go_enter Try.func32, Try.ntmps32
    go_wp2_with fail
    exact bodyPost_ret (v := .agg (i64s (sizesM 8)).toArray) (by simp [results, Try.results32, go_sem, i64s, sizesM]) rfl (H.out.ret rfl)
  · have H := (St.zero w).alloc (i64s (sizesM 9)) 66
    replace H := Lib.hid H
    go_enter Try.func32, Try.ntmps32
    go_wp2_with fail
    exact bodyPost_ret (v := .agg (i64s (sizesM 9)).toArray) (by simp [results, Try.results32, go_sem, i64s, sizesM]) rfl (H.out.ret rfl)
  · have H := (St.zero w).alloc (i64s (sizesM 10)) 66
    replace H := Lib.hid H
    go_enter Try.func32, Try.ntmps32
    go_wp2_with fail
    exact bodyPost_ret (v := .agg (i64s (sizesM 10)).toArray) (by simp [results, Try.results32, go_sem, i64s, sizesM]) rfl (H.out.ret rfl)
  · have H := (St.zero w).alloc (i64s (sizesM 11)) 66
    replace H := Lib.hid H
    go_enter Try.func32, Try.ntmps32
    go_wp2_with fail
    exact bodyPost_ret (v := .agg (i64s (sizesM 11)).toArray) (by simp [results, Try.results32, go_sem, i64s, sizesM]) rfl (H.out.ret rfl)
  · have hs : sizesM k = [0, 0, 0, 0, 0, 0, 0] := by
      unfold sizesM
      rw [if_neg (hn 0 (by simp)), if_neg (hn 1 (by simp)), if_neg (hn 3 (by simp)), if_neg (hn 4 (by simp)), if_neg (hn 5 (by simp)), if_neg (hn 6 (by simp)), if_neg (fun h => h.elim (hn 7 (by simp)) (hn 8 (by simp))), if_neg (hn 9 (by simp)), if_neg (hn 10 (by simp)), if_neg (hn 11 (by simp))]
    have hb : ∀ j ∈ [0, 1, 3, 4, 5, 6, 7, 8, 9, 10, 11], (k == j) = false := fun j hj => by rw [beq_eq_false_iff_ne]; exact hn j hj
    have h0 := hb 0 (by simp)
    have h1 := hb 1 (by simp)
    have h3 := hb 3 (by simp)
    have h4 := hb 4 (by simp)
    have h5 := hb 5 (by simp)
    have h6 := hb 6 (by simp)
    have h7 := hb 7 (by simp)
    have h8 := hb 8 (by simp)
    have h9 := hb 9 (by simp)
    have h10 := hb 10 (by simp)
    have h11 := hb 11 (by simp)
    rw [hs]
    clear hs hb hn
    have H := (St.zero w).alloc (i64s [0, 0, 0, 0, 0, 0, 0]) 66
    replace H := Lib.hid H
    go_enter Try.func32, Try.ntmps32
    go_wp2_with fail
    exact bodyPost_ret (v := .agg (i64s [0, 0, 0, 0, 0, 0, 0]).toArray) (by simp [results, Try.results32, go_sem, i64s]) rfl (H.out.ret rfl)
end Go.Proofs.Ytpajedpkdfacoaa.Mp
