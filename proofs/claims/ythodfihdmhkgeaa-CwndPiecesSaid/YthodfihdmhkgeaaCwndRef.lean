/- The walks of the document's answers: what a window does. -/
import Derived.Test.YthodfihdmhkgeaaCwndOps
namespace Go.Proofs.Ythodfihdmhkgeaa.Cwnd
set_option linter.unusedSimpArgs false
set_option linter.unusedVariables false
open Go Go.RowKit Go.Proofs.Ythodfihdmhkgeaa Go.Proofs.Ythodfihdmhkgeaa.Circ
attribute [local irreducible] Calls

theorem rnew_any (w : World) : Calls Try.prog 27 #[] w (Ret w (.agg #[.int .i64 3, .int .i64 16, .int .i64 0, .bool false, .int .i64 0])) := by
  go_enter Try.func27, Try.ntmps27
  go_wp2_with fail
  exact bodyPost_ret (v := .agg #[.int .i64 3, .int .i64 16, .int .i64 0, .bool false, .int .i64 0]) (by simp [results, Try.results27, go_sem]) rfl (Ret.mk rfl (by repeat (first | with_reducible exact Below.refl _ _ | (with_reducible refine Below.al ?_) | (with_reducible refine Below.drew ?_) | (with_reducible refine Below.set ?_ (by first | (simp; done) | omega | (simp; omega))) | (with_reducible refine Below.thru ?_ (by assumption)) | (with_reducible refine Below.chg ?_ (by assumption) (by first | (simp; done) | omega | (simp; omega))))))

set_option maxRecDepth 100000 in
set_option maxHeartbeats 800000 in
theorem racked_any (y : Win) (many : Int) (full : Bool) (hok : y.Ok) (w : World) :
    Calls Try.prog 31 #[.agg #[.int .i64 y.s, .int .i64 y.t, .int .i64 y.c, .bool y.k, .int .i64 y.m], .int .i64 many, .bool full] w
      (Ret w (.agg #[.int .i64 (y.acked many full).s, .int .i64 (y.acked many full).t, .int .i64 (y.acked many full).c, .bool (y.acked many full).k, .int .i64 (y.acked many full).m])) := by
  cases full
  · rw [show y.acked many false = y from rfl]
    obtain ⟨s, t, c, k, m⟩ := y
    clear hok
    go_enter Try.func31, Try.ntmps31
    go_wp2_with fail
    go_loopg [7] 0 (fun g i wr => i = .int .i64 ((0 : Nat) : Int) ∧ Below w.heap.size w wr ∧ Box wr w.heap.size [.int .i64 s, .int .i64 t, .int .i64 c, .bool k, .int .i64 m] ∧ Box wr (w.heap.size + 1) zeros)
    case atStart => exact ⟨rfl, (by repeat (first | with_reducible exact Below.refl _ _ | (with_reducible refine Below.al ?_) | (with_reducible refine Below.drew ?_) | (with_reducible refine Below.set ?_ (by first | (simp; done) | omega | (simp; omega))) | (with_reducible refine Below.thru ?_ (by assumption)) | (with_reducible refine Below.chg ?_ (by assumption) (by first | (simp; done) | omega | (simp; omega))))), (by (try rw [show ((0 : Nat) : Int) = 0 from rfl]); repeat (first | fail | (with_reducible refine Box.below ?_ (by assumption)) | (with_reducible refine Box.drew ?_) | (with_reducible refine Box.new_at (by first | rfl | (simp; done) | omega)) | (with_reducible refine Box.al ?_) | (with_reducible apply Box.set0) | (with_reducible apply Box.set1) | (with_reducible apply Box.set2) | (with_reducible apply Box.set3) | (with_reducible apply Box.set4) | (with_reducible apply Box.set5) | (with_reducible apply Box.set6) | (with_reducible apply Box.set7) | (with_reducible apply Box.set8) | (with_reducible refine Box.oth ?_ (by first | (simp; done) | omega | (simp; omega))) | (with_reducible refine Box.chg ?_ (by assumption) (by first | (simp; done) | omega | (simp; omega))))), by unfold zeros; exact (by (try rw [show ((0 : Nat) : Int) = 0 from rfl]); repeat (first | fail | (with_reducible refine Box.below ?_ (by assumption)) | (with_reducible refine Box.drew ?_) | (with_reducible refine Box.new_at (by first | rfl | (simp; done) | omega)) | (with_reducible refine Box.al ?_) | (with_reducible apply Box.set0) | (with_reducible apply Box.set1) | (with_reducible apply Box.set2) | (with_reducible apply Box.set3) | (with_reducible apply Box.set4) | (with_reducible apply Box.set5) | (with_reducible apply Box.set6) | (with_reducible apply Box.set7) | (with_reducible apply Box.set8) | (with_reducible refine Box.oth ?_ (by first | (simp; done) | omega | (simp; omega))) | (with_reducible refine Box.chg ?_ (by assumption) (by first | (simp; done) | omega | (simp; omega)))))⟩
    case round =>
      obtain ⟨rfl, hbw, hB, hB1⟩ := hrel
      unfold zeros at hB1
      obtain ⟨zB, cB, fB⟩ := hB
      obtain ⟨zB1, cB1, fB1⟩ := hB1
      by_cases h : 0 < many
      · have q : decide (((0 : Nat) : Int) < many) = true := decide_eq_true h
        have q' : decide (0 < many) = true := decide_eq_true h
        go_wp2_with fail
        exact bodyPost_ret (v := .agg #[.int .i64 s, .int .i64 t, .int .i64 c, .bool k, .int .i64 m]) (by simp [results, Try.results31, go_sem, cB1]) rfl (Ret.mk rfl (by repeat (first | with_reducible exact Below.refl _ _ | (with_reducible refine Below.al ?_) | (with_reducible refine Below.drew ?_) | (with_reducible refine Below.set ?_ (by first | (simp; done) | omega | (simp; omega))) | (with_reducible refine Below.thru ?_ (by assumption)) | (with_reducible refine Below.chg ?_ (by assumption) (by first | (simp; done) | omega | (simp; omega))))))
      · have q : decide (((0 : Nat) : Int) < many) = false := decide_eq_false h
        have q' : decide (0 < many) = false := decide_eq_false h
        go_wp2_with fail
        exact bodyPost_ret (v := .agg #[.int .i64 s, .int .i64 t, .int .i64 c, .bool k, .int .i64 m]) (by simp [results, Try.results31, go_sem, cB1]) rfl (Ret.mk rfl (by repeat (first | with_reducible exact Below.refl _ _ | (with_reducible refine Below.al ?_) | (with_reducible refine Below.drew ?_) | (with_reducible refine Below.set ?_ (by first | (simp; done) | omega | (simp; omega))) | (with_reducible refine Below.thru ?_ (by assumption)) | (with_reducible refine Below.chg ?_ (by assumption) (by first | (simp; done) | omega | (simp; omega))))))
  · obtain ⟨N, hN, hN64⟩ : ∃ N : Nat, min (max many 0) 64 = (N : Int) ∧ N ≤ 64 := ⟨manyF many, by unfold manyF; omega, by unfold manyF; omega⟩
    have hr : y.acked many true = y.iter N := by
      unfold Win.acked manyF
      rw [hN]; rfl
    generalize hz : y.acked many true = z at *
    obtain ⟨zs, zt, zc, zk, zm⟩ := z
    have HOK := Lib.hid hok.iter
    have HY0 : Hid (y.iter 0 = y) := rfl
    have HYS : Hid (∀ n, y.iter (n + 1) = (y.iter n).grow) := fun _ => rfl
    generalize hit : y.iter = it at *
    obtain ⟨s, t, c, k, m⟩ := y
    clear hit hz hok
    replace hr := Lib.hid hr; replace hN := Lib.hid hN
    go_enter Try.func31, Try.ntmps31
    go_wp2_with fail
    go_loopg [7] N (fun g i wr => ∃ (j : Nat) (x : Win), j ≤ N ∧ g = N - j ∧ i = .int .i64 j ∧ Hid (x = it j) ∧ Below w.heap.size w wr ∧ Box wr w.heap.size [.int .i64 x.s, .int .i64 x.t, .int .i64 x.c, .bool x.k, .int .i64 x.m] ∧ Box wr (w.heap.size + 1) zeros)
    case atStart =>
      refine ⟨0, ⟨s, t, c, k, m⟩, by omega, by omega, rfl, HY0.out.symm, (by repeat (first | with_reducible exact Below.refl _ _ | (with_reducible refine Below.al ?_) | (with_reducible refine Below.drew ?_) | (with_reducible refine Below.set ?_ (by first | (simp; done) | omega | (simp; omega))) | (with_reducible refine Below.thru ?_ (by assumption)) | (with_reducible refine Below.chg ?_ (by assumption) (by first | (simp; done) | omega | (simp; omega))))), ?_, ?_⟩
      · simp only
        exact (by (try rw [show ((0 : Nat) : Int) = 0 from rfl]); repeat (first | fail | (with_reducible refine Box.below ?_ (by assumption)) | (with_reducible refine Box.drew ?_) | (with_reducible refine Box.new_at (by first | rfl | (simp; done) | omega)) | (with_reducible refine Box.al ?_) | (with_reducible apply Box.set0) | (with_reducible apply Box.set1) | (with_reducible apply Box.set2) | (with_reducible apply Box.set3) | (with_reducible apply Box.set4) | (with_reducible apply Box.set5) | (with_reducible apply Box.set6) | (with_reducible apply Box.set7) | (with_reducible apply Box.set8) | (with_reducible refine Box.oth ?_ (by first | (simp; done) | omega | (simp; omega))) | (with_reducible refine Box.chg ?_ (by assumption) (by first | (simp; done) | omega | (simp; omega)))))
      · unfold zeros
        exact (by (try rw [show ((0 : Nat) : Int) = 0 from rfl]); repeat (first | fail | (with_reducible refine Box.below ?_ (by assumption)) | (with_reducible refine Box.drew ?_) | (with_reducible refine Box.new_at (by first | rfl | (simp; done) | omega)) | (with_reducible refine Box.al ?_) | (with_reducible apply Box.set0) | (with_reducible apply Box.set1) | (with_reducible apply Box.set2) | (with_reducible apply Box.set3) | (with_reducible apply Box.set4) | (with_reducible apply Box.set5) | (with_reducible apply Box.set6) | (with_reducible apply Box.set7) | (with_reducible apply Box.set8) | (with_reducible refine Box.oth ?_ (by first | (simp; done) | omega | (simp; omega))) | (with_reducible refine Box.chg ?_ (by assumption) (by first | (simp; done) | omega | (simp; omega)))))
    case round =>
      obtain ⟨j, ⟨s, t, c, k, m⟩, hj, hg, rfl, hx, hbw, hB, hB1⟩ := hrel
      unfold zeros at hB1
      have HB := Lib.hid hB
      have HB1 := Lib.hid hB1
      obtain ⟨zB, cB, fB⟩ := hB
      obtain ⟨zB1, cB1, fB1⟩ := hB1
      by_cases hlt : j < N
      · have hok := HOK.out j
        have hnx := HYS.out j
        rw [← hx.out] at hok hnx
        obtain ⟨h1, h2, h3, h4, h5, h6⟩ := hok
        simp only at h1 h2 h3 h4 h5 h6
        have q1 : decide ((j : Int) < many) = true := decide_eq_true (by have := hN.out; omega)
        have q2 : decide ((j : Int) < 64) = true := decide_eq_true (by omega)
        by_cases a1 : 16 ≤ s
        · rw [show Win.grow ⟨s, t, c, k, m⟩ = ⟨s, t, c, k, m⟩ from if_pos a1] at hnx
          have p1 : (s == 16) = true := by simp; omega
          replace hnx := Lib.hid hnx
          go_wp2_with fail
          go_roundg (N - (j + 1))
          case measure => omega
          case rel => exact ⟨j + 1, ⟨s, t, c, k, m⟩, by omega, rfl, by go_num, hnx.out.symm, (by repeat (first | with_reducible exact Below.refl _ _ | (with_reducible refine Below.al ?_) | (with_reducible refine Below.drew ?_) | (with_reducible refine Below.set ?_ (by first | (simp; done) | omega | (simp; omega))) | (with_reducible refine Below.thru ?_ (by assumption)) | (with_reducible refine Below.chg ?_ (by assumption) (by first | (simp; done) | omega | (simp; omega))))), (by (try rw [show ((0 : Nat) : Int) = 0 from rfl]); repeat (first | (with_reducible exact Hid.out HB) | (with_reducible refine Box.below ?_ (by assumption)) | (with_reducible refine Box.drew ?_) | (with_reducible refine Box.new_at (by first | rfl | (simp; done) | omega)) | (with_reducible refine Box.al ?_) | (with_reducible apply Box.set0) | (with_reducible apply Box.set1) | (with_reducible apply Box.set2) | (with_reducible apply Box.set3) | (with_reducible apply Box.set4) | (with_reducible apply Box.set5) | (with_reducible apply Box.set6) | (with_reducible apply Box.set7) | (with_reducible apply Box.set8) | (with_reducible refine Box.oth ?_ (by first | (simp; done) | omega | (simp; omega))) | (with_reducible refine Box.chg ?_ (by assumption) (by first | (simp; done) | omega | (simp; omega))))), by unfold zeros; exact (by (try rw [show ((0 : Nat) : Int) = 0 from rfl]); repeat (first | (with_reducible exact Hid.out HB1) | (with_reducible refine Box.below ?_ (by assumption)) | (with_reducible refine Box.drew ?_) | (with_reducible refine Box.new_at (by first | rfl | (simp; done) | omega)) | (with_reducible refine Box.al ?_) | (with_reducible apply Box.set0) | (with_reducible apply Box.set1) | (with_reducible apply Box.set2) | (with_reducible apply Box.set3) | (with_reducible apply Box.set4) | (with_reducible apply Box.set5) | (with_reducible apply Box.set6) | (with_reducible apply Box.set7) | (with_reducible apply Box.set8) | (with_reducible refine Box.oth ?_ (by first | (simp; done) | omega | (simp; omega))) | (with_reducible refine Box.chg ?_ (by assumption) (by first | (simp; done) | omega | (simp; omega)))))⟩
        · have p1 : (s == 16) = false := by simp; omega
          by_cases a2 : s < t
          · rw [show Win.grow ⟨s, t, c, k, m⟩ = ⟨s + 1, t, c, k, m⟩ from (if_neg a1).trans (if_pos a2)] at hnx
            have p2 : decide (s < t) = true := decide_eq_true a2
            replace hnx := Lib.hid hnx
            go_wp2_with fail
            go_roundg (N - (j + 1))
            case measure => omega
            case rel => exact ⟨j + 1, ⟨s + 1, t, c, k, m⟩, by omega, rfl, by go_num, hnx.out.symm, (by repeat (first | with_reducible exact Below.refl _ _ | (with_reducible refine Below.al ?_) | (with_reducible refine Below.drew ?_) | (with_reducible refine Below.set ?_ (by first | (simp; done) | omega | (simp; omega))) | (with_reducible refine Below.thru ?_ (by assumption)) | (with_reducible refine Below.chg ?_ (by assumption) (by first | (simp; done) | omega | (simp; omega))))), (by (try rw [show ((0 : Nat) : Int) = 0 from rfl]); repeat (first | (with_reducible exact Hid.out HB) | (with_reducible refine Box.below ?_ (by assumption)) | (with_reducible refine Box.drew ?_) | (with_reducible refine Box.new_at (by first | rfl | (simp; done) | omega)) | (with_reducible refine Box.al ?_) | (with_reducible apply Box.set0) | (with_reducible apply Box.set1) | (with_reducible apply Box.set2) | (with_reducible apply Box.set3) | (with_reducible apply Box.set4) | (with_reducible apply Box.set5) | (with_reducible apply Box.set6) | (with_reducible apply Box.set7) | (with_reducible apply Box.set8) | (with_reducible refine Box.oth ?_ (by first | (simp; done) | omega | (simp; omega))) | (with_reducible refine Box.chg ?_ (by assumption) (by first | (simp; done) | omega | (simp; omega))))), by unfold zeros; exact (by (try rw [show ((0 : Nat) : Int) = 0 from rfl]); repeat (first | (with_reducible exact Hid.out HB1) | (with_reducible refine Box.below ?_ (by assumption)) | (with_reducible refine Box.drew ?_) | (with_reducible refine Box.new_at (by first | rfl | (simp; done) | omega)) | (with_reducible refine Box.al ?_) | (with_reducible apply Box.set0) | (with_reducible apply Box.set1) | (with_reducible apply Box.set2) | (with_reducible apply Box.set3) | (with_reducible apply Box.set4) | (with_reducible apply Box.set5) | (with_reducible apply Box.set6) | (with_reducible apply Box.set7) | (with_reducible apply Box.set8) | (with_reducible refine Box.oth ?_ (by first | (simp; done) | omega | (simp; omega))) | (with_reducible refine Box.chg ?_ (by assumption) (by first | (simp; done) | omega | (simp; omega)))))⟩
          · have p2 : decide (s < t) = false := decide_eq_false a2
            by_cases a3 : s ≤ c + 1
            · rw [show Win.grow ⟨s, t, c, k, m⟩ = ⟨s + 1, t, 0, k, m⟩ from ((if_neg a1).trans (if_neg a2)).trans (if_pos a3)] at hnx
              have p3 : (c + 1 == s) = true := by simp; omega
              replace hnx := Lib.hid hnx
              go_wp2_with fail
              go_roundg (N - (j + 1))
              case measure => omega
              case rel => exact ⟨j + 1, ⟨s + 1, t, 0, k, m⟩, by omega, rfl, by go_num, hnx.out.symm, (by repeat (first | with_reducible exact Below.refl _ _ | (with_reducible refine Below.al ?_) | (with_reducible refine Below.drew ?_) | (with_reducible refine Below.set ?_ (by first | (simp; done) | omega | (simp; omega))) | (with_reducible refine Below.thru ?_ (by assumption)) | (with_reducible refine Below.chg ?_ (by assumption) (by first | (simp; done) | omega | (simp; omega))))), (by (try rw [show ((0 : Nat) : Int) = 0 from rfl]); repeat (first | (with_reducible exact Hid.out HB) | (with_reducible refine Box.below ?_ (by assumption)) | (with_reducible refine Box.drew ?_) | (with_reducible refine Box.new_at (by first | rfl | (simp; done) | omega)) | (with_reducible refine Box.al ?_) | (with_reducible apply Box.set0) | (with_reducible apply Box.set1) | (with_reducible apply Box.set2) | (with_reducible apply Box.set3) | (with_reducible apply Box.set4) | (with_reducible apply Box.set5) | (with_reducible apply Box.set6) | (with_reducible apply Box.set7) | (with_reducible apply Box.set8) | (with_reducible refine Box.oth ?_ (by first | (simp; done) | omega | (simp; omega))) | (with_reducible refine Box.chg ?_ (by assumption) (by first | (simp; done) | omega | (simp; omega))))), by unfold zeros; exact (by (try rw [show ((0 : Nat) : Int) = 0 from rfl]); repeat (first | (with_reducible exact Hid.out HB1) | (with_reducible refine Box.below ?_ (by assumption)) | (with_reducible refine Box.drew ?_) | (with_reducible refine Box.new_at (by first | rfl | (simp; done) | omega)) | (with_reducible refine Box.al ?_) | (with_reducible apply Box.set0) | (with_reducible apply Box.set1) | (with_reducible apply Box.set2) | (with_reducible apply Box.set3) | (with_reducible apply Box.set4) | (with_reducible apply Box.set5) | (with_reducible apply Box.set6) | (with_reducible apply Box.set7) | (with_reducible apply Box.set8) | (with_reducible refine Box.oth ?_ (by first | (simp; done) | omega | (simp; omega))) | (with_reducible refine Box.chg ?_ (by assumption) (by first | (simp; done) | omega | (simp; omega)))))⟩
            · rw [show Win.grow ⟨s, t, c, k, m⟩ = ⟨s, t, c + 1, k, m⟩ from ((if_neg a1).trans (if_neg a2)).trans (if_neg a3)] at hnx
              have p3 : (c + 1 == s) = false := by simp; omega
              replace hnx := Lib.hid hnx
              go_wp2_with fail
              go_roundg (N - (j + 1))
              case measure => omega
              case rel => exact ⟨j + 1, ⟨s, t, c + 1, k, m⟩, by omega, rfl, by go_num, hnx.out.symm, (by repeat (first | with_reducible exact Below.refl _ _ | (with_reducible refine Below.al ?_) | (with_reducible refine Below.drew ?_) | (with_reducible refine Below.set ?_ (by first | (simp; done) | omega | (simp; omega))) | (with_reducible refine Below.thru ?_ (by assumption)) | (with_reducible refine Below.chg ?_ (by assumption) (by first | (simp; done) | omega | (simp; omega))))), (by (try rw [show ((0 : Nat) : Int) = 0 from rfl]); repeat (first | (with_reducible exact Hid.out HB) | (with_reducible refine Box.below ?_ (by assumption)) | (with_reducible refine Box.drew ?_) | (with_reducible refine Box.new_at (by first | rfl | (simp; done) | omega)) | (with_reducible refine Box.al ?_) | (with_reducible apply Box.set0) | (with_reducible apply Box.set1) | (with_reducible apply Box.set2) | (with_reducible apply Box.set3) | (with_reducible apply Box.set4) | (with_reducible apply Box.set5) | (with_reducible apply Box.set6) | (with_reducible apply Box.set7) | (with_reducible apply Box.set8) | (with_reducible refine Box.oth ?_ (by first | (simp; done) | omega | (simp; omega))) | (with_reducible refine Box.chg ?_ (by assumption) (by first | (simp; done) | omega | (simp; omega))))), by unfold zeros; exact (by (try rw [show ((0 : Nat) : Int) = 0 from rfl]); repeat (first | (with_reducible exact Hid.out HB1) | (with_reducible refine Box.below ?_ (by assumption)) | (with_reducible refine Box.drew ?_) | (with_reducible refine Box.new_at (by first | rfl | (simp; done) | omega)) | (with_reducible refine Box.al ?_) | (with_reducible apply Box.set0) | (with_reducible apply Box.set1) | (with_reducible apply Box.set2) | (with_reducible apply Box.set3) | (with_reducible apply Box.set4) | (with_reducible apply Box.set5) | (with_reducible apply Box.set6) | (with_reducible apply Box.set7) | (with_reducible apply Box.set8) | (with_reducible refine Box.oth ?_ (by first | (simp; done) | omega | (simp; omega))) | (with_reducible refine Box.chg ?_ (by assumption) (by first | (simp; done) | omega | (simp; omega)))))⟩
      · obtain rfl : j = N := by omega
        have he := hx.out.trans hr.out.symm
        injection he with e1 e2 e3 e4 e5
        subst e1 e2 e3 e4 e5
        by_cases h : (j : Int) < many
        · have q1 : decide ((j : Int) < many) = true := decide_eq_true h
          have q2 : decide ((j : Int) < 64) = false := decide_eq_false (by have := hN.out; omega)
          go_wp2_with fail
          exact bodyPost_ret (v := .agg #[.int .i64 s, .int .i64 t, .int .i64 c, .bool k, .int .i64 m]) (by simp [results, Try.results31, go_sem, cB1]) rfl (Ret.mk rfl (by repeat (first | with_reducible exact Below.refl _ _ | (with_reducible refine Below.al ?_) | (with_reducible refine Below.drew ?_) | (with_reducible refine Below.set ?_ (by first | (simp; done) | omega | (simp; omega))) | (with_reducible refine Below.thru ?_ (by assumption)) | (with_reducible refine Below.chg ?_ (by assumption) (by first | (simp; done) | omega | (simp; omega))))))
        · have q1 : decide ((j : Int) < many) = false := decide_eq_false h
          go_wp2_with fail
          exact bodyPost_ret (v := .agg #[.int .i64 s, .int .i64 t, .int .i64 c, .bool k, .int .i64 m]) (by simp [results, Try.results31, go_sem, cB1]) rfl (Ret.mk rfl (by repeat (first | with_reducible exact Below.refl _ _ | (with_reducible refine Below.al ?_) | (with_reducible refine Below.drew ?_) | (with_reducible refine Below.set ?_ (by first | (simp; done) | omega | (simp; omega))) | (with_reducible refine Below.thru ?_ (by assumption)) | (with_reducible refine Below.chg ?_ (by assumption) (by first | (simp; done) | omega | (simp; omega))))))

set_option maxRecDepth 100000 in
theorem rlate_any (s t c : Int) (k : Bool) (m next : Int) (h0 : 0 ≤ s) (h1 : s ≤ 16) (w : World) :
    Calls Try.prog 35 #[.agg #[.int .i64 s, .int .i64 t, .int .i64 c, .bool k, .int .i64 m], .int .i64 next] w
      (Ret w (.agg #[.int .i64 1, .int .i64 (max (s / 2) 2), .int .i64 0, .bool true, .int .i64 (ofC next)])) := by
  go_enter Try.func35, Try.ntmps35
  go_wp2_with fail
  refine wp_region_near_tail 7 (by kernel_rfl) (by kernel_rfl) ?_
  intro hs
  simp only [List.take_succ_cons, List.take_zero, List.drop_succ_cons, List.drop_zero]
  repeat (go_big_quiet_step ((go_at_call 74; exact Calls.near (by simp) (rof_any next _))))
  refine wpQuiet_nil ?_
  clear hs
  intro w1 hb1
  obtain ⟨c1, f1⟩ := Below.blk hb1 (b := w.heap.size + 1) (by first | (simp; done) | omega | (simp; omega))
  have z1 : w.heap.size + 1 < w1.heap.size := by have := hb1.size; simp at this; omega
  go_wp2_with fail
  exact bodyPost_ret (v := .agg #[.int .i64 1, .int .i64 (max (s / 2) 2), .int .i64 0, .bool true, .int .i64 (ofC next)]) (by simp [results, Try.results35, go_sem, c1]) rfl (Ret.mk rfl (by repeat (first | with_reducible exact Below.refl _ _ | (with_reducible refine Below.al ?_) | (with_reducible refine Below.drew ?_) | (with_reducible refine Below.set ?_ (by first | (simp; done) | omega | (simp; omega))) | (with_reducible refine Below.thru ?_ (by assumption)) | (with_reducible refine Below.chg ?_ (by assumption) (by first | (simp; done) | omega | (simp; omega))))))

set_option maxRecDepth 100000 in
theorem rlost_any (y : Win) (seq next : Int) (hok : y.Ok) (w : World) :
    Calls Try.prog 33 #[.agg #[.int .i64 y.s, .int .i64 y.t, .int .i64 y.c, .bool y.k, .int .i64 y.m], .int .i64 seq, .int .i64 next] w
      (Ret w (.tuple #[.agg #[.int .i64 (y.lost seq next).s, .int .i64 (y.lost seq next).t, .int .i64 (y.lost seq next).c, .bool (y.lost seq next).k, .int .i64 (y.lost seq next).m], .bool (!y.old seq)])) := by
  obtain ⟨s, t, c, k, m⟩ := y
  obtain ⟨h1, h2, h3, h4, h5, h6⟩ := hok
  simp only at h1 h2 h3 h4 h5 h6
  cases k
  · rw [show Win.lost ⟨s, t, c, false, m⟩ seq next = ⟨max (s / 2) 2, max (s / 2) 2, 0, true, ofC next⟩ from rfl, show Win.old ⟨s, t, c, false, m⟩ seq = false from rfl]
    go_enter Try.func33, Try.ntmps33
    go_wp2_with fail
    refine Calls.mono (rof_any next _) ?_
    rintro e w1 ⟨rfl, hb1⟩
    have z1 := Below.size hb1; try simp only [World.size_alloc, World.size_setCell, World.size_drew] at z1
    obtain ⟨c1_0, f1_0⟩ := Below.blk hb1 (b := w.heap.size) (by first | (simp; done) | omega | (simp; omega))
    have z1_0 : w.heap.size < w1.heap.size := (by first | (simp; done) | omega | (simp; omega))
    obtain ⟨c1_1, f1_1⟩ := Below.blk hb1 (b := w.heap.size + 1) (by first | (simp; done) | omega | (simp; omega))
    have z1_1 : w.heap.size + 1 < w1.heap.size := (by first | (simp; done) | omega | (simp; omega))
    go_wp2_with fail
    exact bodyPost_ret (v := .tuple #[.agg #[.int .i64 (max (s / 2) 2), .int .i64 (max (s / 2) 2), .int .i64 0, .bool true, .int .i64 (ofC next)], .bool true]) (by simp [results, Try.results33, go_sem, c1_0, c1_1]) rfl (Ret.mk rfl (by repeat (first | with_reducible exact Below.refl _ _ | (with_reducible refine Below.al ?_) | (with_reducible refine Below.drew ?_) | (with_reducible refine Below.set ?_ (by first | (simp; done) | omega | (simp; omega))) | (with_reducible refine Below.thru ?_ (by assumption)) | (with_reducible refine Below.chg ?_ (by assumption) (by first | (simp; done) | omega | (simp; omega))))))
  · cases hl : lessC seq m
    · rw [show Win.old ⟨s, t, c, true, m⟩ seq = false from hl, show Win.lost ⟨s, t, c, true, m⟩ seq next = ⟨max (s / 2) 2, max (s / 2) 2, 0, true, ofC next⟩ from by simp [Win.lost, Win.old, Win.shrunk, hl]]
      replace hl := Lib.hid hl
      go_enter Try.func33, Try.ntmps33
      go_wp2_with fail
      refine Calls.mono (rless_any seq m _) ?_
      rintro e w1 ⟨rfl, hb1⟩
      have z1 := Below.size hb1; try simp only [World.size_alloc, World.size_setCell, World.size_drew] at z1
      obtain ⟨c1_0, f1_0⟩ := Below.blk hb1 (b := w.heap.size) (by first | (simp; done) | omega | (simp; omega))
      have z1_0 : w.heap.size < w1.heap.size := (by first | (simp; done) | omega | (simp; omega))
      obtain ⟨c1_1, f1_1⟩ := Below.blk hb1 (b := w.heap.size + 1) (by first | (simp; done) | omega | (simp; omega))
      have z1_1 : w.heap.size + 1 < w1.heap.size := (by first | (simp; done) | omega | (simp; omega))
      rw [hl.out]
      go_wp2_with fail
      refine Calls.mono (rof_any next _) ?_
      rintro e w2 ⟨rfl, hb2⟩
      have z2 := Below.size hb2; try simp only [World.size_alloc, World.size_setCell, World.size_drew] at z2
      obtain ⟨c2_0, f2_0⟩ := Below.blk hb2 (b := w.heap.size) (by first | (simp; done) | omega | (simp; omega))
      have z2_0 : w.heap.size < w2.heap.size := (by first | (simp; done) | omega | (simp; omega))
      obtain ⟨c2_1, f2_1⟩ := Below.blk hb2 (b := w.heap.size + 1) (by first | (simp; done) | omega | (simp; omega))
      have z2_1 : w.heap.size + 1 < w2.heap.size := (by first | (simp; done) | omega | (simp; omega))
      go_wp2_with fail
      exact bodyPost_ret (v := .tuple #[.agg #[.int .i64 (max (s / 2) 2), .int .i64 (max (s / 2) 2), .int .i64 0, .bool true, .int .i64 (ofC next)], .bool true]) (by simp [results, Try.results33, go_sem, c2_0, c2_1, c1_0, c1_1]) rfl (Ret.mk rfl (by repeat (first | with_reducible exact Below.refl _ _ | (with_reducible refine Below.al ?_) | (with_reducible refine Below.drew ?_) | (with_reducible refine Below.set ?_ (by first | (simp; done) | omega | (simp; omega))) | (with_reducible refine Below.thru ?_ (by assumption)) | (with_reducible refine Below.chg ?_ (by assumption) (by first | (simp; done) | omega | (simp; omega))))))
    · rw [show Win.old ⟨s, t, c, true, m⟩ seq = true from hl, show Win.lost ⟨s, t, c, true, m⟩ seq next = ⟨s, t, c, true, m⟩ from by simp [Win.lost, Win.old, hl]]
      replace hl := Lib.hid hl
      go_enter Try.func33, Try.ntmps33
      go_wp2_with fail
      refine Calls.mono (rless_any seq m _) ?_
      rintro e w1 ⟨rfl, hb1⟩
      have z1 := Below.size hb1; try simp only [World.size_alloc, World.size_setCell, World.size_drew] at z1
      obtain ⟨c1_0, f1_0⟩ := Below.blk hb1 (b := w.heap.size) (by first | (simp; done) | omega | (simp; omega))
      have z1_0 : w.heap.size < w1.heap.size := (by first | (simp; done) | omega | (simp; omega))
      obtain ⟨c1_1, f1_1⟩ := Below.blk hb1 (b := w.heap.size + 1) (by first | (simp; done) | omega | (simp; omega))
      have z1_1 : w.heap.size + 1 < w1.heap.size := (by first | (simp; done) | omega | (simp; omega))
      rw [hl.out]
      go_wp2_with fail
      exact bodyPost_ret (v := .tuple #[.agg #[.int .i64 s, .int .i64 t, .int .i64 c, .bool true, .int .i64 m], .bool false]) (by simp [results, Try.results33, go_sem, c1_0, c1_1]) rfl (Ret.mk rfl (by repeat (first | with_reducible exact Below.refl _ _ | (with_reducible refine Below.al ?_) | (with_reducible refine Below.drew ?_) | (with_reducible refine Below.set ?_ (by first | (simp; done) | omega | (simp; omega))) | (with_reducible refine Below.thru ?_ (by assumption)) | (with_reducible refine Below.chg ?_ (by assumption) (by first | (simp; done) | omega | (simp; omega))))))
end Go.Proofs.Ythodfihdmhkgeaa.Cwnd
