
/- The walks of the package cwnd: what a window does. -/
import Derived.Test.YtpajedpkdfacoaaCwndF
namespace Go.Proofs.Ytpajedpkdfacoaa.Cwnd
set_option linter.unusedSimpArgs false
set_option linter.unusedVariables false
open Go Go.RowKit Go.Proofs.Ytpajedpkdfacoaa Go.Proofs.Ytpajedpkdfacoaa.Circ
attribute [local irreducible] Calls

theorem grown_at (x : Win) (h : x.Ok) {s t c : Int} {k : Bool} {m : Int} (e : x.grow = ⟨s, t, c, k, m⟩) (w : World) :
    Calls Try.prog 140 #[.agg #[.int .i64 x.s, .int .i64 x.t, .int .i64 x.c, .bool x.k, .int .i64 x.m]] w (Ret w (.agg #[.int .i64 s, .int .i64 t, .int .i64 c, .bool k, .int .i64 m])) := by
  have := grown_any x h w
  rw [e] at this
  exact this
def zeros : List Value := [.int .i64 0, .int .i64 0, .int .i64 0, .bool false, .int .i64 0]

set_option maxRecDepth 100000 in
set_option maxHeartbeats 800000 in
theorem acked_any (x y : Win) (many : Int) (full : Bool) (hy : x.beg = y) (hok : y.Ok) (w : World) :
    Calls Try.prog 128 #[.agg #[.int .i64 x.s, .int .i64 x.t, .int .i64 x.c, .bool x.k, .int .i64 x.m], .int .i64 many, .bool full] w
      (Ret w (.agg #[.int .i64 (y.acked many full).s, .int .i64 (y.acked many full).t, .int .i64 (y.acked many full).c, .bool (y.acked many full).k, .int .i64 (y.acked many full).m])) := by
  obtain ⟨s0, t0, c0, k0, m0⟩ := x
  cases full
  · rw [show y.acked many false = y from rfl]
    obtain ⟨s, t, c, k, m⟩ := y
    replace hy := Lib.hid hy; replace hok := Lib.hid hok
    go_enter Try.func128, Try.ntmps128
    go_wp2_with fail
    refine Calls.mono (begun_at ⟨s0, t0, c0, k0, m0⟩ hy.out _) ?_
    rintro e w1 ⟨rfl, hb1⟩
    have z1 := Below.size hb1; try simp only [World.size_alloc, World.size_setCell, World.size_drew] at z1
    obtain ⟨c1_0, f1_0⟩ := Below.blk hb1 (b := w.heap.size) (by first | (simp; done) | omega | (simp; omega))
    have z1_0 : w.heap.size < w1.heap.size := (by first | (simp; done) | omega | (simp; omega))
    obtain ⟨c1_1, f1_1⟩ := Below.blk hb1 (b := w.heap.size + 1) (by first | (simp; done) | omega | (simp; omega))
    have z1_1 : w.heap.size + 1 < w1.heap.size := (by first | (simp; done) | omega | (simp; omega))
    go_wp2_with fail
    exact bodyPost_ret (v := .agg #[.int .i64 s, .int .i64 t, .int .i64 c, .bool k, .int .i64 m]) (by simp [results, Try.results128, go_sem, c1_0, c1_1]) rfl (Ret.mk rfl (by repeat (first | with_reducible exact Below.refl _ _ | (with_reducible refine Below.al ?_) | (with_reducible refine Below.drew ?_) | (with_reducible refine Below.set ?_ (by first | (simp; done) | omega | (simp; omega))) | (with_reducible refine Below.thru ?_ (by assumption)) | (with_reducible refine Below.chg ?_ (by assumption) (by first | (simp; done) | omega | (simp; omega))))))
  · obtain ⟨N, hN, hN64⟩ : ∃ N : Nat, min (max many 0) 64 = (N : Int) ∧ N ≤ 64 := ⟨manyF many, by unfold manyF; omega, by unfold manyF; omega⟩
    have hr : y.acked many true = y.iter N := by
      unfold Win.acked manyF
      rw [hN]; rfl
    generalize hz : y.acked many true = z at *
    obtain ⟨zs, zt, zc, zk, zm⟩ := z
    have HOK := Lib.hid hok.iter
    have HY0 : Hid (y.iter 0 = y) := rfl
    have HYS : Hid (∀ n, y.iter (n + 1) = (y.iter n).grow) := fun _ => rfl
    generalize hit : y.iter = it at *
    obtain ⟨s, t, c, k, m⟩ := y
    clear hit hz hok
    replace hy := Lib.hid hy; replace hr := Lib.hid hr
    go_enter Try.func128, Try.ntmps128
    go_wp2_with fail
    refine Calls.mono (begun_at ⟨s0, t0, c0, k0, m0⟩ hy.out _) ?_
    rintro e w1 ⟨rfl, hb1⟩
    have z1 := Below.size hb1; try simp only [World.size_alloc, World.size_setCell, World.size_drew] at z1
    obtain ⟨c1_0, f1_0⟩ := Below.blk hb1 (b := w.heap.size) (by first | (simp; done) | omega | (simp; omega))
    have z1_0 : w.heap.size < w1.heap.size := (by first | (simp; done) | omega | (simp; omega))
    obtain ⟨c1_1, f1_1⟩ := Below.blk hb1 (b := w.heap.size + 1) (by first | (simp; done) | omega | (simp; omega))
    have z1_1 : w.heap.size + 1 < w1.heap.size := (by first | (simp; done) | omega | (simp; omega))
    have B0 : Box w1 w.heap.size [.int .i64 s0, .int .i64 t0, .int .i64 c0, .bool k0, .int .i64 m0] := by have hb := hb1; exact (by (try rw [show ((0 : Nat) : Int) = 0 from rfl]); repeat (first | fail | (with_reducible refine Box.below ?_ (by assumption)) | (with_reducible refine Box.drew ?_) | (with_reducible refine Box.new_at (by first | rfl | (simp; done) | omega)) | (with_reducible refine Box.al ?_) | (with_reducible apply Box.set0) | (with_reducible apply Box.set1) | (with_reducible apply Box.set2) | (with_reducible apply Box.set3) | (with_reducible apply Box.set4) | (with_reducible apply Box.set5) | (with_reducible apply Box.set6) | (with_reducible apply Box.set7) | (with_reducible apply Box.set8) | (with_reducible refine Box.oth ?_ (by first | (simp; done) | omega | (simp; omega))) | (with_reducible refine Box.chg ?_ (by assumption) (by first | (simp; done) | omega | (simp; omega)))))
    have B1 : Box w1 (w.heap.size + 1) zeros := by have hb := hb1; unfold zeros; exact (by (try rw [show ((0 : Nat) : Int) = 0 from rfl]); repeat (first | fail | (with_reducible refine Box.below ?_ (by assumption)) | (with_reducible refine Box.drew ?_) | (with_reducible refine Box.new_at (by first | rfl | (simp; done) | omega)) | (with_reducible refine Box.al ?_) | (with_reducible apply Box.set0) | (with_reducible apply Box.set1) | (with_reducible apply Box.set2) | (with_reducible apply Box.set3) | (with_reducible apply Box.set4) | (with_reducible apply Box.set5) | (with_reducible apply Box.set6) | (with_reducible apply Box.set7) | (with_reducible apply Box.set8) | (with_reducible refine Box.oth ?_ (by first | (simp; done) | omega | (simp; omega))) | (with_reducible refine Box.chg ?_ (by assumption) (by first | (simp; done) | omega | (simp; omega)))))
    unfold zeros at B1
    have B0' := Lib.hid B0
    have B1' := Lib.hid B1
    clear B0 B1
    go_wp2_with fail
    go_loopg [15] N (fun g i wr => ∃ (j : Nat) (x : Win), j ≤ N ∧ g = N - j ∧ i = .int .i64 j ∧ Hid (x = it j) ∧ Below w.heap.size w wr ∧ Box wr w.heap.size [.int .i64 x.s, .int .i64 x.t, .int .i64 x.c, .bool x.k, .int .i64 x.m] ∧ Box wr (w.heap.size + 1) zeros)
    case atStart =>
      refine ⟨0, ⟨s, t, c, k, m⟩, by omega, by omega, rfl, HY0.out.symm, (by repeat (first | with_reducible exact Below.refl _ _ | (with_reducible refine Below.al ?_) | (with_reducible refine Below.drew ?_) | (with_reducible refine Below.set ?_ (by first | (simp; done) | omega | (simp; omega))) | (with_reducible refine Below.thru ?_ (by assumption)) | (with_reducible refine Below.chg ?_ (by assumption) (by first | (simp; done) | omega | (simp; omega))))), ?_, ?_⟩
      · simp only
        exact (by (try rw [show ((0 : Nat) : Int) = 0 from rfl]); repeat (first | (with_reducible exact Hid.out B0') | (with_reducible refine Box.below ?_ (by assumption)) | (with_reducible refine Box.drew ?_) | (with_reducible refine Box.new_at (by first | rfl | (simp; done) | omega)) | (with_reducible refine Box.al ?_) | (with_reducible apply Box.set0) | (with_reducible apply Box.set1) | (with_reducible apply Box.set2) | (with_reducible apply Box.set3) | (with_reducible apply Box.set4) | (with_reducible apply Box.set5) | (with_reducible apply Box.set6) | (with_reducible apply Box.set7) | (with_reducible apply Box.set8) | (with_reducible refine Box.oth ?_ (by first | (simp; done) | omega | (simp; omega))) | (with_reducible refine Box.chg ?_ (by assumption) (by first | (simp; done) | omega | (simp; omega)))))
      · unfold zeros
        exact (by (try rw [show ((0 : Nat) : Int) = 0 from rfl]); repeat (first | (with_reducible exact Hid.out B1') | (with_reducible refine Box.below ?_ (by assumption)) | (with_reducible refine Box.drew ?_) | (with_reducible refine Box.new_at (by first | rfl | (simp; done) | omega)) | (with_reducible refine Box.al ?_) | (with_reducible apply Box.set0) | (with_reducible apply Box.set1) | (with_reducible apply Box.set2) | (with_reducible apply Box.set3) | (with_reducible apply Box.set4) | (with_reducible apply Box.set5) | (with_reducible apply Box.set6) | (with_reducible apply Box.set7) | (with_reducible apply Box.set8) | (with_reducible refine Box.oth ?_ (by first | (simp; done) | omega | (simp; omega))) | (with_reducible refine Box.chg ?_ (by assumption) (by first | (simp; done) | omega | (simp; omega)))))
    case round =>
      obtain ⟨j, ⟨s, t, c, k, m⟩, hj, hg, rfl, hx, hbw, hB, hB1⟩ := hrel
      unfold zeros at hB1
      have HB := Lib.hid hB
      have HB1 := Lib.hid hB1
      obtain ⟨zB, cB, fB⟩ := hB
      obtain ⟨zB1, cB1, fB1⟩ := hB1
      by_cases hlt : j < N
      · have hok := HOK.out j
        have hnx := HYS.out j
        rw [← hx.out] at hok hnx
        generalize hz2 : Win.grow ⟨s, t, c, k, m⟩ = z2 at *
        obtain ⟨s2, t2, c2, k2, m2⟩ := z2
        replace hok := Lib.hid hok; replace hnx := Lib.hid hnx; replace hz2 := Lib.hid hz2
        go_wp2_with fail
        refine Calls.mono (grown_at ⟨s, t, c, k, m⟩ hok.out hz2.out _) ?_
        rintro e w2 ⟨rfl, hb2⟩
        have z2 := Below.size hb2; try simp only [World.size_alloc, World.size_setCell, World.size_drew] at z2
        obtain ⟨c2_0, f2_0⟩ := Below.blk hb2 (b := w.heap.size) (by first | (simp; done) | omega | (simp; omega))
        have z2_0 : w.heap.size < w2.heap.size := (by first | (simp; done) | omega | (simp; omega))
        go_wp2_with fail
        go_roundg (N - (j + 1))
        case measure => omega
        case rel => exact ⟨j + 1, ⟨s2, t2, c2, k2, m2⟩, by omega, rfl, by go_num, hnx.out.symm, (by repeat (first | with_reducible exact Below.refl _ _ | (with_reducible refine Below.al ?_) | (with_reducible refine Below.drew ?_) | (with_reducible refine Below.set ?_ (by first | (simp; done) | omega | (simp; omega))) | (with_reducible refine Below.thru ?_ (by assumption)) | (with_reducible refine Below.chg ?_ (by assumption) (by first | (simp; done) | omega | (simp; omega))))), (by (try rw [show ((0 : Nat) : Int) = 0 from rfl]); repeat (first | (with_reducible exact Hid.out HB) | (with_reducible refine Box.below ?_ (by assumption)) | (with_reducible refine Box.drew ?_) | (with_reducible refine Box.new_at (by first | rfl | (simp; done) | omega)) | (with_reducible refine Box.al ?_) | (with_reducible apply Box.set0) | (with_reducible apply Box.set1) | (with_reducible apply Box.set2) | (with_reducible apply Box.set3) | (with_reducible apply Box.set4) | (with_reducible apply Box.set5) | (with_reducible apply Box.set6) | (with_reducible apply Box.set7) | (with_reducible apply Box.set8) | (with_reducible refine Box.oth ?_ (by first | (simp; done) | omega | (simp; omega))) | (with_reducible refine Box.chg ?_ (by assumption) (by first | (simp; done) | omega | (simp; omega))))), by unfold zeros; exact (by (try rw [show ((0 : Nat) : Int) = 0 from rfl]); repeat (first | (with_reducible exact Hid.out HB1) | (with_reducible refine Box.below ?_ (by assumption)) | (with_reducible refine Box.drew ?_) | (with_reducible refine Box.new_at (by first | rfl | (simp; done) | omega)) | (with_reducible refine Box.al ?_) | (with_reducible apply Box.set0) | (with_reducible apply Box.set1) | (with_reducible apply Box.set2) | (with_reducible apply Box.set3) | (with_reducible apply Box.set4) | (with_reducible apply Box.set5) | (with_reducible apply Box.set6) | (with_reducible apply Box.set7) | (with_reducible apply Box.set8) | (with_reducible refine Box.oth ?_ (by first | (simp; done) | omega | (simp; omega))) | (with_reducible refine Box.chg ?_ (by assumption) (by first | (simp; done) | omega | (simp; omega)))))⟩
      · obtain rfl : j = N := by omega
        have he := hx.out.trans hr.out.symm
        injection he with e1 e2 e3 e4 e5
        subst e1 e2 e3 e4 e5
        go_wp2_with fail
        exact bodyPost_ret (v := .agg #[.int .i64 s, .int .i64 t, .int .i64 c, .bool k, .int .i64 m]) (by simp [results, Try.results128, go_sem, cB1]) rfl (Ret.mk rfl (by repeat (first | with_reducible exact Below.refl _ _ | (with_reducible refine Below.al ?_) | (with_reducible refine Below.drew ?_) | (with_reducible refine Below.set ?_ (by first | (simp; done) | omega | (simp; omega))) | (with_reducible refine Below.thru ?_ (by assumption)) | (with_reducible refine Below.chg ?_ (by assumption) (by first | (simp; done) | omega | (simp; omega))))))

theorem shrunk_any (s t c : Int) (k : Bool) (m next : Int) (h0 : 0 ≤ s) (h1 : s ≤ 16) (w : World) :
    Calls Try.prog 117 #[.agg #[.int .i64 s, .int .i64 t, .int .i64 c, .bool k, .int .i64 m], .int .i64 next] w
      (Ret w (.agg #[.int .i64 (max (s / 2) 2), .int .i64 (max (s / 2) 2), .int .i64 0, .bool true, .int .i64 (ofC next)])) := by
  go_enter Try.func117, Try.ntmps117
  go_wp2_with fail
  refine Calls.mono (of_any next _) ?_
  rintro e w1 ⟨rfl, hb1⟩
  have z1 := Below.size hb1; try simp only [World.size_alloc, World.size_setCell, World.size_drew] at z1
  obtain ⟨c1_0, f1_0⟩ := Below.blk hb1 (b := w.heap.size) (by first | (simp; done) | omega | (simp; omega))
  have z1_0 : w.heap.size < w1.heap.size := (by first | (simp; done) | omega | (simp; omega))
  obtain ⟨c1_1, f1_1⟩ := Below.blk hb1 (b := w.heap.size + 1) (by first | (simp; done) | omega | (simp; omega))
  have z1_1 : w.heap.size + 1 < w1.heap.size := (by first | (simp; done) | omega | (simp; omega))
  go_wp2_with fail
  exact bodyPost_ret (v := .agg #[.int .i64 (max (s / 2) 2), .int .i64 (max (s / 2) 2), .int .i64 0, .bool true, .int .i64 (ofC next)]) (by simp [results, Try.results117, go_sem, c1_1]) rfl (Ret.mk rfl (by repeat (first | with_reducible exact Below.refl _ _ | (with_reducible refine Below.al ?_) | (with_reducible refine Below.drew ?_) | (with_reducible refine Below.set ?_ (by first | (simp; done) | omega | (simp; omega))) | (with_reducible refine Below.thru ?_ (by assumption)) | (with_reducible refine Below.chg ?_ (by assumption) (by first | (simp; done) | omega | (simp; omega))))))

set_option maxRecDepth 100000 in
theorem late_any (x y : Win) (next : Int) (hy : x.beg = y) (hok : y.Ok) (w : World) :
    Calls Try.prog 69 #[.agg #[.int .i64 x.s, .int .i64 x.t, .int .i64 x.c, .bool x.k, .int .i64 x.m], .int .i64 next] w
      (Ret w (.agg #[.int .i64 1, .int .i64 (max (y.s / 2) 2), .int .i64 0, .bool true, .int .i64 (ofC next)])) := by
  obtain ⟨s0, t0, c0, k0, m0⟩ := x
  obtain ⟨s, t, c, k, m⟩ := y
  obtain ⟨h1, h2, h3, h4, h5, h6⟩ := hok
  simp only at h1 h2 h3 h4 h5 h6
  replace hy := Lib.hid hy
  go_enter Try.func69, Try.ntmps69
  go_wp2_with fail
  refine Calls.mono (begun_at ⟨s0, t0, c0, k0, m0⟩ hy.out _) ?_
  rintro e w1 ⟨rfl, hb1⟩
  have z1 := Below.size hb1; try simp only [World.size_alloc, World.size_setCell, World.size_drew] at z1
  obtain ⟨c1_0, f1_0⟩ := Below.blk hb1 (b := w.heap.size) (by first | (simp; done) | omega | (simp; omega))
  have z1_0 : w.heap.size < w1.heap.size := (by first | (simp; done) | omega | (simp; omega))
  obtain ⟨c1_1, f1_1⟩ := Below.blk hb1 (b := w.heap.size + 1) (by first | (simp; done) | omega | (simp; omega))
  have z1_1 : w.heap.size + 1 < w1.heap.size := (by first | (simp; done) | omega | (simp; omega))
  go_wp2_with fail
  refine Calls.mono (shrunk_any s t c k m next (by omega) h2 _) ?_
  rintro e w2 ⟨rfl, hb2⟩
  have z2 := Below.size hb2; try simp only [World.size_alloc, World.size_setCell, World.size_drew] at z2
  obtain ⟨c2_0, f2_0⟩ := Below.blk hb2 (b := w.heap.size) (by first | (simp; done) | omega | (simp; omega))
  have z2_0 : w.heap.size < w2.heap.size := (by first | (simp; done) | omega | (simp; omega))
  obtain ⟨c2_1, f2_1⟩ := Below.blk hb2 (b := w.heap.size + 1) (by first | (simp; done) | omega | (simp; omega))
  have z2_1 : w.heap.size + 1 < w2.heap.size := (by first | (simp; done) | omega | (simp; omega))
  go_wp2_with fail
  exact bodyPost_ret (v := .agg #[.int .i64 1, .int .i64 (max (s / 2) 2), .int .i64 0, .bool true, .int .i64 (ofC next)]) (by simp [results, Try.results69, go_sem, c2_0, c2_1, c1_0, c1_1]) rfl (Ret.mk rfl (by repeat (first | with_reducible exact Below.refl _ _ | (with_reducible refine Below.al ?_) | (with_reducible refine Below.drew ?_) | (with_reducible refine Below.set ?_ (by first | (simp; done) | omega | (simp; omega))) | (with_reducible refine Below.thru ?_ (by assumption)) | (with_reducible refine Below.chg ?_ (by assumption) (by first | (simp; done) | omega | (simp; omega))))))

set_option maxRecDepth 100000 in
theorem lost_any (x y : Win) (seq next : Int) (hy : x.beg = y) (hok : y.Ok) (w : World) :
    Calls Try.prog 91 #[.agg #[.int .i64 x.s, .int .i64 x.t, .int .i64 x.c, .bool x.k, .int .i64 x.m], .int .i64 seq, .int .i64 next] w
      (Ret w (.tuple #[.agg #[.int .i64 (y.lost seq next).s, .int .i64 (y.lost seq next).t, .int .i64 (y.lost seq next).c, .bool (y.lost seq next).k, .int .i64 (y.lost seq next).m], .bool (!y.old seq)])) := by
  obtain ⟨s0, t0, c0, k0, m0⟩ := x
  obtain ⟨s, t, c, k, m⟩ := y
  obtain ⟨h1, h2, h3, h4, h5, h6⟩ := hok
  simp only at h1 h2 h3 h4 h5 h6
  cases k
  · rw [show Win.lost ⟨s, t, c, false, m⟩ seq next = ⟨max (s / 2) 2, max (s / 2) 2, 0, true, ofC next⟩ from rfl, show Win.old ⟨s, t, c, false, m⟩ seq = false from rfl]
    replace hy := Lib.hid hy
    go_enter Try.func91, Try.ntmps91
    go_wp2_with fail
    refine Calls.mono (begun_at ⟨s0, t0, c0, k0, m0⟩ hy.out _) ?_
    rintro e w1 ⟨rfl, hb1⟩
    have z1 := Below.size hb1; try simp only [World.size_alloc, World.size_setCell, World.size_drew] at z1
    obtain ⟨c1_0, f1_0⟩ := Below.blk hb1 (b := w.heap.size) (by first | (simp; done) | omega | (simp; omega))
    have z1_0 : w.heap.size < w1.heap.size := (by first | (simp; done) | omega | (simp; omega))
    obtain ⟨c1_1, f1_1⟩ := Below.blk hb1 (b := w.heap.size + 1) (by first | (simp; done) | omega | (simp; omega))
    have z1_1 : w.heap.size + 1 < w1.heap.size := (by first | (simp; done) | omega | (simp; omega))
    go_wp2_with fail
    refine Calls.mono (shrunk_any s t c false m next (by omega) h2 _) ?_
    rintro e w2 ⟨rfl, hb2⟩
    have z2 := Below.size hb2; try simp only [World.size_alloc, World.size_setCell, World.size_drew] at z2
    obtain ⟨c2_0, f2_0⟩ := Below.blk hb2 (b := w.heap.size) (by first | (simp; done) | omega | (simp; omega))
    have z2_0 : w.heap.size < w2.heap.size := (by first | (simp; done) | omega | (simp; omega))
    obtain ⟨c2_1, f2_1⟩ := Below.blk hb2 (b := w.heap.size + 1) (by first | (simp; done) | omega | (simp; omega))
    have z2_1 : w.heap.size + 1 < w2.heap.size := (by first | (simp; done) | omega | (simp; omega))
    go_wp2_with fail
    exact bodyPost_ret (v := .tuple #[.agg #[.int .i64 (max (s / 2) 2), .int .i64 (max (s / 2) 2), .int .i64 0, .bool true, .int .i64 (ofC next)], .bool true]) (by simp [results, Try.results91, go_sem, c2_0, c2_1, c1_0, c1_1]) rfl (Ret.mk rfl (by repeat (first | with_reducible exact Below.refl _ _ | (with_reducible refine Below.al ?_) | (with_reducible refine Below.drew ?_) | (with_reducible refine Below.set ?_ (by first | (simp; done) | omega | (simp; omega))) | (with_reducible refine Below.thru ?_ (by assumption)) | (with_reducible refine Below.chg ?_ (by assumption) (by first | (simp; done) | omega | (simp; omega))))))
  · cases hl : lessC seq m
    · rw [show Win.old ⟨s, t, c, true, m⟩ seq = false from hl, show Win.lost ⟨s, t, c, true, m⟩ seq next = ⟨max (s / 2) 2, max (s / 2) 2, 0, true, ofC next⟩ from by simp [Win.lost, Win.old, Win.shrunk, hl]]
      replace hy := Lib.hid hy; replace hl := Lib.hid hl
      go_enter Try.func91, Try.ntmps91
      go_wp2_with fail
      refine Calls.mono (begun_at ⟨s0, t0, c0, k0, m0⟩ hy.out _) ?_
      rintro e w1 ⟨rfl, hb1⟩
      have z1 := Below.size hb1; try simp only [World.size_alloc, World.size_setCell, World.size_drew] at z1
      obtain ⟨c1_0, f1_0⟩ := Below.blk hb1 (b := w.heap.size) (by first | (simp; done) | omega | (simp; omega))
      have z1_0 : w.heap.size < w1.heap.size := (by first | (simp; done) | omega | (simp; omega))
      obtain ⟨c1_1, f1_1⟩ := Below.blk hb1 (b := w.heap.size + 1) (by first | (simp; done) | omega | (simp; omega))
      have z1_1 : w.heap.size + 1 < w1.heap.size := (by first | (simp; done) | omega | (simp; omega))
      go_wp2_with fail
      refine Calls.mono (less_any seq m _) ?_
      rintro e w3 ⟨rfl, hb3⟩
      have z3 := Below.size hb3; try simp only [World.size_alloc, World.size_setCell, World.size_drew] at z3
      obtain ⟨c3_0, f3_0⟩ := Below.blk hb3 (b := w.heap.size) (by first | (simp; done) | omega | (simp; omega))
      have z3_0 : w.heap.size < w3.heap.size := (by first | (simp; done) | omega | (simp; omega))
      obtain ⟨c3_1, f3_1⟩ := Below.blk hb3 (b := w.heap.size + 1) (by first | (simp; done) | omega | (simp; omega))
      have z3_1 : w.heap.size + 1 < w3.heap.size := (by first | (simp; done) | omega | (simp; omega))
      rw [hl.out]
      go_wp2_with fail
      refine Calls.mono (shrunk_any s t c true m next (by omega) h2 _) ?_
      rintro e w2 ⟨rfl, hb2⟩
      have z2 := Below.size hb2; try simp only [World.size_alloc, World.size_setCell, World.size_drew] at z2
      obtain ⟨c2_0, f2_0⟩ := Below.blk hb2 (b := w.heap.size) (by first | (simp; done) | omega | (simp; omega))
      have z2_0 : w.heap.size < w2.heap.size := (by first | (simp; done) | omega | (simp; omega))
      obtain ⟨c2_1, f2_1⟩ := Below.blk hb2 (b := w.heap.size + 1) (by first | (simp; done) | omega | (simp; omega))
      have z2_1 : w.heap.size + 1 < w2.heap.size := (by first | (simp; done) | omega | (simp; omega))
      go_wp2_with fail
      exact bodyPost_ret (v := .tuple #[.agg #[.int .i64 (max (s / 2) 2), .int .i64 (max (s / 2) 2), .int .i64 0, .bool true, .int .i64 (ofC next)], .bool true]) (by simp [results, Try.results91, go_sem, c2_0, c2_1, c3_0, c3_1, c1_0, c1_1]) rfl (Ret.mk rfl (by repeat (first | with_reducible exact Below.refl _ _ | (with_reducible refine Below.al ?_) | (with_reducible refine Below.drew ?_) | (with_reducible refine Below.set ?_ (by first | (simp; done) | omega | (simp; omega))) | (with_reducible refine Below.thru ?_ (by assumption)) | (with_reducible refine Below.chg ?_ (by assumption) (by first | (simp; done) | omega | (simp; omega))))))
    · rw [show Win.old ⟨s, t, c, true, m⟩ seq = true from hl, show Win.lost ⟨s, t, c, true, m⟩ seq next = ⟨s, t, c, true, m⟩ from by simp [Win.lost, Win.old, hl]]
      replace hy := Lib.hid hy; replace hl := Lib.hid hl
      go_enter Try.func91, Try.ntmps91
      go_wp2_with fail
      refine Calls.mono (begun_at ⟨s0, t0, c0, k0, m0⟩ hy.out _) ?_
      rintro e w1 ⟨rfl, hb1⟩
      have z1 := Below.size hb1; try simp only [World.size_alloc, World.size_setCell, World.size_drew] at z1
      obtain ⟨c1_0, f1_0⟩ := Below.blk hb1 (b := w.heap.size) (by first | (simp; done) | omega | (simp; omega))
      have z1_0 : w.heap.size < w1.heap.size := (by first | (simp; done) | omega | (simp; omega))
      obtain ⟨c1_1, f1_1⟩ := Below.blk hb1 (b := w.heap.size + 1) (by first | (simp; done) | omega | (simp; omega))
      have z1_1 : w.heap.size + 1 < w1.heap.size := (by first | (simp; done) | omega | (simp; omega))
      go_wp2_with fail
      refine Calls.mono (less_any seq m _) ?_
      rintro e w3 ⟨rfl, hb3⟩
      have z3 := Below.size hb3; try simp only [World.size_alloc, World.size_setCell, World.size_drew] at z3
      obtain ⟨c3_0, f3_0⟩ := Below.blk hb3 (b := w.heap.size) (by first | (simp; done) | omega | (simp; omega))
      have z3_0 : w.heap.size < w3.heap.size := (by first | (simp; done) | omega | (simp; omega))
      obtain ⟨c3_1, f3_1⟩ := Below.blk hb3 (b := w.heap.size + 1) (by first | (simp; done) | omega | (simp; omega))
      have z3_1 : w.heap.size + 1 < w3.heap.size := (by first | (simp; done) | omega | (simp; omega))
      rw [hl.out]
      go_wp2_with fail
      exact bodyPost_ret (v := .tuple #[.agg #[.int .i64 s, .int .i64 t, .int .i64 c, .bool true, .int .i64 m], .bool false]) (by simp [results, Try.results91, go_sem, c3_0, c3_1, c1_0, c1_1]) rfl (Ret.mk rfl (by repeat (first | with_reducible exact Below.refl _ _ | (with_reducible refine Below.al ?_) | (with_reducible refine Below.drew ?_) | (with_reducible refine Below.set ?_ (by first | (simp; done) | omega | (simp; omega))) | (with_reducible refine Below.thru ?_ (by assumption)) | (with_reducible refine Below.chg ?_ (by assumption) (by first | (simp; done) | omega | (simp; omega))))))
end Go.Proofs.Ytpajedpkdfacoaa.Cwnd
