/- The walks of the statements of layer 22. -/
import Derived.Test.YticcedempclapaaRatio
namespace Go.Proofs.Yticcedempclapaa.RatioLaw
open Go.RowKit Go.Proofs.Yticcedempclapaa Go.Proofs.Yticcedempclapaa.Ratio

def fit (n w : Int) : Int := max (min n (held w / 2 + held w % 2)) 1

theorem fit_law (n x : Int) (w : World) : Calls Try.prog 16 #[.int .i64 n, .int .i64 x] w (Ret w (.int .i64 (fit n x))) := by
  have hb : 1 ≤ min (max x 1) 30 ∧ min (max x 1) 30 ≤ 30 := by omega
  go_enter Try.func16, Try.ntmps16
  go_wp2
  go_ret
  exact Ret.mk rfl (by repeat (first | exact Below.refl _ _ | with_reducible exact Below.refl _ _ | (with_reducible refine Below.al ?_) | (with_reducible refine Below.drew ?_) | (with_reducible refine Below.set ?_ (by first | (simp; done) | omega | (simp; omega))) | (with_reducible refine Below.thru ?_ (by assumption))))

theorem works_law (w : World) : Calls Try.prog 14 #[] w (Ret w (.bool true)) := by
  go_enter Try.func14, Try.ntmps14
  go_wp2_with fail
  refine Calls.mono (lost_any 0 0 8 _ (by omega) (by omega)) ?_
  rintro e w1 ⟨rfl, hb1⟩
  have z1 := Below.size hb1; try simp only [World.size_alloc, World.size_setCell, World.size_drew] at z1
  obtain ⟨c1_0, f1_0⟩ := Below.blk hb1 (b := w.heap.size) (by first | (simp; done) | omega | (simp; omega))
  have z1_0 : w.heap.size < w1.heap.size := (by first | (simp; done) | omega | (simp; omega))
  rw [show fitN (2 * (0 + 1) - 1) 8 = 1 from by decide]
  go_wp2_with fail
  refine Calls.mono (lost_any 1 0 8 _ (by omega) (by omega)) ?_
  rintro e w2 ⟨rfl, hb2⟩
  have z2 := Below.size hb2; try simp only [World.size_alloc, World.size_setCell, World.size_drew] at z2
  obtain ⟨c2_0, f2_0⟩ := Below.blk hb2 (b := w.heap.size) (by first | (simp; done) | omega | (simp; omega))
  have z2_0 : w.heap.size < w2.heap.size := (by first | (simp; done) | omega | (simp; omega))
  obtain ⟨c2_1, f2_1⟩ := Below.blk hb2 (b := w1.heap.size) (by first | (simp; done) | omega | (simp; omega))
  have z2_1 : w1.heap.size < w2.heap.size := (by first | (simp; done) | omega | (simp; omega))
  rw [show fitN (2 * (1 + 1) - 1) 8 = 3 from by decide]
  go_wp2_with fail
  refine Calls.mono (lost_any 3 0 8 _ (by omega) (by omega)) ?_
  rintro e w3 ⟨rfl, hb3⟩
  have z3 := Below.size hb3; try simp only [World.size_alloc, World.size_setCell, World.size_drew] at z3
  obtain ⟨c3_0, f3_0⟩ := Below.blk hb3 (b := w.heap.size) (by first | (simp; done) | omega | (simp; omega))
  have z3_0 : w.heap.size < w3.heap.size := (by first | (simp; done) | omega | (simp; omega))
  obtain ⟨c3_1, f3_1⟩ := Below.blk hb3 (b := w1.heap.size) (by first | (simp; done) | omega | (simp; omega))
  have z3_1 : w1.heap.size < w3.heap.size := (by first | (simp; done) | omega | (simp; omega))
  rw [show fitN (2 * (3 + 1) - 1) 8 = 3 from by decide]
  go_wp2_with fail
  refine Calls.mono (value_any 0 0 _ (by omega) (by omega)) ?_
  rintro e w4 ⟨rfl, hb4⟩
  have z4 := Below.size hb4; try simp only [World.size_alloc, World.size_setCell, World.size_drew] at z4
  obtain ⟨c4_0, f4_0⟩ := Below.blk hb4 (b := w1.heap.size) (by first | (simp; done) | omega | (simp; omega))
  have z4_0 : w1.heap.size < w4.heap.size := (by first | (simp; done) | omega | (simp; omega))
  obtain ⟨c4_1, f4_1⟩ := Below.blk hb4 (b := w3.heap.size) (by first | (simp; done) | omega | (simp; omega))
  have z4_1 : w3.heap.size < w4.heap.size := (by first | (simp; done) | omega | (simp; omega))
  go_wp2_with fail
  refine Calls.mono (value_any 1 0 _ (by omega) (by omega)) ?_
  rintro e w5 ⟨rfl, hb5⟩
  have z5 := Below.size hb5; try simp only [World.size_alloc, World.size_setCell, World.size_drew] at z5
  obtain ⟨c5_0, f5_0⟩ := Below.blk hb5 (b := w1.heap.size) (by first | (simp; done) | omega | (simp; omega))
  have z5_0 : w1.heap.size < w5.heap.size := (by first | (simp; done) | omega | (simp; omega))
  obtain ⟨c5_1, f5_1⟩ := Below.blk hb5 (b := w3.heap.size) (by first | (simp; done) | omega | (simp; omega))
  have z5_1 : w3.heap.size < w5.heap.size := (by first | (simp; done) | omega | (simp; omega))
  go_wp2_with fail
  refine Calls.mono (value_any 3 0 _ (by omega) (by omega)) ?_
  rintro e w6 ⟨rfl, hb6⟩
  have z6 := Below.size hb6; try simp only [World.size_alloc, World.size_setCell, World.size_drew] at z6
  obtain ⟨c6_0, f6_0⟩ := Below.blk hb6 (b := w1.heap.size) (by first | (simp; done) | omega | (simp; omega))
  have z6_0 : w1.heap.size < w6.heap.size := (by first | (simp; done) | omega | (simp; omega))
  obtain ⟨c6_1, f6_1⟩ := Below.blk hb6 (b := w3.heap.size) (by first | (simp; done) | omega | (simp; omega))
  have z6_1 : w3.heap.size < w6.heap.size := (by first | (simp; done) | omega | (simp; omega))
  go_wp2_with fail
  refine Calls.mono (good_any 3 0 96 8 _ (by omega) (by omega) (by omega)) ?_
  rintro e w7 ⟨rfl, hb7⟩
  have z7 := Below.size hb7; try simp only [World.size_alloc, World.size_setCell, World.size_drew] at z7
  obtain ⟨c7_0, f7_0⟩ := Below.blk hb7 (b := w1.heap.size) (by first | (simp; done) | omega | (simp; omega))
  have z7_0 : w1.heap.size < w7.heap.size := (by first | (simp; done) | omega | (simp; omega))
  obtain ⟨c7_1, f7_1⟩ := Below.blk hb7 (b := w3.heap.size) (by first | (simp; done) | omega | (simp; omega))
  have z7_1 : w3.heap.size < w7.heap.size := (by first | (simp; done) | omega | (simp; omega))
  rw [show fitN ((goodN 8 3 (0 + min (max 96 0) 1000)).1 : Int) 8 = 2 from by decide, show (goodN 8 3 (0 + min (max 96 0) 1000)).2 = 0 from by decide]
  go_wp2_with fail
  refine Calls.mono (value_any 2 0 _ (by omega) (by omega)) ?_
  rintro e w8 ⟨rfl, hb8⟩
  have z8 := Below.size hb8; try simp only [World.size_alloc, World.size_setCell, World.size_drew] at z8
  obtain ⟨c8_0, f8_0⟩ := Below.blk hb8 (b := w1.heap.size) (by first | (simp; done) | omega | (simp; omega))
  have z8_0 : w1.heap.size < w8.heap.size := (by first | (simp; done) | omega | (simp; omega))
  obtain ⟨c8_1, f8_1⟩ := Below.blk hb8 (b := w3.heap.size) (by first | (simp; done) | omega | (simp; omega))
  have z8_1 : w3.heap.size < w8.heap.size := (by first | (simp; done) | omega | (simp; omega))
  go_wp2_with fail
  go_ret
  exact Ret.mk rfl (by repeat (first | exact Below.refl _ _ | with_reducible exact Below.refl _ _ | (with_reducible refine Below.al ?_) | (with_reducible refine Below.drew ?_) | (with_reducible refine Below.set ?_ (by first | (simp; done) | omega | (simp; omega))) | (with_reducible refine Below.thru ?_ (by assumption))))

end Go.Proofs.Yticcedempclapaa.RatioLaw
