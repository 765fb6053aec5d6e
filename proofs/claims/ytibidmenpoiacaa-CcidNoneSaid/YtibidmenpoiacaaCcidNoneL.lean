/- The walk of the statement CcidNone: a control that is none lets nothing be sent, and hears nothing. -/
import Derived.Test.YtibidmenpoiacaaCcidNones
namespace Go.Proofs.Ytibidmenpoiacaa.Ccid
set_option linter.unusedSimpArgs false
set_option linter.unusedVariables false
open Go Go.RowKit Go.Proofs.Ytibidmenpoiacaa
attribute [local irreducible] Calls

theorem fits_bool {w : World} {cs : List Value} (h : Fits w .bool cs) : ∃ b, cs = [.bool b] := h
set_option maxRecDepth 100000 in
set_option maxHeartbeats 1000000 in
theorem none_walk (a0 : Array Value) (w : World) (h0 : Fits w (.cons 1 (.int .i64) (.cons 1 (.int .i64) (.cons 1 (.int .i64) (.cons 1 (.int .i64) (.cons 1 .bool (.cons 1 (.slice 2 (.cons 1 (.int .i64) (.cons 1 (.int .i64) .nil))) .nil)))))) a0.toList) :
    Calls Try.prog 3 #[.agg a0] w (Ret w (.bool true)) := by
  obtain ⟨c0, t0, e0, f0, r0⟩ := fits_cons1 h0
  obtain ⟨c1, t1, rfl, f1, r1⟩ := fits_cons1 r0
  obtain ⟨c2, t2, rfl, f2, r2⟩ := fits_cons1 r1
  obtain ⟨c3, t3, rfl, f3, r3⟩ := fits_cons1 r2
  obtain ⟨c4, t4, rfl, f4, r4⟩ := fits_cons1 r3
  obtain ⟨c5, t5, rfl, f5, r5⟩ := fits_cons1 r4
  obtain ⟨kind, rfl, _⟩ := fits_int f0
  obtain ⟨seq, rfl, _⟩ := fits_int f1
  obtain ⟨next, rfl, _⟩ := fits_int f2
  obtain ⟨now, rfl, _⟩ := fits_int f3
  obtain ⟨data, ed⟩ := fits_bool f4
  injection ed with ed _
  subst ed
  obtain rfl : t5 = [] := r5
  obtain ⟨a, n, cap, rfl⟩ : ∃ a n cap, c5 = .slice a n cap := by
    have f2 := f5
    rcases f2 with h | ⟨x, l, c, h, _⟩
    · simp at h; exact ⟨_, _, _, h⟩
    · simp at h; exact ⟨_, _, _, h⟩
  obtain rfl : a0 = #[.int .i64 kind, .int .i64 seq, .int .i64 next, .int .i64 now, .bool data, .slice a n cap] := by rw [← Array.toArray_toList (xs := a0), e0]
  have hn : n ≤ maxLen := (Avec.runs_in f5).1
  unfold maxLen at hn
  clear h0 f0 f1 f2 f3 f4 f5 e0
  go_enter Try.func3, Try.ntmps3
  go_wp2_with fail
  refine Calls.mono (works_law _) ?_
  rintro e w1 ⟨rfl, hb1⟩
  have z1 := Below.size hb1; try simp only [World.size_alloc, World.size_setCell, World.size_drew] at z1
  obtain ⟨c1_0, f1_0⟩ := Below.blk hb1 (b := w.heap.size) (by first | (simp; done) | omega | (simp; omega))
  have z1_0 : w.heap.size < w1.heap.size := (by first | (simp; done) | omega | (simp; omega))
  by_cases h10 : 10 < n
  · have q : decide ((10 : Int) < (n : Int)) = true := decide_eq_true (by omega)
    go_wp2_with fail
    go_ret
    exact Ret.mk rfl (by repeat (first | with_reducible exact Below.refl _ _ | (with_reducible refine Below.al ?_) | (with_reducible refine Below.drew ?_) | (with_reducible refine Below.set ?_ (by first | (simp; done) | omega | (simp; omega))) | (with_reducible refine Below.thru ?_ (by assumption)) | (with_reducible refine Below.chg ?_ (by assumption) (by first | (simp; done) | omega | (simp; omega)))))
  · have q : decide ((10 : Int) < (n : Int)) = false := decide_eq_false (by omega)
    go_wp2_with fail
    refine Calls.mono (told_none _) ?_
    rintro e w2 ⟨rfl, hb2⟩
    have z2 := Below.size hb2; try simp only [World.size_alloc, World.size_setCell, World.size_drew] at z2
    obtain ⟨c2_0, f2_0⟩ := Below.blk hb2 (b := w.heap.size) (by first | (simp; done) | omega | (simp; omega))
    have z2_0 : w.heap.size < w2.heap.size := (by first | (simp; done) | omega | (simp; omega))
    go_wp2_with fail
    refine Calls.mono (got_none _ _ _) ?_
    rintro e w3 ⟨rfl, hb3⟩
    have z3 := Below.size hb3; try simp only [World.size_alloc, World.size_setCell, World.size_drew] at z3
    obtain ⟨c3_0, f3_0⟩ := Below.blk hb3 (b := w.heap.size) (by first | (simp; done) | omega | (simp; omega))
    have z3_0 : w.heap.size < w3.heap.size := (by first | (simp; done) | omega | (simp; omega))
    go_wp2_with fail
    refine Calls.mono (vec_none _) ?_
    rintro e w4 ⟨rfl, hb4⟩
    have z4 := Below.size hb4; try simp only [World.size_alloc, World.size_setCell, World.size_drew] at z4
    obtain ⟨c4_0, f4_0⟩ := Below.blk hb4 (b := w.heap.size) (by first | (simp; done) | omega | (simp; omega))
    have z4_0 : w.heap.size < w4.heap.size := (by first | (simp; done) | omega | (simp; omega))
    go_wp2_with fail
    refine Calls.mono (newest_none _) ?_
    rintro e w5 ⟨rfl, hb5⟩
    have z5 := Below.size hb5; try simp only [World.size_alloc, World.size_setCell, World.size_drew] at z5
    obtain ⟨c5_0, f5_0⟩ := Below.blk hb5 (b := w.heap.size) (by first | (simp; done) | omega | (simp; omega))
    have z5_0 : w.heap.size < w5.heap.size := (by first | (simp; done) | omega | (simp; omega))
    go_wp2_with fail
    refine Calls.mono (owes_none _ _) ?_
    rintro e w6 ⟨rfl, hb6⟩
    have z6 := Below.size hb6; try simp only [World.size_alloc, World.size_setCell, World.size_drew] at z6
    obtain ⟨c6_0, f6_0⟩ := Below.blk hb6 (b := w.heap.size) (by first | (simp; done) | omega | (simp; omega))
    have z6_0 : w.heap.size < w6.heap.size := (by first | (simp; done) | omega | (simp; omega))
    go_wp2_with fail
    refine Calls.mono (room_none _) ?_
    rintro e w7 ⟨rfl, hb7⟩
    have z7 := Below.size hb7; try simp only [World.size_alloc, World.size_setCell, World.size_drew] at z7
    obtain ⟨c7_0, f7_0⟩ := Below.blk hb7 (b := w.heap.size) (by first | (simp; done) | omega | (simp; omega))
    have z7_0 : w.heap.size < w7.heap.size := (by first | (simp; done) | omega | (simp; omega))
    go_wp2_with fail
    refine Calls.mono (sent_none _ _ _) ?_
    rintro e w8 ⟨rfl, hb8⟩
    have z8 := Below.size hb8; try simp only [World.size_alloc, World.size_setCell, World.size_drew] at z8
    obtain ⟨c8_0, f8_0⟩ := Below.blk hb8 (b := w.heap.size) (by first | (simp; done) | omega | (simp; omega))
    have z8_0 : w.heap.size < w8.heap.size := (by first | (simp; done) | omega | (simp; omega))
    go_wp2_with fail
    refine Calls.mono (took_none _ _ _ _ _ _ _) ?_
    rintro e w9 ⟨rfl, hb9⟩
    have z9 := Below.size hb9; try simp only [World.size_alloc, World.size_setCell, World.size_drew] at z9
    obtain ⟨c9_0, f9_0⟩ := Below.blk hb9 (b := w.heap.size) (by first | (simp; done) | omega | (simp; omega))
    have z9_0 : w.heap.size < w9.heap.size := (by first | (simp; done) | omega | (simp; omega))
    go_wp2_with fail
    refine Calls.mono (tick_none _ _ _) ?_
    rintro e w10 ⟨rfl, hb10⟩
    have z10 := Below.size hb10; try simp only [World.size_alloc, World.size_setCell, World.size_drew] at z10
    obtain ⟨c10_0, f10_0⟩ := Below.blk hb10 (b := w.heap.size) (by first | (simp; done) | omega | (simp; omega))
    have z10_0 : w.heap.size < w10.heap.size := (by first | (simp; done) | omega | (simp; omega))
    go_wp2_with fail
    refine Calls.mono (window_none _) ?_
    rintro e w11 ⟨rfl, hb11⟩
    have z11 := Below.size hb11; try simp only [World.size_alloc, World.size_setCell, World.size_drew] at z11
    obtain ⟨c11_0, f11_0⟩ := Below.blk hb11 (b := w.heap.size) (by first | (simp; done) | omega | (simp; omega))
    have z11_0 : w.heap.size < w11.heap.size := (by first | (simp; done) | omega | (simp; omega))
    go_wp2_with fail
    refine Calls.mono (pipe_none _) ?_
    rintro e w12 ⟨rfl, hb12⟩
    have z12 := Below.size hb12; try simp only [World.size_alloc, World.size_setCell, World.size_drew] at z12
    obtain ⟨c12_0, f12_0⟩ := Below.blk hb12 (b := w.heap.size) (by first | (simp; done) | omega | (simp; omega))
    have z12_0 : w.heap.size < w12.heap.size := (by first | (simp; done) | omega | (simp; omega))
    go_wp2_with fail
    refine Calls.mono (trip_none _) ?_
    rintro e w13 ⟨rfl, hb13⟩
    have z13 := Below.size hb13; try simp only [World.size_alloc, World.size_setCell, World.size_drew] at z13
    obtain ⟨c13_0, f13_0⟩ := Below.blk hb13 (b := w.heap.size) (by first | (simp; done) | omega | (simp; omega))
    have z13_0 : w.heap.size < w13.heap.size := (by first | (simp; done) | omega | (simp; omega))
    go_wp2_with fail
    refine Calls.mono (ratio_none _) ?_
    rintro e w14 ⟨rfl, hb14⟩
    have z14 := Below.size hb14; try simp only [World.size_alloc, World.size_setCell, World.size_drew] at z14
    obtain ⟨c14_0, f14_0⟩ := Below.blk hb14 (b := w.heap.size) (by first | (simp; done) | omega | (simp; omega))
    have z14_0 : w.heap.size < w14.heap.size := (by first | (simp; done) | omega | (simp; omega))
    go_wp2_with fail
    refine Calls.mono (fails_none _) ?_
    rintro e w15 ⟨rfl, hb15⟩
    have z15 := Below.size hb15; try simp only [World.size_alloc, World.size_setCell, World.size_drew] at z15
    obtain ⟨c15_0, f15_0⟩ := Below.blk hb15 (b := w.heap.size) (by first | (simp; done) | omega | (simp; omega))
    have z15_0 : w.heap.size < w15.heap.size := (by first | (simp; done) | omega | (simp; omega))
    go_wp2_with fail
    go_ret
    exact Ret.mk rfl (by repeat (first | with_reducible exact Below.refl _ _ | (with_reducible refine Below.al ?_) | (with_reducible refine Below.drew ?_) | (with_reducible refine Below.set ?_ (by first | (simp; done) | omega | (simp; omega))) | (with_reducible refine Below.thru ?_ (by assumption)) | (with_reducible refine Below.chg ?_ (by assumption) (by first | (simp; done) | omega | (simp; omega)))))
end Go.Proofs.Ytibidmenpoiacaa.Ccid
