/- The walk of the statement CwndOnce. -/
import Derived.Test.YthodfihdmhkgeaaCwndLaw
import Derived.Test.YthodfihdmhkgeaaFresh
namespace Go.Proofs.Ythodfihdmhkgeaa.Cwnd
set_option linter.unusedSimpArgs false
set_option linter.unusedVariables false
open Go Go.RowKit Go.Proofs.Ythodfihdmhkgeaa Go.Proofs.Ythodfihdmhkgeaa.Circ
attribute [local irreducible] Calls

set_option maxRecDepth 100000 in
set_option maxHeartbeats 800000 in
theorem alike_any (s t c : Int) (k : Bool) (m : Int) (hok : Win.Ok ⟨s, t, c, k, m⟩) (w : World) :
    Calls Try.prog 38 #[.agg #[.int .i64 s, .int .i64 t, .int .i64 c, .bool k, .int .i64 m], .agg #[.int .i64 s, .int .i64 t, .int .i64 c, .bool k, .int .i64 m]] w (Ret w (.bool true)) := by
  have hb := hok.beg
  replace hok := Lib.hid hok; replace hb := Lib.hid hb
  go_enter Try.func38, Try.ntmps38
  go_wp2_with fail
  go_loopg [5] 18 (fun g i wr => ∃ j : Nat, j ≤ 18 ∧ g = 18 - j ∧ i = .int .i64 j ∧ Below w.heap.size w wr ∧ Box wr w.heap.size [.int .i64 s, .int .i64 t, .int .i64 c, .bool k, .int .i64 m] ∧ Box wr (w.heap.size + 1) [.int .i64 s, .int .i64 t, .int .i64 c, .bool k, .int .i64 m])
  case atStart => exact ⟨0, by omega, by omega, rfl, (by repeat (first | with_reducible exact Below.refl _ _ | (with_reducible refine Below.al ?_) | (with_reducible refine Below.drew ?_) | (with_reducible refine Below.set ?_ (by first | (simp; done) | omega | (simp; omega))) | (with_reducible refine Below.thru ?_ (by assumption)) | (with_reducible refine Below.chg ?_ (by assumption) (by first | (simp; done) | omega | (simp; omega))))), (by (try rw [show ((0 : Nat) : Int) = 0 from rfl]); repeat (first | fail | (with_reducible refine Box.below ?_ (by assumption)) | (with_reducible refine Box.drew ?_) | (with_reducible refine Box.new_at (by first | rfl | (simp; done) | omega)) | (with_reducible refine Box.al ?_) | (with_reducible apply Box.set0) | (with_reducible apply Box.set1) | (with_reducible apply Box.set2) | (with_reducible apply Box.set3) | (with_reducible apply Box.set4) | (with_reducible apply Box.set5) | (with_reducible apply Box.set6) | (with_reducible apply Box.set7) | (with_reducible apply Box.set8) | (with_reducible refine Box.oth ?_ (by first | (simp; done) | omega | (simp; omega))) | (with_reducible refine Box.chg ?_ (by assumption) (by first | (simp; done) | omega | (simp; omega))))), (by (try rw [show ((0 : Nat) : Int) = 0 from rfl]); repeat (first | fail | (with_reducible refine Box.below ?_ (by assumption)) | (with_reducible refine Box.drew ?_) | (with_reducible refine Box.new_at (by first | rfl | (simp; done) | omega)) | (with_reducible refine Box.al ?_) | (with_reducible apply Box.set0) | (with_reducible apply Box.set1) | (with_reducible apply Box.set2) | (with_reducible apply Box.set3) | (with_reducible apply Box.set4) | (with_reducible apply Box.set5) | (with_reducible apply Box.set6) | (with_reducible apply Box.set7) | (with_reducible apply Box.set8) | (with_reducible refine Box.oth ?_ (by first | (simp; done) | omega | (simp; omega))) | (with_reducible refine Box.chg ?_ (by assumption) (by first | (simp; done) | omega | (simp; omega)))))⟩
  case round =>
    obtain ⟨j, hj, hg, rfl, hbw, hA, hB⟩ := hrel
    have HA := Lib.hid hA
    have HB := Lib.hid hB
    obtain ⟨zA, cA, fA⟩ := hA
    obtain ⟨zB, cB, fB⟩ := hB
    by_cases hlt : j < 18
    · have hok2 := hok.out.acked (j : Int) true
      have hb2 := hok2.beg
      generalize hz : Win.acked ⟨s, t, c, k, m⟩ (j : Int) true = z at *
      obtain ⟨s2, t2, c2, k2, m2⟩ := z
      replace hok2 := Lib.hid hok2; replace hb2 := Lib.hid hb2; replace hz := Lib.hid hz
      go_wp2_with fail
      refine wp_region_near (by kernel_rfl) (by kernel_rfl) ?_
      intro hs
      repeat (go_big_quiet_step ((first | (go_at_call 28; exact Calls.near (by simp) (size_at ⟨s2, t2, c2, k2, m2⟩ hb2.out _)) | (go_at_call 30; exact Calls.near (by simp) (acked_at ⟨s, t, c, k, m⟩ ⟨s, t, c, k, m⟩ (j : Int) true hb.out hok.out hz.out _)))))
      refine wpQuiet_nil ?_
      clear hs
      intro w2 hb3
      go_wp2_with fail
      go_roundg (18 - (j + 1))
      case measure => omega
      case rel => exact ⟨j + 1, by omega, rfl, by go_num, (by repeat (first | with_reducible exact Below.refl _ _ | (with_reducible refine Below.al ?_) | (with_reducible refine Below.drew ?_) | (with_reducible refine Below.set ?_ (by first | (simp; done) | omega | (simp; omega))) | (with_reducible refine Below.thru ?_ (by assumption)) | (with_reducible refine Below.chg ?_ (by assumption) (by first | (simp; done) | omega | (simp; omega))))), (by (try rw [show ((0 : Nat) : Int) = 0 from rfl]); repeat (first | (with_reducible exact Hid.out HA) | (with_reducible refine Box.below ?_ (by assumption)) | (with_reducible refine Box.drew ?_) | (with_reducible refine Box.new_at (by first | rfl | (simp; done) | omega)) | (with_reducible refine Box.al ?_) | (with_reducible apply Box.set0) | (with_reducible apply Box.set1) | (with_reducible apply Box.set2) | (with_reducible apply Box.set3) | (with_reducible apply Box.set4) | (with_reducible apply Box.set5) | (with_reducible apply Box.set6) | (with_reducible apply Box.set7) | (with_reducible apply Box.set8) | (with_reducible refine Box.oth ?_ (by first | (simp; done) | omega | (simp; omega))) | (with_reducible refine Box.chg ?_ (by assumption) (by first | (simp; done) | omega | (simp; omega))))), (by (try rw [show ((0 : Nat) : Int) = 0 from rfl]); repeat (first | (with_reducible exact Hid.out HB) | (with_reducible refine Box.below ?_ (by assumption)) | (with_reducible refine Box.drew ?_) | (with_reducible refine Box.new_at (by first | rfl | (simp; done) | omega)) | (with_reducible refine Box.al ?_) | (with_reducible apply Box.set0) | (with_reducible apply Box.set1) | (with_reducible apply Box.set2) | (with_reducible apply Box.set3) | (with_reducible apply Box.set4) | (with_reducible apply Box.set5) | (with_reducible apply Box.set6) | (with_reducible apply Box.set7) | (with_reducible apply Box.set8) | (with_reducible refine Box.oth ?_ (by first | (simp; done) | omega | (simp; omega))) | (with_reducible refine Box.chg ?_ (by assumption) (by first | (simp; done) | omega | (simp; omega)))))⟩
    · go_wp2_with fail
      refine wp_region_near (by kernel_rfl) (by kernel_rfl) ?_
      intro hs
      repeat (go_big_quiet_step ((go_at_call 29; exact Calls.near (by simp) (thr_at ⟨s, t, c, k, m⟩ hb.out _))))
      refine wpQuiet_nil ?_
      clear hs
      intro w2 hb3
      go_wp2_with fail
      go_ret
      exact Ret.mk rfl (by repeat (first | with_reducible exact Below.refl _ _ | (with_reducible refine Below.al ?_) | (with_reducible refine Below.drew ?_) | (with_reducible refine Below.set ?_ (by first | (simp; done) | omega | (simp; omega))) | (with_reducible refine Below.thru ?_ (by assumption)) | (with_reducible refine Below.chg ?_ (by assumption) (by first | (simp; done) | omega | (simp; omega)))))

theorem iter_mark (x : Win) : ∀ n, (x.iter n).k = x.k ∧ (x.iter n).m = x.m
  | 0 => ⟨rfl, rfl⟩
  | n + 1 => by
    obtain ⟨h1, h2⟩ := iter_mark x n
    show (Win.grow _).k = _ ∧ (Win.grow _).m = _
    unfold Win.grow
    (repeat' split) <;> exact ⟨h1, h2⟩
theorem once_old (x : Win) (next : Int) (hk : x.k = true) (hm : x.m = ofC next) (back : Int) (h0 : 0 ≤ back) (h1 : back ≤ 65535) :
    x.old (ofC (next + (-1 - back))) = true ∧ x.old (ofC (next + back)) = false := by
  unfold Win.old lessC
  rw [hk, hm, Bool.true_and, Bool.true_and]
  refine ⟨decide_eq_true ?_, decide_eq_false ?_⟩ <;> (unfold farC ofC; omega)

theorem win_info : (Try.prog.info? 36).map (fun i => (i.zero, i.size, i.bytes)) = some (some (.agg #[.int .i64 0, .int .i64 0, .int .i64 0, .bool false, .int .i64 0]), 5, 40) := by kernel_rfl
set_option maxRecDepth 100000 in
set_option maxHeartbeats 2000000 in
theorem once_walk (a : Option Addr) (n cap : Nat) (next : Int) (w1' : (Lit.int .i64 next).wf = true) (back : Int) (w2' : (Lit.int .u16 back).wf = true) (many : Int) (w3' : (Lit.int .i64 many).wf = true) (w : World) (h0 : Fits w (.slice 5 (.cons 1 (.int .i64) (.cons 1 (.int .i64) (.cons 1 (.int .i64) (.cons 1 (.int .i64) (.cons 1 .bool .nil)))))) [.slice a n cap]) :
    Calls Try.prog 6 #[.slice a n cap, .int .i64 next, .int .u16 back, .int .i64 many] w (Ret w (.bool true)) := by
  obtain ⟨hn, _, l, hl, _, hL⟩ := ops_in h0
  obtain ⟨bk0, bk1⟩ := bounds_u16 w2'
  unfold maxLen at hn
  clear h0
  have b0 := beg_new
  have o0 := ok_new
  replace hl := Lib.hid hl; replace hL := Lib.hid hL; replace b0 := Lib.hid b0; replace o0 := Lib.hid o0
  go_enter Try.func6, Try.ntmps6
  go_wp2_with fail
  refine Calls.mono (works_law _) ?_
  rintro e w1 ⟨rfl, hb1⟩
  have z1 := Below.size hb1; try simp only [World.size_alloc, World.size_setCell, World.size_drew] at z1
  by_cases h300 : 300 < n
  · have q : decide ((300 : Int) < n) = true := decide_eq_true (by omega)
    go_wp2_with fail
    go_ret
    exact Ret.mk rfl (by repeat (first | with_reducible exact Below.refl _ _ | (with_reducible refine Below.al ?_) | (with_reducible refine Below.drew ?_) | (with_reducible refine Below.set ?_ (by first | (simp; done) | omega | (simp; omega))) | (with_reducible refine Below.thru ?_ (by assumption)) | (with_reducible refine Below.chg ?_ (by assumption) (by first | (simp; done) | omega | (simp; omega)))))
  · have q : decide ((300 : Int) < n) = false := decide_eq_false (by omega)
    go_wp2_with fail
    refine Calls.mono (new_any _) ?_
    rintro e w2 ⟨rfl, hb2⟩
    have z2 := Below.size hb2; try simp only [World.size_alloc, World.size_setCell, World.size_drew] at z2
    go_wp2_with fail
    go_loopg [10] n (fun g i wr => ∃ (j : Nat) (y : Win), j ≤ n ∧ g = n - j ∧ i = .int .i64 j ∧ Hid y.Ok ∧ Below w.heap.size w wr ∧ Box wr w2.heap.size [.int .i64 y.s, .int .i64 y.t, .int .i64 y.c, .bool y.k, .int .i64 y.m])
    case atStart =>
      refine ⟨0, ⟨3, 16, 0, false, 0⟩, by omega, by omega, rfl, o0, (by repeat (first | with_reducible exact Below.refl _ _ | (with_reducible refine Below.al ?_) | (with_reducible refine Below.drew ?_) | (with_reducible refine Below.set ?_ (by first | (simp; done) | omega | (simp; omega))) | (with_reducible refine Below.thru ?_ (by assumption)) | (with_reducible refine Below.chg ?_ (by assumption) (by first | (simp; done) | omega | (simp; omega))))), ?_⟩
      simp only
      exact (by (try rw [show ((0 : Nat) : Int) = 0 from rfl]); repeat (first | fail | (with_reducible refine Box.below ?_ (by assumption)) | (with_reducible refine Box.drew ?_) | (with_reducible refine Box.new_at (by first | rfl | (simp; done) | omega)) | (with_reducible refine Box.al ?_) | (with_reducible apply Box.set0) | (with_reducible apply Box.set1) | (with_reducible apply Box.set2) | (with_reducible apply Box.set3) | (with_reducible apply Box.set4) | (with_reducible apply Box.set5) | (with_reducible apply Box.set6) | (with_reducible apply Box.set7) | (with_reducible apply Box.set8) | (with_reducible refine Box.oth ?_ (by first | (simp; done) | omega | (simp; omega))) | (with_reducible refine Box.chg ?_ (by assumption) (by first | (simp; done) | omega | (simp; omega)))))
    case round =>
      obtain ⟨j, ⟨s, t, c, k, m⟩, hj, hg, rfl, hok, hbw, hA⟩ := hrel
      have HA := Lib.hid hA
      obtain ⟨zA, cA, fA⟩ := hA
      have zw := hbw.size
      have hb := Lib.hid hok.out.beg
      by_cases hlt : j < n
      · have hjl : j < l.length := by have := hl.out; omega
        obtain ⟨b, off, rfl, hbl, hc⟩ := ops_at (hL.out.below hbw) hl.out (by omega)
        obtain ⟨e0, e1, e2, e3, e4⟩ := hc j hjl
        clear hc
        generalize l[j] = o at *
        obtain ⟨kind, mn, seq, nx, full⟩ := o
        simp only at e0 e1 e2 e3 e4
        by_cases k01 : kind = 0 ∨ kind = 1
        · have hok2 := hok.out.acked mn full
          have hb2 := hok2.beg
          generalize hz : Win.acked ⟨s, t, c, k, m⟩ mn full = z at *
          obtain ⟨s2, t2, c2, k2, m2⟩ := z
          replace hok2 := Lib.hid hok2; replace hb2 := Lib.hid hb2; replace hz := Lib.hid hz
          rcases k01 with rfl | rfl
          all_goals
            go_wp2_with fail
            refine wp_region_near_tail 12 (by kernel_rfl) (by kernel_rfl) ?_
            intro hs
            simp only [List.take_succ_cons, List.take_zero, List.drop_succ_cons, List.drop_zero]
            repeat (go_big_quiet_step ((go_at_call 30; exact Calls.near (by simp) (acked_at ⟨s, t, c, k, m⟩ ⟨s, t, c, k, m⟩ mn full hb.out hok.out hz.out _))))
            refine wpQuiet_nil ?_
            clear hs
            intro w4 hb4
            obtain ⟨g1, g2, g3, g4, g5, g6⟩ := hok2.out
            simp only at g1 g2 g3 g4 g5 g6
            have r1 : decide (s2 < 1) = false := decide_eq_false (by omega)
            have r2 : decide (16 < s2) = false := decide_eq_false (by omega)
            have r3 : decide (t2 < 2) = false := decide_eq_false (by omega)
            have r4 : decide (16 < t2) = false := decide_eq_false (by omega)
            have hbw4 : Below w.heap.size w w4 := (by repeat (first | with_reducible exact Below.refl _ _ | (with_reducible refine Below.al ?_) | (with_reducible refine Below.drew ?_) | (with_reducible refine Below.set ?_ (by first | (simp; done) | omega | (simp; omega))) | (with_reducible refine Below.thru ?_ (by assumption)) | (with_reducible refine Below.chg ?_ (by assumption) (by first | (simp; done) | omega | (simp; omega)))))
            have HA4 : Box w4 w2.heap.size [.int .i64 s, .int .i64 t, .int .i64 c, .bool k, .int .i64 m] := HA.out.below hb4
            obtain ⟨zA4, cA4, fA4⟩ := id HA4
            clear cA fA hbw hb4
            replace HA4 := Lib.hid HA4
            go_wp2_with fail
            refine Calls.mono (size_at ⟨s2, t2, c2, k2, m2⟩ hb2.out _) ?_
            rintro e w5 ⟨rfl, hb5⟩
            have z5 := Below.size hb5; try simp only [World.size_alloc, World.size_setCell, World.size_drew] at z5
            obtain ⟨c5_0, f5_0⟩ := Below.blk hb5 (b := w2.heap.size) (by first | (simp; done) | omega | (simp; omega))
            have z5_0 : w2.heap.size < w5.heap.size := (by first | (simp; done) | omega | (simp; omega))
            go_wp2_with fail
            refine Calls.mono (size_at ⟨s2, t2, c2, k2, m2⟩ hb2.out _) ?_
            rintro e w6 ⟨rfl, hb6⟩
            have z6 := Below.size hb6; try simp only [World.size_alloc, World.size_setCell, World.size_drew] at z6
            obtain ⟨c6_0, f6_0⟩ := Below.blk hb6 (b := w2.heap.size) (by first | (simp; done) | omega | (simp; omega))
            have z6_0 : w2.heap.size < w6.heap.size := (by first | (simp; done) | omega | (simp; omega))
            go_wp2_with fail
            refine Calls.mono (thr_at ⟨s2, t2, c2, k2, m2⟩ hb2.out _) ?_
            rintro e w7 ⟨rfl, hb7⟩
            have z7 := Below.size hb7; try simp only [World.size_alloc, World.size_setCell, World.size_drew] at z7
            obtain ⟨c7_0, f7_0⟩ := Below.blk hb7 (b := w2.heap.size) (by first | (simp; done) | omega | (simp; omega))
            have z7_0 : w2.heap.size < w7.heap.size := (by first | (simp; done) | omega | (simp; omega))
            go_wp2_with fail
            refine Calls.mono (thr_at ⟨s2, t2, c2, k2, m2⟩ hb2.out _) ?_
            rintro e w8 ⟨rfl, hb8⟩
            have z8 := Below.size hb8; try simp only [World.size_alloc, World.size_setCell, World.size_drew] at z8
            obtain ⟨c8_0, f8_0⟩ := Below.blk hb8 (b := w2.heap.size) (by first | (simp; done) | omega | (simp; omega))
            have z8_0 : w2.heap.size < w8.heap.size := (by first | (simp; done) | omega | (simp; omega))
            go_wp2_with fail
            go_roundg (n - (j + 1))
            case measure => omega
            case rel => exact ⟨j + 1, ⟨s2, t2, c2, k2, m2⟩, by omega, rfl, by go_num, hok2.out, (by repeat (first | with_reducible exact Below.refl _ _ | (with_reducible refine Below.al ?_) | (with_reducible refine Below.drew ?_) | (with_reducible refine Below.set ?_ (by first | (simp; done) | omega | (simp; omega))) | (with_reducible refine Below.thru ?_ (by assumption)) | (with_reducible refine Below.chg ?_ (by assumption) (by first | (simp; done) | omega | (simp; omega))))), (by (try rw [show ((0 : Nat) : Int) = 0 from rfl]); repeat (first | (with_reducible exact Hid.out HA4) | (with_reducible refine Box.below ?_ (by assumption)) | (with_reducible refine Box.drew ?_) | (with_reducible refine Box.new_at (by first | rfl | (simp; done) | omega)) | (with_reducible refine Box.al ?_) | (with_reducible apply Box.set0) | (with_reducible apply Box.set1) | (with_reducible apply Box.set2) | (with_reducible apply Box.set3) | (with_reducible apply Box.set4) | (with_reducible apply Box.set5) | (with_reducible apply Box.set6) | (with_reducible apply Box.set7) | (with_reducible apply Box.set8) | (with_reducible refine Box.oth ?_ (by first | (simp; done) | omega | (simp; omega))) | (with_reducible refine Box.chg ?_ (by assumption) (by first | (simp; done) | omega | (simp; omega)))))⟩
        · by_cases kk2 : kind = 2
          · subst kk2
            clear k01
            have hok2 := hok.out.lost seq nx
            have hb2 := hok2.beg
            generalize hz : Win.lost ⟨s, t, c, k, m⟩ seq nx = z at *
            obtain ⟨s2, t2, c2, k2, m2⟩ := z
            replace hok2 := Lib.hid hok2; replace hb2 := Lib.hid hb2; replace hz := Lib.hid hz
            go_wp2_with fail
            refine wp_region_near_late 12 14 [13, 15] _ [_, _] (by kernel_rfl) rfl rfl rfl (by kernel_rfl) (fun _ _ _ _ h => h) ?_
            intro hs
            simp only [List.take_succ_cons, List.take_zero]
            repeat (go_big_quiet_step ((go_at_call 32; exact Calls.near (by simp) (lost_at ⟨s, t, c, k, m⟩ ⟨s, t, c, k, m⟩ seq nx hb.out hok.out hz.out rfl _))))
            refine wpQuiet_nil ?_
            clear hs
            refine ⟨_, .inl ⟨rfl, fun _ => rfl⟩, ?_⟩
            intro w4 hb4
            obtain ⟨g1, g2, g3, g4, g5, g6⟩ := hok2.out
            simp only at g1 g2 g3 g4 g5 g6
            have r1 : decide (s2 < 1) = false := decide_eq_false (by omega)
            have r2 : decide (16 < s2) = false := decide_eq_false (by omega)
            have r3 : decide (t2 < 2) = false := decide_eq_false (by omega)
            have r4 : decide (16 < t2) = false := decide_eq_false (by omega)
            have hbw4 : Below w.heap.size w w4 := (by repeat (first | with_reducible exact Below.refl _ _ | (with_reducible refine Below.al ?_) | (with_reducible refine Below.drew ?_) | (with_reducible refine Below.set ?_ (by first | (simp; done) | omega | (simp; omega))) | (with_reducible refine Below.thru ?_ (by assumption)) | (with_reducible refine Below.chg ?_ (by assumption) (by first | (simp; done) | omega | (simp; omega)))))
            have HA4 : Box w4 w2.heap.size [.int .i64 s, .int .i64 t, .int .i64 c, .bool k, .int .i64 m] := HA.out.below hb4
            obtain ⟨zA4, cA4, fA4⟩ := id HA4
            clear cA fA hbw hb4
            replace HA4 := Lib.hid HA4
            go_wp2_with fail
            refine Calls.mono (size_at ⟨s2, t2, c2, k2, m2⟩ hb2.out _) ?_
            rintro e w5 ⟨rfl, hb5⟩
            have z5 := Below.size hb5; try simp only [World.size_alloc, World.size_setCell, World.size_drew] at z5
            obtain ⟨c5_0, f5_0⟩ := Below.blk hb5 (b := w2.heap.size) (by first | (simp; done) | omega | (simp; omega))
            have z5_0 : w2.heap.size < w5.heap.size := (by first | (simp; done) | omega | (simp; omega))
            go_wp2_with fail
            refine Calls.mono (size_at ⟨s2, t2, c2, k2, m2⟩ hb2.out _) ?_
            rintro e w6 ⟨rfl, hb6⟩
            have z6 := Below.size hb6; try simp only [World.size_alloc, World.size_setCell, World.size_drew] at z6
            obtain ⟨c6_0, f6_0⟩ := Below.blk hb6 (b := w2.heap.size) (by first | (simp; done) | omega | (simp; omega))
            have z6_0 : w2.heap.size < w6.heap.size := (by first | (simp; done) | omega | (simp; omega))
            go_wp2_with fail
            refine Calls.mono (thr_at ⟨s2, t2, c2, k2, m2⟩ hb2.out _) ?_
            rintro e w7 ⟨rfl, hb7⟩
            have z7 := Below.size hb7; try simp only [World.size_alloc, World.size_setCell, World.size_drew] at z7
            obtain ⟨c7_0, f7_0⟩ := Below.blk hb7 (b := w2.heap.size) (by first | (simp; done) | omega | (simp; omega))
            have z7_0 : w2.heap.size < w7.heap.size := (by first | (simp; done) | omega | (simp; omega))
            go_wp2_with fail
            refine Calls.mono (thr_at ⟨s2, t2, c2, k2, m2⟩ hb2.out _) ?_
            rintro e w8 ⟨rfl, hb8⟩
            have z8 := Below.size hb8; try simp only [World.size_alloc, World.size_setCell, World.size_drew] at z8
            obtain ⟨c8_0, f8_0⟩ := Below.blk hb8 (b := w2.heap.size) (by first | (simp; done) | omega | (simp; omega))
            have z8_0 : w2.heap.size < w8.heap.size := (by first | (simp; done) | omega | (simp; omega))
            go_wp2_with fail
            go_roundg (n - (j + 1))
            case measure => omega
            case rel => exact ⟨j + 1, ⟨s2, t2, c2, k2, m2⟩, by omega, rfl, by go_num, hok2.out, (by repeat (first | with_reducible exact Below.refl _ _ | (with_reducible refine Below.al ?_) | (with_reducible refine Below.drew ?_) | (with_reducible refine Below.set ?_ (by first | (simp; done) | omega | (simp; omega))) | (with_reducible refine Below.thru ?_ (by assumption)) | (with_reducible refine Below.chg ?_ (by assumption) (by first | (simp; done) | omega | (simp; omega))))), (by (try rw [show ((0 : Nat) : Int) = 0 from rfl]); repeat (first | (with_reducible exact Hid.out HA4) | (with_reducible refine Box.below ?_ (by assumption)) | (with_reducible refine Box.drew ?_) | (with_reducible refine Box.new_at (by first | rfl | (simp; done) | omega)) | (with_reducible refine Box.al ?_) | (with_reducible apply Box.set0) | (with_reducible apply Box.set1) | (with_reducible apply Box.set2) | (with_reducible apply Box.set3) | (with_reducible apply Box.set4) | (with_reducible apply Box.set5) | (with_reducible apply Box.set6) | (with_reducible apply Box.set7) | (with_reducible apply Box.set8) | (with_reducible refine Box.oth ?_ (by first | (simp; done) | omega | (simp; omega))) | (with_reducible refine Box.chg ?_ (by assumption) (by first | (simp; done) | omega | (simp; omega)))))⟩
          · by_cases k3 : kind = 3
            · subst k3
              clear k01 kk2
              have hok2 := hok.out.late nx
              have hb2 := hok2.beg
              generalize hz : Win.late ⟨s, t, c, k, m⟩ nx = z at *
              obtain ⟨s2, t2, c2, k2, m2⟩ := z
              replace hok2 := Lib.hid hok2; replace hb2 := Lib.hid hb2; replace hz := Lib.hid hz
              go_wp2_with fail
              refine wp_region_near_tail 7 (by kernel_rfl) (by kernel_rfl) ?_
              intro hs
              simp only [List.take_succ_cons, List.take_zero, List.drop_succ_cons, List.drop_zero]
              repeat (go_big_quiet_step ((go_at_call 34; exact Calls.near (by simp) (late_at ⟨s, t, c, k, m⟩ ⟨s, t, c, k, m⟩ nx hb.out hok.out hz.out _))))
              refine wpQuiet_nil ?_
              clear hs
              intro w4 hb4
              obtain ⟨g1, g2, g3, g4, g5, g6⟩ := hok2.out
              simp only at g1 g2 g3 g4 g5 g6
              have r1 : decide (s2 < 1) = false := decide_eq_false (by omega)
              have r2 : decide (16 < s2) = false := decide_eq_false (by omega)
              have r3 : decide (t2 < 2) = false := decide_eq_false (by omega)
              have r4 : decide (16 < t2) = false := decide_eq_false (by omega)
              have hbw4 : Below w.heap.size w w4 := (by repeat (first | with_reducible exact Below.refl _ _ | (with_reducible refine Below.al ?_) | (with_reducible refine Below.drew ?_) | (with_reducible refine Below.set ?_ (by first | (simp; done) | omega | (simp; omega))) | (with_reducible refine Below.thru ?_ (by assumption)) | (with_reducible refine Below.chg ?_ (by assumption) (by first | (simp; done) | omega | (simp; omega)))))
              have HA4 : Box w4 w2.heap.size [.int .i64 s, .int .i64 t, .int .i64 c, .bool k, .int .i64 m] := HA.out.below hb4
              obtain ⟨zA4, cA4, fA4⟩ := id HA4
              clear cA fA hbw hb4
              replace HA4 := Lib.hid HA4
              go_wp2_with fail
              refine Calls.mono (size_at ⟨s2, t2, c2, k2, m2⟩ hb2.out _) ?_
              rintro e w5 ⟨rfl, hb5⟩
              have z5 := Below.size hb5; try simp only [World.size_alloc, World.size_setCell, World.size_drew] at z5
              obtain ⟨c5_0, f5_0⟩ := Below.blk hb5 (b := w2.heap.size) (by first | (simp; done) | omega | (simp; omega))
              have z5_0 : w2.heap.size < w5.heap.size := (by first | (simp; done) | omega | (simp; omega))
              go_wp2_with fail
              refine Calls.mono (size_at ⟨s2, t2, c2, k2, m2⟩ hb2.out _) ?_
              rintro e w6 ⟨rfl, hb6⟩
              have z6 := Below.size hb6; try simp only [World.size_alloc, World.size_setCell, World.size_drew] at z6
              obtain ⟨c6_0, f6_0⟩ := Below.blk hb6 (b := w2.heap.size) (by first | (simp; done) | omega | (simp; omega))
              have z6_0 : w2.heap.size < w6.heap.size := (by first | (simp; done) | omega | (simp; omega))
              go_wp2_with fail
              refine Calls.mono (thr_at ⟨s2, t2, c2, k2, m2⟩ hb2.out _) ?_
              rintro e w7 ⟨rfl, hb7⟩
              have z7 := Below.size hb7; try simp only [World.size_alloc, World.size_setCell, World.size_drew] at z7
              obtain ⟨c7_0, f7_0⟩ := Below.blk hb7 (b := w2.heap.size) (by first | (simp; done) | omega | (simp; omega))
              have z7_0 : w2.heap.size < w7.heap.size := (by first | (simp; done) | omega | (simp; omega))
              go_wp2_with fail
              refine Calls.mono (thr_at ⟨s2, t2, c2, k2, m2⟩ hb2.out _) ?_
              rintro e w8 ⟨rfl, hb8⟩
              have z8 := Below.size hb8; try simp only [World.size_alloc, World.size_setCell, World.size_drew] at z8
              obtain ⟨c8_0, f8_0⟩ := Below.blk hb8 (b := w2.heap.size) (by first | (simp; done) | omega | (simp; omega))
              have z8_0 : w2.heap.size < w8.heap.size := (by first | (simp; done) | omega | (simp; omega))
              go_wp2_with fail
              go_roundg (n - (j + 1))
              case measure => omega
              case rel => exact ⟨j + 1, ⟨s2, t2, c2, k2, m2⟩, by omega, rfl, by go_num, hok2.out, (by repeat (first | with_reducible exact Below.refl _ _ | (with_reducible refine Below.al ?_) | (with_reducible refine Below.drew ?_) | (with_reducible refine Below.set ?_ (by first | (simp; done) | omega | (simp; omega))) | (with_reducible refine Below.thru ?_ (by assumption)) | (with_reducible refine Below.chg ?_ (by assumption) (by first | (simp; done) | omega | (simp; omega))))), (by (try rw [show ((0 : Nat) : Int) = 0 from rfl]); repeat (first | (with_reducible exact Hid.out HA4) | (with_reducible refine Box.below ?_ (by assumption)) | (with_reducible refine Box.drew ?_) | (with_reducible refine Box.new_at (by first | rfl | (simp; done) | omega)) | (with_reducible refine Box.al ?_) | (with_reducible apply Box.set0) | (with_reducible apply Box.set1) | (with_reducible apply Box.set2) | (with_reducible apply Box.set3) | (with_reducible apply Box.set4) | (with_reducible apply Box.set5) | (with_reducible apply Box.set6) | (with_reducible apply Box.set7) | (with_reducible apply Box.set8) | (with_reducible refine Box.oth ?_ (by first | (simp; done) | omega | (simp; omega))) | (with_reducible refine Box.chg ?_ (by assumption) (by first | (simp; done) | omega | (simp; omega)))))⟩
            · have q0 : (kind == 0) = false := by simp; omega
              have q1 : (kind == 1) = false := by simp; omega
              have q2 : (kind == 2) = false := by simp; omega
              have q3 : (kind == 3) = false := by simp; omega
              clear k01 kk2 k3
              obtain ⟨g1, g2, g3, g4, g5, g6⟩ := hok.out
              simp only at g1 g2 g3 g4 g5 g6
              have r1 : decide (s < 1) = false := decide_eq_false (by omega)
              have r2 : decide (16 < s) = false := decide_eq_false (by omega)
              have r3 : decide (t < 2) = false := decide_eq_false (by omega)
              have r4 : decide (16 < t) = false := decide_eq_false (by omega)
              go_wp2_with fail
              refine Calls.mono (size_at ⟨s, t, c, k, m⟩ hb.out _) ?_
              rintro e w5 ⟨rfl, hb5⟩
              have z5 := Below.size hb5; try simp only [World.size_alloc, World.size_setCell, World.size_drew] at z5
              obtain ⟨c5_0, f5_0⟩ := Below.blk hb5 (b := w2.heap.size) (by first | (simp; done) | omega | (simp; omega))
              have z5_0 : w2.heap.size < w5.heap.size := (by first | (simp; done) | omega | (simp; omega))
              go_wp2_with fail
              refine Calls.mono (size_at ⟨s, t, c, k, m⟩ hb.out _) ?_
              rintro e w6 ⟨rfl, hb6⟩
              have z6 := Below.size hb6; try simp only [World.size_alloc, World.size_setCell, World.size_drew] at z6
              obtain ⟨c6_0, f6_0⟩ := Below.blk hb6 (b := w2.heap.size) (by first | (simp; done) | omega | (simp; omega))
              have z6_0 : w2.heap.size < w6.heap.size := (by first | (simp; done) | omega | (simp; omega))
              go_wp2_with fail
              refine Calls.mono (thr_at ⟨s, t, c, k, m⟩ hb.out _) ?_
              rintro e w7 ⟨rfl, hb7⟩
              have z7 := Below.size hb7; try simp only [World.size_alloc, World.size_setCell, World.size_drew] at z7
              obtain ⟨c7_0, f7_0⟩ := Below.blk hb7 (b := w2.heap.size) (by first | (simp; done) | omega | (simp; omega))
              have z7_0 : w2.heap.size < w7.heap.size := (by first | (simp; done) | omega | (simp; omega))
              go_wp2_with fail
              refine Calls.mono (thr_at ⟨s, t, c, k, m⟩ hb.out _) ?_
              rintro e w8 ⟨rfl, hb8⟩
              have z8 := Below.size hb8; try simp only [World.size_alloc, World.size_setCell, World.size_drew] at z8
              obtain ⟨c8_0, f8_0⟩ := Below.blk hb8 (b := w2.heap.size) (by first | (simp; done) | omega | (simp; omega))
              have z8_0 : w2.heap.size < w8.heap.size := (by first | (simp; done) | omega | (simp; omega))
              go_wp2_with fail
              go_roundg (n - (j + 1))
              case measure => omega
              case rel => exact ⟨j + 1, ⟨s, t, c, k, m⟩, by omega, rfl, by go_num, hok.out, (by repeat (first | with_reducible exact Below.refl _ _ | (with_reducible refine Below.al ?_) | (with_reducible refine Below.drew ?_) | (with_reducible refine Below.set ?_ (by first | (simp; done) | omega | (simp; omega))) | (with_reducible refine Below.thru ?_ (by assumption)) | (with_reducible refine Below.chg ?_ (by assumption) (by first | (simp; done) | omega | (simp; omega))))), (by (try rw [show ((0 : Nat) : Int) = 0 from rfl]); repeat (first | (with_reducible exact Hid.out HA) | (with_reducible refine Box.below ?_ (by assumption)) | (with_reducible refine Box.drew ?_) | (with_reducible refine Box.new_at (by first | rfl | (simp; done) | omega)) | (with_reducible refine Box.al ?_) | (with_reducible apply Box.set0) | (with_reducible apply Box.set1) | (with_reducible apply Box.set2) | (with_reducible apply Box.set3) | (with_reducible apply Box.set4) | (with_reducible apply Box.set5) | (with_reducible apply Box.set6) | (with_reducible apply Box.set7) | (with_reducible apply Box.set8) | (with_reducible refine Box.oth ?_ (by first | (simp; done) | omega | (simp; omega))) | (with_reducible refine Box.chg ?_ (by assumption) (by first | (simp; done) | omega | (simp; omega)))))⟩
      · have ok1 := hok.out.late next
        have be1 := ok1.beg
        have km1 : (Win.late ⟨s, t, c, k, m⟩ next).k = true ∧ (Win.late ⟨s, t, c, k, m⟩ next).m = ofC next := ⟨rfl, rfl⟩
        generalize hz1 : Win.late ⟨s, t, c, k, m⟩ next = z1 at *
        have ok2 := ok1.acked many true
        have be2 := ok2.beg
        have km2 : (z1.acked many true).k = true ∧ (z1.acked many true).m = ofC next := by
          have := iter_mark z1 (manyF many)
          exact ⟨this.1.trans km1.1, this.2.trans km1.2⟩
        obtain ⟨s1, t1, c1, k1, m1⟩ := z1
        generalize hz2 : Win.acked ⟨s1, t1, c1, k1, m1⟩ many true = z2 at *
        have ho := once_old z2 next km2.1 km2.2 back bk0 (by omega)
        have hl1 : z2.lost (ofC (next + (-1 - back))) next = z2 := if_pos ho.1
        have hl2 : z2.lost (ofC (next + back)) next = z2.shrunk next := if_neg (by rw [ho.2]; simp)
        have ok3 := ok2.shrunk next
        have be3 := ok3.beg
        obtain ⟨s2, t2, c2, k2, m2⟩ := z2
        rw [show Win.shrunk ⟨s2, t2, c2, k2, m2⟩ next = ⟨max (s2 / 2) 2, max (s2 / 2) 2, 0, true, ofC next⟩ from rfl] at *
        have ho1 : (!Win.old ⟨s2, t2, c2, k2, m2⟩ (ofC (next + (-1 - back)))) = false := by rw [ho.1]; rfl
        have ho2 : (!Win.old ⟨s2, t2, c2, k2, m2⟩ (ofC (next + back))) = true := by rw [ho.2]; rfl
        obtain ⟨g1, g2, g3, g4, g5, g6⟩ := id ok2
        simp only at g1 g2 g3 g4 g5 g6
        clear km1 km2 ho
        replace ok1 := Lib.hid ok1; replace be1 := Lib.hid be1; replace hz1 := Lib.hid hz1; replace ok2 := Lib.hid ok2; replace be2 := Lib.hid be2; replace hz2 := Lib.hid hz2; replace hl1 := Lib.hid hl1; replace hl2 := Lib.hid hl2; replace ok3 := Lib.hid ok3; replace be3 := Lib.hid be3; replace ho1 := Lib.hid ho1; replace ho2 := Lib.hid ho2
        go_wp2_with fail
        refine Calls.mono (late_at ⟨s, t, c, k, m⟩ ⟨s, t, c, k, m⟩ next hb.out hok.out hz1.out _) ?_
        rintro e w5 ⟨rfl, hb5⟩
        have z5 := Below.size hb5; try simp only [World.size_alloc, World.size_setCell, World.size_drew] at z5
        obtain ⟨c5_0, f5_0⟩ := Below.blk hb5 (b := w2.heap.size) (by first | (simp; done) | omega | (simp; omega))
        have z5_0 : w2.heap.size < w5.heap.size := (by first | (simp; done) | omega | (simp; omega))
        go_wp2_with fail
        refine Calls.mono (acked_at ⟨s1, t1, c1, k1, m1⟩ ⟨s1, t1, c1, k1, m1⟩ many true be1.out ok1.out hz2.out _) ?_
        rintro e w6 ⟨rfl, hb6⟩
        have z6 := Below.size hb6; try simp only [World.size_alloc, World.size_setCell, World.size_drew] at z6
        have HX : Box (w6.alloc (.cells #[.int .i64 s2, .int .i64 t2, .int .i64 c2, .bool k2, .int .i64 m2] 36)) w6.heap.size [.int .i64 s2, .int .i64 t2, .int .i64 c2, .bool k2, .int .i64 m2] := (by (try rw [show ((0 : Nat) : Int) = 0 from rfl]); repeat (first | fail | (with_reducible refine Box.below ?_ (by assumption)) | (with_reducible refine Box.drew ?_) | (with_reducible refine Box.new_at (by first | rfl | (simp; done) | omega)) | (with_reducible refine Box.al ?_) | (with_reducible apply Box.set0) | (with_reducible apply Box.set1) | (with_reducible apply Box.set2) | (with_reducible apply Box.set3) | (with_reducible apply Box.set4) | (with_reducible apply Box.set5) | (with_reducible apply Box.set6) | (with_reducible apply Box.set7) | (with_reducible apply Box.set8) | (with_reducible refine Box.oth ?_ (by first | (simp; done) | omega | (simp; omega))) | (with_reducible refine Box.chg ?_ (by assumption) (by first | (simp; done) | omega | (simp; omega)))))
        have hb6' : Below w.heap.size w (w6.alloc (.cells #[.int .i64 s2, .int .i64 t2, .int .i64 c2, .bool k2, .int .i64 m2] 36)) := (by repeat (first | with_reducible exact Below.refl _ _ | (with_reducible refine Below.al ?_) | (with_reducible refine Below.drew ?_) | (with_reducible refine Below.set ?_ (by first | (simp; done) | omega | (simp; omega))) | (with_reducible refine Below.thru ?_ (by assumption)) | (with_reducible refine Below.chg ?_ (by assumption) (by first | (simp; done) | omega | (simp; omega)))))
        clear HX hb6'
        obtain ⟨i0, hi0, hz0, hz1, hz2⟩ := info_parts win_info
        have hinf := And.intro hi0 (And.intro hz0 hz1)
        go_wp2_with fail
        refine wp_region_fresh [⟨11, 12, 12, 36, .tmp 106, _, .agg #[.int .i64 s2, .int .i64 t2, .int .i64 c2, .bool k2, .int .i64 m2]⟩] [0, 1, 2, 3, 4, 5, 6, 7, 8, 9, 10] [11, 12] [13] [true, true, true, true, true, true, true, true, true, true, true, false, false, false] [false, false, false, false, false, false, false, false, false, false, false, false, false, true] (by kernel_rfl) rfl rfl rfl (by kernel_rfl) (all_cons ⟨⟨_, rfl, rfl, rfl, rfl⟩, ⟨_, rfl, rfl, rfl, rfl⟩, ⟨_, hinf.1, hinf.2.1, hinf.2.2⟩, rfl, by simp [Value.cells, Value.oneCell']⟩ all_nil) (all_cons (by simp) all_nil) ?_
        apply Exists.intro
        refine ⟨fun X hXn hs => ?_, ?_⟩
        · have hX := hXn.1
          haveI := hXn.2
          have hne2 := hXn.2
          try simp only [World.size_alloc, World.size_setCell, World.size_drew] at hne2
          haveI := hne2
          simp only [pick]
          repeat (go_big_quiet_step (first | (go_at_call 37; exact Calls.nearX hX (by simp) (radd_any next _ _)) | (go_at_call 32; exact Calls.nearX hX (by simp) (lost_at ⟨s2, t2, c2, k2, m2⟩ ⟨s2, t2, c2, k2, m2⟩ (ofC (next + (-1 - back))) next be2.out ok2.out hl1.out ho1.out _))))
          refine wpQuiet_nil ?_
          refine ⟨(all_cons rfl all_nil), ?_⟩
          repeat (go_big_quiet_step (first | (go_at_call 37; exact Calls.nearX hX (by simp) (radd_any next _ _)) | (go_at_call 32; exact Calls.nearX hX (by simp) (lost_at ⟨s2, t2, c2, k2, m2⟩ ⟨s2, t2, c2, k2, m2⟩ (ofC (next + (-1 - back))) next be2.out ok2.out hl1.out ho1.out _))))
          refine wpQuiet_nil ?_
          exact rfl
        intro fb w7 hb7 hfr hne
        have z7 := hb7.size; try simp only [World.size_alloc, World.size_setCell, World.size_drew] at z7
        obtain ⟨le7_0, bx7_0⟩ := hfr _ (List.getElem_mem (n := 0) (by simp))
        clear hfr hne
        simp only [List.getElem_cons_zero, List.getElem_cons_succ, putAll, Act.put, List.setIfInBounds_toArray, List.set_cons_zero, List.set_cons_succ] at le7_0 bx7_0 ⊢
        generalize fb 11 = p7_0 at *
        simp only [Value.cells] at bx7_0; try simp only [World.size_alloc, World.size_setCell, World.size_drew] at le7_0
        have lt7_0 := bx7_0.lt
        obtain ⟨c7, f7⟩ := Below.blk hb7 (b := w6.heap.size) (by first | (simp; done) | omega | (simp; omega))
        have z76 : w6.heap.size < w7.heap.size := by omega
        have HB7 := Lib.hid bx7_0
        obtain ⟨_, cb7, fb7⟩ := bx7_0
        go_wp2_with fail
        refine wp_region_fresh [⟨10, 11, 14, 36, .tmp 116, _, .agg #[.int .i64 (max (s2 / 2) 2), .int .i64 (max (s2 / 2) 2), .int .i64 0, .bool true, .int .i64 (ofC next)]⟩] [0, 1, 2, 3, 4, 5, 6, 7, 8, 9] [10, 11] [12] [true, true, true, true, true, true, true, true, true, true, false, false, false] [false, false, false, false, false, false, false, false, false, false, false, false, true] (by kernel_rfl) rfl rfl rfl (by kernel_rfl) (all_cons ⟨⟨_, rfl, rfl, rfl, rfl⟩, ⟨_, rfl, rfl, rfl, rfl⟩, ⟨_, hinf.1, hinf.2.1, hinf.2.2⟩, rfl, by simp [Value.cells, Value.oneCell']⟩ all_nil) (all_cons (by simp) all_nil) ?_
        apply Exists.intro
        refine ⟨fun X hXn hs => ?_, ?_⟩
        · have hX := hXn.1
          haveI := hXn.2
          have hne2 := hXn.2
          try simp only [World.size_alloc, World.size_setCell, World.size_drew] at hne2
          haveI := hne2
          simp only [pick]
          repeat (go_big_quiet_step (first | (go_at_call 37; exact Calls.nearX hX (by simp) (radd_any next _ _)) | (go_at_call 32; exact Calls.nearX hX (by simp) (lost_at ⟨s2, t2, c2, k2, m2⟩ ⟨s2, t2, c2, k2, m2⟩ (ofC (next + back)) next be2.out ok2.out hl2.out ho2.out _))))
          refine wpQuiet_nil ?_
          refine ⟨(all_cons rfl all_nil), ?_⟩
          repeat (go_big_quiet_step (first | (go_at_call 37; exact Calls.nearX hX (by simp) (radd_any next _ _)) | (go_at_call 32; exact Calls.nearX hX (by simp) (lost_at ⟨s2, t2, c2, k2, m2⟩ ⟨s2, t2, c2, k2, m2⟩ (ofC (next + back)) next be2.out ok2.out hl2.out ho2.out _))))
          refine wpQuiet_nil ?_
          exact rfl
        intro fb w8 hb8 hfr hne
        have z8 := hb8.size; try simp only [World.size_alloc, World.size_setCell, World.size_drew] at z8
        obtain ⟨le8_0, bx8_0⟩ := hfr _ (List.getElem_mem (n := 0) (by simp))
        clear hfr hne
        simp only [List.getElem_cons_zero, List.getElem_cons_succ, putAll, Act.put, List.setIfInBounds_toArray, List.set_cons_zero, List.set_cons_succ] at le8_0 bx8_0 ⊢
        generalize fb 10 = p8_0 at *
        simp only [Value.cells] at bx8_0; try simp only [World.size_alloc, World.size_setCell, World.size_drew] at le8_0
        have lt8_0 := bx8_0.lt
        obtain ⟨c8, f8⟩ := Below.blk hb8 (b := w6.heap.size) (by first | (simp; done) | omega | (simp; omega))
        obtain ⟨c8', f8'⟩ := Below.blk hb8 (b := p7_0) (by first | (simp; done) | omega | (simp; omega))
        have z86 : w6.heap.size < w8.heap.size := by omega
        have z87 : p7_0 < w8.heap.size := by omega
        obtain ⟨_, cb8, fb8⟩ := bx8_0
        go_wp2_with fail
        refine wp_region_near (by kernel_rfl) (by kernel_rfl) ?_
        intro hs
        repeat (go_big_quiet_step ((first | (go_at_call 28; exact Calls.near (by simp) (size_at ⟨s2, t2, c2, k2, m2⟩ be2.out _)) | (go_at_call 28; exact Calls.near (by simp) (size_at ⟨max (s2 / 2) 2, max (s2 / 2) 2, 0, true, ofC next⟩ be3.out _)) | (go_at_call 38; exact Calls.near (by simp) (alike_any s2 t2 c2 k2 m2 ok2.out _)))))
        refine wpQuiet_nil ?_
        clear hs
        intro w9 hb9
        go_wp2_with fail
        go_ret
        exact Ret.mk rfl (by repeat (first | with_reducible exact Below.refl _ _ | (with_reducible refine Below.al ?_) | (with_reducible refine Below.drew ?_) | (with_reducible refine Below.set ?_ (by first | (simp; done) | omega | (simp; omega))) | (with_reducible refine Below.thru ?_ (by assumption)) | (with_reducible refine Below.chg ?_ (by assumption) (by first | (simp; done) | omega | (simp; omega)))))
end Go.Proofs.Ythodfihdmhkgeaa.Cwnd
