/- The walk of the statement CwndDoes. -/
import Derived.Test.YthodfihdmhkgeaaCwndRef
namespace Go.Proofs.Ythodfihdmhkgeaa.Cwnd
set_option linter.unusedSimpArgs false
set_option linter.unusedVariables false
open Go Go.RowKit Go.Proofs.Ythodfihdmhkgeaa Go.Proofs.Ythodfihdmhkgeaa.Circ
attribute [local irreducible] Calls

section
variable {s t c m : Int} {k : Bool} {s' t' c' m' : Int} {k' : Bool}
theorem size_at (x : Win) (h : x.beg = ⟨s, t, c, k, m⟩) (w : World) : Calls Try.prog 28 #[.agg #[.int .i64 x.s, .int .i64 x.t, .int .i64 x.c, .bool x.k, .int .i64 x.m]] w (Ret w (.int .i64 s)) := by
  have := size_any x w; rw [h] at this; exact this
theorem thr_at (x : Win) (h : x.beg = ⟨s, t, c, k, m⟩) (w : World) : Calls Try.prog 29 #[.agg #[.int .i64 x.s, .int .i64 x.t, .int .i64 x.c, .bool x.k, .int .i64 x.m]] w (Ret w (.int .i64 t)) := by
  have := thr_any x w; rw [h] at this; exact this
theorem acked_at (x y : Win) (many : Int) (full : Bool) (hy : x.beg = y) (hok : y.Ok) (h : y.acked many full = ⟨s, t, c, k, m⟩) (w : World) :
    Calls Try.prog 30 #[.agg #[.int .i64 x.s, .int .i64 x.t, .int .i64 x.c, .bool x.k, .int .i64 x.m], .int .i64 many, .bool full] w (Ret w (.agg #[.int .i64 s, .int .i64 t, .int .i64 c, .bool k, .int .i64 m])) := by
  have := acked_any x y many full hy hok w; rw [h] at this; exact this
theorem racked_at (y : Win) (many : Int) (full : Bool) (hok : y.Ok) (h : y.acked many full = ⟨s, t, c, k, m⟩) (w : World) :
    Calls Try.prog 31 #[.agg #[.int .i64 y.s, .int .i64 y.t, .int .i64 y.c, .bool y.k, .int .i64 y.m], .int .i64 many, .bool full] w (Ret w (.agg #[.int .i64 s, .int .i64 t, .int .i64 c, .bool k, .int .i64 m])) := by
  have := racked_any y many full hok w; rw [h] at this; exact this
theorem lost_at (x y : Win) (seq next : Int) (hy : x.beg = y) (hok : y.Ok) {b : Bool} (h : y.lost seq next = ⟨s, t, c, k, m⟩) (hb : (!y.old seq) = b) (w : World) :
    Calls Try.prog 32 #[.agg #[.int .i64 x.s, .int .i64 x.t, .int .i64 x.c, .bool x.k, .int .i64 x.m], .int .i64 seq, .int .i64 next] w (Ret w (.tuple #[.agg #[.int .i64 s, .int .i64 t, .int .i64 c, .bool k, .int .i64 m], .bool b])) := by
  have := lost_any x y seq next hy hok w; rw [h, hb] at this; exact this
theorem rlost_at (y : Win) (seq next : Int) (hok : y.Ok) {b : Bool} (h : y.lost seq next = ⟨s, t, c, k, m⟩) (hb : (!y.old seq) = b) (w : World) :
    Calls Try.prog 33 #[.agg #[.int .i64 y.s, .int .i64 y.t, .int .i64 y.c, .bool y.k, .int .i64 y.m], .int .i64 seq, .int .i64 next] w (Ret w (.tuple #[.agg #[.int .i64 s, .int .i64 t, .int .i64 c, .bool k, .int .i64 m], .bool b])) := by
  have := rlost_any y seq next hok w; rw [h, hb] at this; exact this
theorem late_at (x y : Win) (next : Int) (hy : x.beg = y) (hok : y.Ok) (h : y.late next = ⟨s, t, c, k, m⟩) (w : World) :
    Calls Try.prog 34 #[.agg #[.int .i64 x.s, .int .i64 x.t, .int .i64 x.c, .bool x.k, .int .i64 x.m], .int .i64 next] w (Ret w (.agg #[.int .i64 s, .int .i64 t, .int .i64 c, .bool k, .int .i64 m])) := by
  have := late_any x y next hy hok w
  injection h with h1 h2 h3 h4 h5
  subst h1 h2 h3 h4 h5
  exact this
theorem rlate_at (y : Win) (next : Int) (hok : y.Ok) (h : y.late next = ⟨s, t, c, k, m⟩) (w : World) :
    Calls Try.prog 35 #[.agg #[.int .i64 y.s, .int .i64 y.t, .int .i64 y.c, .bool y.k, .int .i64 y.m], .int .i64 next] w (Ret w (.agg #[.int .i64 s, .int .i64 t, .int .i64 c, .bool k, .int .i64 m])) := by
  obtain ⟨h1, h2, _⟩ := id hok
  have := rlate_any y.s y.t y.c y.k y.m next (by omega) h2 w
  injection h with h1 h2 h3 h4 h5
  subst h1 h2 h3 h4 h5
  exact this
end

theorem beg_new : Win.beg ⟨3, 16, 0, false, 0⟩ = ⟨3, 16, 0, false, 0⟩ := by kernel_rfl
theorem ok_new : Win.Ok ⟨3, 16, 0, false, 0⟩ := Win.new_ok
set_option maxHeartbeats 800000 in
theorem works_law (w : World) : Calls Try.prog 26 #[] w (Ret w (.bool true)) := by
  have e1 : Win.acked ⟨3, 16, 0, false, 0⟩ 2 true = ⟨5, 16, 0, false, 0⟩ := by kernel_rfl
  have b1 : Win.beg ⟨5, 16, 0, false, 0⟩ = ⟨5, 16, 0, false, 0⟩ := by kernel_rfl
  have o1 : Win.Ok ⟨5, 16, 0, false, 0⟩ := by unfold Win.Ok; decide
  have e2 : Win.lost ⟨5, 16, 0, false, 0⟩ 9 12 = ⟨2, 2, 0, true, 12⟩ := by kernel_rfl
  have e3 : (!Win.old ⟨5, 16, 0, false, 0⟩ 9) = true := by decide +kernel
  have b2 : Win.beg ⟨2, 2, 0, true, 12⟩ = ⟨2, 2, 0, true, 12⟩ := by kernel_rfl
  have o2 : Win.Ok ⟨2, 2, 0, true, 12⟩ := by unfold Win.Ok; decide
  have e4 : Win.late ⟨2, 2, 0, true, 12⟩ 13 = ⟨1, 2, 0, true, 13⟩ := by kernel_rfl
  have b3 : Win.beg ⟨1, 2, 0, true, 13⟩ = ⟨1, 2, 0, true, 13⟩ := by kernel_rfl
  have b0 := beg_new
  have o0 := ok_new
  replace e1 := Lib.hid e1; replace b1 := Lib.hid b1; replace o1 := Lib.hid o1; replace e2 := Lib.hid e2; replace e3 := Lib.hid e3; replace b2 := Lib.hid b2; replace o2 := Lib.hid o2; replace e4 := Lib.hid e4; replace b3 := Lib.hid b3; replace b0 := Lib.hid b0; replace o0 := Lib.hid o0
  go_enter Try.func26, Try.ntmps26
  go_wp2_with fail
  refine Calls.mono (new_any _) ?_
  rintro e w1 ⟨rfl, hb1⟩
  have z1 := Below.size hb1; try simp only [World.size_alloc, World.size_setCell, World.size_drew] at z1
  go_wp2_with fail
  refine Calls.mono (acked_at ⟨3, 16, 0, false, 0⟩ ⟨3, 16, 0, false, 0⟩ 2 true b0.out o0.out e1.out _) ?_
  rintro e w2 ⟨rfl, hb2⟩
  have z2 := Below.size hb2; try simp only [World.size_alloc, World.size_setCell, World.size_drew] at z2
  go_wp2_with fail
  refine Calls.mono (lost_at ⟨5, 16, 0, false, 0⟩ ⟨5, 16, 0, false, 0⟩ 9 12 b1.out o1.out e2.out e3.out _) ?_
  rintro e w3 ⟨rfl, hb3⟩
  have z3 := Below.size hb3; try simp only [World.size_alloc, World.size_setCell, World.size_drew] at z3
  obtain ⟨c3_0, f3_0⟩ := Below.blk hb3 (b := w2.heap.size) (by first | (simp; done) | omega | (simp; omega))
  have z3_0 : w2.heap.size < w3.heap.size := (by first | (simp; done) | omega | (simp; omega))
  go_wp2_with fail
  refine Calls.mono (size_at ⟨5, 16, 0, false, 0⟩ b1.out _) ?_
  rintro e w4 ⟨rfl, hb4⟩
  have z4 := Below.size hb4; try simp only [World.size_alloc, World.size_setCell, World.size_drew] at z4
  obtain ⟨c4_0, f4_0⟩ := Below.blk hb4 (b := w3.heap.size) (by first | (simp; done) | omega | (simp; omega))
  have z4_0 : w3.heap.size < w4.heap.size := (by first | (simp; done) | omega | (simp; omega))
  go_wp2_with fail
  refine Calls.mono (size_at ⟨2, 2, 0, true, 12⟩ b2.out _) ?_
  rintro e w5 ⟨rfl, hb5⟩
  have z5 := Below.size hb5; try simp only [World.size_alloc, World.size_setCell, World.size_drew] at z5
  obtain ⟨c5_0, f5_0⟩ := Below.blk hb5 (b := w3.heap.size) (by first | (simp; done) | omega | (simp; omega))
  have z5_0 : w3.heap.size < w5.heap.size := (by first | (simp; done) | omega | (simp; omega))
  go_wp2_with fail
  refine Calls.mono (thr_at ⟨2, 2, 0, true, 12⟩ b2.out _) ?_
  rintro e w6 ⟨rfl, hb6⟩
  have z6 := Below.size hb6; try simp only [World.size_alloc, World.size_setCell, World.size_drew] at z6
  obtain ⟨c6_0, f6_0⟩ := Below.blk hb6 (b := w3.heap.size) (by first | (simp; done) | omega | (simp; omega))
  have z6_0 : w3.heap.size < w6.heap.size := (by first | (simp; done) | omega | (simp; omega))
  go_wp2_with fail
  refine Calls.mono (late_at ⟨2, 2, 0, true, 12⟩ ⟨2, 2, 0, true, 12⟩ 13 b2.out o2.out e4.out _) ?_
  rintro e w7 ⟨rfl, hb7⟩
  have z7 := Below.size hb7; try simp only [World.size_alloc, World.size_setCell, World.size_drew] at z7
  go_wp2_with fail
  refine Calls.mono (size_at ⟨1, 2, 0, true, 13⟩ b3.out _) ?_
  rintro e w8 ⟨rfl, hb8⟩
  have z8 := Below.size hb8; try simp only [World.size_alloc, World.size_setCell, World.size_drew] at z8
  go_wp2_with fail
  go_ret
  exact Ret.mk rfl (by repeat (first | with_reducible exact Below.refl _ _ | (with_reducible refine Below.al ?_) | (with_reducible refine Below.drew ?_) | (with_reducible refine Below.set ?_ (by first | (simp; done) | omega | (simp; omega))) | (with_reducible refine Below.thru ?_ (by assumption)) | (with_reducible refine Below.chg ?_ (by assumption) (by first | (simp; done) | omega | (simp; omega)))))

/-- What is done: kind, many, seq, next, full. -/
abbrev COp := Int × Int × Int × Int × Bool
def encO (o : COp) : List Value := [.int .i64 o.1, .int .i64 o.2.1, .int .i64 o.2.2.1, .int .i64 o.2.2.2.1, .bool o.2.2.2.2]
theorem ops_in {w : World} {a : Option Addr} {len cap : Nat} (h : Fits w (.slice 5 (.cons 1 (.int .i64) (.cons 1 (.int .i64) (.cons 1 (.int .i64) (.cons 1 (.int .i64) (.cons 1 .bool .nil)))))) [.slice a len cap]) :
    len ≤ maxLen ∧ (a = none → len = 0) ∧ ∃ l : List COp, l.length = len ∧ (∀ x ∈ l, True) ∧ Rd w a (l.flatMap encO) :=
  rows_in (size := 5) (good := fun _ => True) encO (by omega) (fun _ => rfl) (fun cs hf _ => by
    obtain ⟨_, _, rfl, f0, r0⟩ := fits_cons1 hf
    obtain ⟨_, _, rfl, f1, r1⟩ := fits_cons1 r0
    obtain ⟨_, _, rfl, f2, r2⟩ := fits_cons1 r1
    obtain ⟨_, _, rfl, f3, r3⟩ := fits_cons1 r2
    obtain ⟨_, _, rfl, f4, r4⟩ := fits_cons1 r3
    obtain ⟨n0, rfl, _⟩ := fits_int f0
    obtain ⟨n1, rfl, _⟩ := fits_int f1
    obtain ⟨n2, rfl, _⟩ := fits_int f2
    obtain ⟨n3, rfl, _⟩ := fits_int f3
    obtain ⟨b, rfl⟩ := fits_bool f4
    obtain rfl : _ = [] := r4
    exact ⟨(n0, n1, n2, n3, b), rfl, trivial⟩) h
theorem ops_at {w : World} {a : Option Addr} {l : List COp} (h : Rd w a (l.flatMap encO)) {n : Nat} (hn : l.length = n) (h0 : 0 < n) :
    ∃ b off, a = some ⟨b, off, none⟩ ∧ b < w.heap.size ∧ ∀ i (hi : i < l.length), w.cell? ⟨b, off + i * 5, none⟩ = some (.int .i64 l[i].1) ∧ w.cell? ⟨b, off + i * 5 + 1, none⟩ = some (.int .i64 l[i].2.1) ∧
      w.cell? ⟨b, off + i * 5 + 2, none⟩ = some (.int .i64 l[i].2.2.1) ∧ w.cell? ⟨b, off + i * 5 + 3, none⟩ = some (.int .i64 l[i].2.2.2.1) ∧ w.cell? ⟨b, off + i * 5 + 4, none⟩ = some (.bool l[i].2.2.2.2) := by
  obtain ⟨b, off, e, hb, hc⟩ := Rd.rows (enc := encO) (size := 5) (fun _ => rfl) (by omega) h hn h0
  exact ⟨b, off, e, hb, fun i hi => ⟨hc i hi 0 _ rfl, hc i hi 1 _ rfl, hc i hi 2 _ rfl, hc i hi 3 _ rfl, hc i hi 4 _ rfl⟩⟩

set_option maxRecDepth 100000 in
set_option maxHeartbeats 2000000 in
theorem does_walk (a : Option Addr) (n cap : Nat) (w : World) (h0 : Fits w (.slice 5 (.cons 1 (.int .i64) (.cons 1 (.int .i64) (.cons 1 (.int .i64) (.cons 1 (.int .i64) (.cons 1 .bool .nil)))))) [.slice a n cap]) :
    Calls Try.prog 5 #[.slice a n cap] w (Ret w (.bool true)) := by
  obtain ⟨hn, _, l, hl, _, hL⟩ := ops_in h0
  unfold maxLen at hn
  clear h0
  have b0 := beg_new
  have o0 := ok_new
  replace hl := Lib.hid hl; replace hL := Lib.hid hL; replace b0 := Lib.hid b0; replace o0 := Lib.hid o0
  go_enter Try.func5, Try.ntmps5
  go_wp2_with fail
  refine Calls.mono (works_law _) ?_
  rintro e w1 ⟨rfl, hb1⟩
  have z1 := Below.size hb1; try simp only [World.size_alloc, World.size_setCell, World.size_drew] at z1
  by_cases h300 : 300 < n
  · have q : decide ((300 : Int) < n) = true := decide_eq_true (by omega)
    go_wp2_with fail
    go_ret
    exact Ret.mk rfl (by repeat (first | with_reducible exact Below.refl _ _ | (with_reducible refine Below.al ?_) | (with_reducible refine Below.drew ?_) | (with_reducible refine Below.set ?_ (by first | (simp; done) | omega | (simp; omega))) | (with_reducible refine Below.thru ?_ (by assumption)) | (with_reducible refine Below.chg ?_ (by assumption) (by first | (simp; done) | omega | (simp; omega)))))
  · have q : decide ((300 : Int) < n) = false := decide_eq_false (by omega)
    go_wp2_with fail
    refine Calls.mono (rnew_any _) ?_
    rintro e w2 ⟨rfl, hb2⟩
    have z2 := Below.size hb2; try simp only [World.size_alloc, World.size_setCell, World.size_drew] at z2
    obtain ⟨c2_0, f2_0⟩ := Below.blk hb2 (b := w1.heap.size) (by first | (simp; done) | omega | (simp; omega))
    have z2_0 : w1.heap.size < w2.heap.size := (by first | (simp; done) | omega | (simp; omega))
    go_wp2_with fail
    go_loopg [5, 6, 7, 8, 9, 10] n (fun g i _ _ _ _ _ wr => ∃ (j : Nat) (x y : Win), j ≤ n ∧ g = n - j ∧ i = .int .i64 j ∧ Hid (x.beg = y) ∧ Hid y.Ok ∧ Below w.heap.size w wr ∧ Box wr w1.heap.size [.int .i64 x.s, .int .i64 x.t, .int .i64 x.c, .bool x.k, .int .i64 x.m] ∧ Box wr w2.heap.size [.int .i64 y.s, .int .i64 y.t, .int .i64 y.c, .bool y.k, .int .i64 y.m])
    case atStart =>
      refine ⟨0, ⟨0, 0, 0, false, 0⟩, ⟨3, 16, 0, false, 0⟩, by omega, by omega, rfl, (show Hid (Win.beg ⟨0, 0, 0, false, 0⟩ = ⟨3, 16, 0, false, 0⟩) from rfl), o0, (by repeat (first | with_reducible exact Below.refl _ _ | (with_reducible refine Below.al ?_) | (with_reducible refine Below.drew ?_) | (with_reducible refine Below.set ?_ (by first | (simp; done) | omega | (simp; omega))) | (with_reducible refine Below.thru ?_ (by assumption)) | (with_reducible refine Below.chg ?_ (by assumption) (by first | (simp; done) | omega | (simp; omega))))), ?_, ?_⟩
      · simp only
        exact (by (try rw [show ((0 : Nat) : Int) = 0 from rfl]); repeat (first | fail | (with_reducible refine Box.below ?_ (by assumption)) | (with_reducible refine Box.drew ?_) | (with_reducible refine Box.new_at (by first | rfl | (simp; done) | omega)) | (with_reducible refine Box.al ?_) | (with_reducible apply Box.set0) | (with_reducible apply Box.set1) | (with_reducible apply Box.set2) | (with_reducible apply Box.set3) | (with_reducible apply Box.set4) | (with_reducible apply Box.set5) | (with_reducible apply Box.set6) | (with_reducible apply Box.set7) | (with_reducible apply Box.set8) | (with_reducible refine Box.oth ?_ (by first | (simp; done) | omega | (simp; omega))) | (with_reducible refine Box.chg ?_ (by assumption) (by first | (simp; done) | omega | (simp; omega)))))
      · simp only
        exact (by (try rw [show ((0 : Nat) : Int) = 0 from rfl]); repeat (first | fail | (with_reducible refine Box.below ?_ (by assumption)) | (with_reducible refine Box.drew ?_) | (with_reducible refine Box.new_at (by first | rfl | (simp; done) | omega)) | (with_reducible refine Box.al ?_) | (with_reducible apply Box.set0) | (with_reducible apply Box.set1) | (with_reducible apply Box.set2) | (with_reducible apply Box.set3) | (with_reducible apply Box.set4) | (with_reducible apply Box.set5) | (with_reducible apply Box.set6) | (with_reducible apply Box.set7) | (with_reducible apply Box.set8) | (with_reducible refine Box.oth ?_ (by first | (simp; done) | omega | (simp; omega))) | (with_reducible refine Box.chg ?_ (by assumption) (by first | (simp; done) | omega | (simp; omega)))))
    case round =>
      obtain ⟨j, ⟨s0, t0, c0, k0, m0⟩, ⟨s, t, c, k, m⟩, hj, hg, rfl, hy, hok, hbw, hA, hB⟩ := hrel
      have HA := Lib.hid hA
      have HB := Lib.hid hB
      obtain ⟨zA, cA, fA⟩ := hA
      obtain ⟨zB, cB, fB⟩ := hB
      have zw := hbw.size
      by_cases hlt : j < n
      · have hjl : j < l.length := by have := hl.out; omega
        obtain ⟨b, off, rfl, hb, hc⟩ := ops_at (hL.out.below hbw) hl.out (by omega)
        obtain ⟨e0, e1, e2, e3, e4⟩ := hc j hjl
        clear hc
        generalize l[j] = o at *
        obtain ⟨kind, many, seq, next, full⟩ := o
        simp only at e0 e1 e2 e3 e4
        go_wp2_with fail
        refine wp_region_near (by kernel_rfl) (by kernel_rfl) ?_
        intro hs
        repeat (go_big_quiet_step ((first | (go_at_call 28; exact Calls.near (by simp) (size_at ⟨s0, t0, c0, k0, m0⟩ hy.out _)) | (go_at_call 29; exact Calls.near (by simp) (thr_at ⟨s0, t0, c0, k0, m0⟩ hy.out _)))))
        refine wpQuiet_nil ?_
        clear hs
        intro w3 hb3
        have z3 := Below.size hb3; try simp only [World.size_alloc, World.size_setCell, World.size_drew] at z3
        have HA3 : Box w3 w1.heap.size [.int .i64 s0, .int .i64 t0, .int .i64 c0, .bool k0, .int .i64 m0] := (by (try rw [show ((0 : Nat) : Int) = 0 from rfl]); repeat (first | (with_reducible exact Hid.out HA) | (with_reducible refine Box.below ?_ (by assumption)) | (with_reducible refine Box.drew ?_) | (with_reducible refine Box.new_at (by first | rfl | (simp; done) | omega)) | (with_reducible refine Box.al ?_) | (with_reducible apply Box.set0) | (with_reducible apply Box.set1) | (with_reducible apply Box.set2) | (with_reducible apply Box.set3) | (with_reducible apply Box.set4) | (with_reducible apply Box.set5) | (with_reducible apply Box.set6) | (with_reducible apply Box.set7) | (with_reducible apply Box.set8) | (with_reducible refine Box.oth ?_ (by first | (simp; done) | omega | (simp; omega))) | (with_reducible refine Box.chg ?_ (by assumption) (by first | (simp; done) | omega | (simp; omega)))))
        have HB3 : Box w3 w2.heap.size [.int .i64 s, .int .i64 t, .int .i64 c, .bool k, .int .i64 m] := (by (try rw [show ((0 : Nat) : Int) = 0 from rfl]); repeat (first | (with_reducible exact Hid.out HB) | (with_reducible refine Box.below ?_ (by assumption)) | (with_reducible refine Box.drew ?_) | (with_reducible refine Box.new_at (by first | rfl | (simp; done) | omega)) | (with_reducible refine Box.al ?_) | (with_reducible apply Box.set0) | (with_reducible apply Box.set1) | (with_reducible apply Box.set2) | (with_reducible apply Box.set3) | (with_reducible apply Box.set4) | (with_reducible apply Box.set5) | (with_reducible apply Box.set6) | (with_reducible apply Box.set7) | (with_reducible apply Box.set8) | (with_reducible refine Box.oth ?_ (by first | (simp; done) | omega | (simp; omega))) | (with_reducible refine Box.chg ?_ (by assumption) (by first | (simp; done) | omega | (simp; omega)))))
        have HO3 : Box w3 wr.heap.size [.int .i64 kind, .int .i64 many, .int .i64 seq, .int .i64 next, .bool full] := (by (try rw [show ((0 : Nat) : Int) = 0 from rfl]); repeat (first | fail | (with_reducible refine Box.below ?_ (by assumption)) | (with_reducible refine Box.drew ?_) | (with_reducible refine Box.new_at (by first | rfl | (simp; done) | omega)) | (with_reducible refine Box.al ?_) | (with_reducible apply Box.set0) | (with_reducible apply Box.set1) | (with_reducible apply Box.set2) | (with_reducible apply Box.set3) | (with_reducible apply Box.set4) | (with_reducible apply Box.set5) | (with_reducible apply Box.set6) | (with_reducible apply Box.set7) | (with_reducible apply Box.set8) | (with_reducible refine Box.oth ?_ (by first | (simp; done) | omega | (simp; omega))) | (with_reducible refine Box.chg ?_ (by assumption) (by first | (simp; done) | omega | (simp; omega)))))
        have hbw3 : Below w.heap.size w w3 := (by repeat (first | with_reducible exact Below.refl _ _ | (with_reducible refine Below.al ?_) | (with_reducible refine Below.drew ?_) | (with_reducible refine Below.set ?_ (by first | (simp; done) | omega | (simp; omega))) | (with_reducible refine Below.thru ?_ (by assumption)) | (with_reducible refine Below.chg ?_ (by assumption) (by first | (simp; done) | omega | (simp; omega)))))
        clear hb3 hbw cA cB fA fB e0 e1 e2 e3 e4
        obtain ⟨zA3, cA3, fA3⟩ := id HA3
        obtain ⟨zB3, cB3, fB3⟩ := id HB3
        obtain ⟨zO3, cO3, fO3⟩ := id HO3
        have HAB : ¬ w1.heap.size = w2.heap.size := by omega
        have HAO : ¬ w1.heap.size = wr.heap.size := by omega
        have HBO : ¬ w2.heap.size = wr.heap.size := by omega
        replace HA3 := Lib.hid HA3; replace HB3 := Lib.hid HB3; replace HO3 := Lib.hid HO3
        by_cases k01 : kind = 0 ∨ kind = 1
        · have hok2 := hok.out.acked many full
          have hb2' := hok2.beg
          generalize hz : Win.acked ⟨s, t, c, k, m⟩ many full = z at *
          obtain ⟨s2, t2, c2, k2, m2⟩ := z
          replace hok2 := Lib.hid hok2; replace hb2' := Lib.hid hb2'; replace hz := Lib.hid hz
          rcases k01 with rfl | rfl
          all_goals
            go_wp2_with fail
            refine Calls.mono (acked_at ⟨s0, t0, c0, k0, m0⟩ ⟨s, t, c, k, m⟩ many full hy.out hok.out hz.out _) ?_
            rintro e w4 ⟨rfl, hb4⟩
            have z4 := Below.size hb4; try simp only [World.size_alloc, World.size_setCell, World.size_drew] at z4
            obtain ⟨c4_0, f4_0⟩ := Below.blk hb4 (b := w1.heap.size) (by first | (simp; done) | omega | (simp; omega))
            have z4_0 : w1.heap.size < w4.heap.size := (by first | (simp; done) | omega | (simp; omega))
            obtain ⟨c4_1, f4_1⟩ := Below.blk hb4 (b := w2.heap.size) (by first | (simp; done) | omega | (simp; omega))
            have z4_1 : w2.heap.size < w4.heap.size := (by first | (simp; done) | omega | (simp; omega))
            obtain ⟨c4_2, f4_2⟩ := Below.blk hb4 (b := wr.heap.size) (by first | (simp; done) | omega | (simp; omega))
            have z4_2 : wr.heap.size < w4.heap.size := (by first | (simp; done) | omega | (simp; omega))
            go_wp2_with fail
            refine Calls.mono (racked_at ⟨s, t, c, k, m⟩ many full hok.out hz.out _) ?_
            rintro e w5 ⟨rfl, hb5⟩
            have z5 := Below.size hb5; try simp only [World.size_alloc, World.size_setCell, World.size_drew] at z5
            obtain ⟨c5_0, f5_0⟩ := Below.blk hb5 (b := w1.heap.size) (by first | (simp; done) | omega | (simp; omega))
            have z5_0 : w1.heap.size < w5.heap.size := (by first | (simp; done) | omega | (simp; omega))
            obtain ⟨c5_1, f5_1⟩ := Below.blk hb5 (b := w2.heap.size) (by first | (simp; done) | omega | (simp; omega))
            have z5_1 : w2.heap.size < w5.heap.size := (by first | (simp; done) | omega | (simp; omega))
            obtain ⟨c5_2, f5_2⟩ := Below.blk hb5 (b := wr.heap.size) (by first | (simp; done) | omega | (simp; omega))
            have z5_2 : wr.heap.size < w5.heap.size := (by first | (simp; done) | omega | (simp; omega))
            go_wp2_with fail
            go_roundg (n - (j + 1))
            case measure => omega
            case rel => exact ⟨j + 1, ⟨s2, t2, c2, k2, m2⟩, ⟨s2, t2, c2, k2, m2⟩, by omega, rfl, by go_num, hb2'.out, hok2.out, (by repeat (first | with_reducible exact Below.refl _ _ | (with_reducible refine Below.al ?_) | (with_reducible refine Below.drew ?_) | (with_reducible refine Below.set ?_ (by first | (simp; done) | omega | (simp; omega))) | (with_reducible refine Below.thru ?_ (by assumption)) | (with_reducible refine Below.chg ?_ (by assumption) (by first | (simp; done) | omega | (simp; omega))))), (by (try rw [show ((0 : Nat) : Int) = 0 from rfl]); repeat (first | (with_reducible exact Hid.out HA3) | (with_reducible refine Box.below ?_ (by assumption)) | (with_reducible refine Box.drew ?_) | (with_reducible refine Box.new_at (by first | rfl | (simp; done) | omega)) | (with_reducible refine Box.al ?_) | (with_reducible apply Box.set0) | (with_reducible apply Box.set1) | (with_reducible apply Box.set2) | (with_reducible apply Box.set3) | (with_reducible apply Box.set4) | (with_reducible apply Box.set5) | (with_reducible apply Box.set6) | (with_reducible apply Box.set7) | (with_reducible apply Box.set8) | (with_reducible refine Box.oth ?_ (by first | (simp; done) | omega | (simp; omega))) | (with_reducible refine Box.chg ?_ (by assumption) (by first | (simp; done) | omega | (simp; omega))))), (by (try rw [show ((0 : Nat) : Int) = 0 from rfl]); repeat (first | (with_reducible exact Hid.out HB3) | (with_reducible refine Box.below ?_ (by assumption)) | (with_reducible refine Box.drew ?_) | (with_reducible refine Box.new_at (by first | rfl | (simp; done) | omega)) | (with_reducible refine Box.al ?_) | (with_reducible apply Box.set0) | (with_reducible apply Box.set1) | (with_reducible apply Box.set2) | (with_reducible apply Box.set3) | (with_reducible apply Box.set4) | (with_reducible apply Box.set5) | (with_reducible apply Box.set6) | (with_reducible apply Box.set7) | (with_reducible apply Box.set8) | (with_reducible refine Box.oth ?_ (by first | (simp; done) | omega | (simp; omega))) | (with_reducible refine Box.chg ?_ (by assumption) (by first | (simp; done) | omega | (simp; omega)))))⟩
        · by_cases k2 : kind = 2
          · subst k2
            clear k01
            have hok2 := hok.out.lost seq next
            have hb2' := hok2.beg
            generalize hz : Win.lost ⟨s, t, c, k, m⟩ seq next = z at *
            generalize hzb : (!Win.old ⟨s, t, c, k, m⟩ seq) = zb
            obtain ⟨s2, t2, c2, k2, m2⟩ := z
            replace hok2 := Lib.hid hok2; replace hb2' := Lib.hid hb2'; replace hz := Lib.hid hz; replace hzb := Lib.hid hzb
            go_wp2_with fail
            refine Calls.mono (lost_at ⟨s0, t0, c0, k0, m0⟩ ⟨s, t, c, k, m⟩ seq next hy.out hok.out hz.out hzb.out _) ?_
            rintro e w4 ⟨rfl, hb4⟩
            have z4 := Below.size hb4; try simp only [World.size_alloc, World.size_setCell, World.size_drew] at z4
            obtain ⟨c4_0, f4_0⟩ := Below.blk hb4 (b := w1.heap.size) (by first | (simp; done) | omega | (simp; omega))
            have z4_0 : w1.heap.size < w4.heap.size := (by first | (simp; done) | omega | (simp; omega))
            obtain ⟨c4_1, f4_1⟩ := Below.blk hb4 (b := w2.heap.size) (by first | (simp; done) | omega | (simp; omega))
            have z4_1 : w2.heap.size < w4.heap.size := (by first | (simp; done) | omega | (simp; omega))
            obtain ⟨c4_2, f4_2⟩ := Below.blk hb4 (b := wr.heap.size) (by first | (simp; done) | omega | (simp; omega))
            have z4_2 : wr.heap.size < w4.heap.size := (by first | (simp; done) | omega | (simp; omega))
            go_wp2_with fail
            refine Calls.mono (rlost_at ⟨s, t, c, k, m⟩ seq next hok.out hz.out hzb.out _) ?_
            rintro e w5 ⟨rfl, hb5⟩
            have z5 := Below.size hb5; try simp only [World.size_alloc, World.size_setCell, World.size_drew] at z5
            obtain ⟨c5_0, f5_0⟩ := Below.blk hb5 (b := w1.heap.size) (by first | (simp; done) | omega | (simp; omega))
            have z5_0 : w1.heap.size < w5.heap.size := (by first | (simp; done) | omega | (simp; omega))
            obtain ⟨c5_1, f5_1⟩ := Below.blk hb5 (b := w2.heap.size) (by first | (simp; done) | omega | (simp; omega))
            have z5_1 : w2.heap.size < w5.heap.size := (by first | (simp; done) | omega | (simp; omega))
            obtain ⟨c5_2, f5_2⟩ := Below.blk hb5 (b := wr.heap.size) (by first | (simp; done) | omega | (simp; omega))
            have z5_2 : wr.heap.size < w5.heap.size := (by first | (simp; done) | omega | (simp; omega))
            obtain ⟨c5_3, f5_3⟩ := Below.blk hb5 (b := w4.heap.size) (by first | (simp; done) | omega | (simp; omega))
            have z5_3 : w4.heap.size < w5.heap.size := (by first | (simp; done) | omega | (simp; omega))
            go_wp2_with fail
            go_roundg (n - (j + 1))
            case measure => omega
            case rel => exact ⟨j + 1, ⟨s2, t2, c2, k2, m2⟩, ⟨s2, t2, c2, k2, m2⟩, by omega, rfl, by go_num, hb2'.out, hok2.out, (by repeat (first | with_reducible exact Below.refl _ _ | (with_reducible refine Below.al ?_) | (with_reducible refine Below.drew ?_) | (with_reducible refine Below.set ?_ (by first | (simp; done) | omega | (simp; omega))) | (with_reducible refine Below.thru ?_ (by assumption)) | (with_reducible refine Below.chg ?_ (by assumption) (by first | (simp; done) | omega | (simp; omega))))), (by (try rw [show ((0 : Nat) : Int) = 0 from rfl]); repeat (first | (with_reducible exact Hid.out HA3) | (with_reducible refine Box.below ?_ (by assumption)) | (with_reducible refine Box.drew ?_) | (with_reducible refine Box.new_at (by first | rfl | (simp; done) | omega)) | (with_reducible refine Box.al ?_) | (with_reducible apply Box.set0) | (with_reducible apply Box.set1) | (with_reducible apply Box.set2) | (with_reducible apply Box.set3) | (with_reducible apply Box.set4) | (with_reducible apply Box.set5) | (with_reducible apply Box.set6) | (with_reducible apply Box.set7) | (with_reducible apply Box.set8) | (with_reducible refine Box.oth ?_ (by first | (simp; done) | omega | (simp; omega))) | (with_reducible refine Box.chg ?_ (by assumption) (by first | (simp; done) | omega | (simp; omega))))), (by (try rw [show ((0 : Nat) : Int) = 0 from rfl]); repeat (first | (with_reducible exact Hid.out HB3) | (with_reducible refine Box.below ?_ (by assumption)) | (with_reducible refine Box.drew ?_) | (with_reducible refine Box.new_at (by first | rfl | (simp; done) | omega)) | (with_reducible refine Box.al ?_) | (with_reducible apply Box.set0) | (with_reducible apply Box.set1) | (with_reducible apply Box.set2) | (with_reducible apply Box.set3) | (with_reducible apply Box.set4) | (with_reducible apply Box.set5) | (with_reducible apply Box.set6) | (with_reducible apply Box.set7) | (with_reducible apply Box.set8) | (with_reducible refine Box.oth ?_ (by first | (simp; done) | omega | (simp; omega))) | (with_reducible refine Box.chg ?_ (by assumption) (by first | (simp; done) | omega | (simp; omega)))))⟩
          · by_cases k3 : kind = 3
            · subst k3
              have hok2 := hok.out.late next
              have hb2' := hok2.beg
              generalize hz : Win.late ⟨s, t, c, k, m⟩ next = z at *
              obtain ⟨s2, t2, c2, k2, m2⟩ := z
              replace hok2 := Lib.hid hok2; replace hb2' := Lib.hid hb2'; replace hz := Lib.hid hz
              go_wp2_with fail
              refine Calls.mono (late_at ⟨s0, t0, c0, k0, m0⟩ ⟨s, t, c, k, m⟩ next hy.out hok.out hz.out _) ?_
              rintro e w4 ⟨rfl, hb4⟩
              have z4 := Below.size hb4; try simp only [World.size_alloc, World.size_setCell, World.size_drew] at z4
              obtain ⟨c4_0, f4_0⟩ := Below.blk hb4 (b := w1.heap.size) (by first | (simp; done) | omega | (simp; omega))
              have z4_0 : w1.heap.size < w4.heap.size := (by first | (simp; done) | omega | (simp; omega))
              obtain ⟨c4_1, f4_1⟩ := Below.blk hb4 (b := w2.heap.size) (by first | (simp; done) | omega | (simp; omega))
              have z4_1 : w2.heap.size < w4.heap.size := (by first | (simp; done) | omega | (simp; omega))
              obtain ⟨c4_2, f4_2⟩ := Below.blk hb4 (b := wr.heap.size) (by first | (simp; done) | omega | (simp; omega))
              have z4_2 : wr.heap.size < w4.heap.size := (by first | (simp; done) | omega | (simp; omega))
              go_wp2_with fail
              refine Calls.mono (rlate_at ⟨s, t, c, k, m⟩ next hok.out hz.out _) ?_
              rintro e w5 ⟨rfl, hb5⟩
              have z5 := Below.size hb5; try simp only [World.size_alloc, World.size_setCell, World.size_drew] at z5
              obtain ⟨c5_0, f5_0⟩ := Below.blk hb5 (b := w1.heap.size) (by first | (simp; done) | omega | (simp; omega))
              have z5_0 : w1.heap.size < w5.heap.size := (by first | (simp; done) | omega | (simp; omega))
              obtain ⟨c5_1, f5_1⟩ := Below.blk hb5 (b := w2.heap.size) (by first | (simp; done) | omega | (simp; omega))
              have z5_1 : w2.heap.size < w5.heap.size := (by first | (simp; done) | omega | (simp; omega))
              obtain ⟨c5_2, f5_2⟩ := Below.blk hb5 (b := wr.heap.size) (by first | (simp; done) | omega | (simp; omega))
              have z5_2 : wr.heap.size < w5.heap.size := (by first | (simp; done) | omega | (simp; omega))
              go_wp2_with fail
              go_roundg (n - (j + 1))
              case measure => omega
              case rel => exact ⟨j + 1, ⟨s2, t2, c2, k2, m2⟩, ⟨s2, t2, c2, k2, m2⟩, by omega, rfl, by go_num, hb2'.out, hok2.out, (by repeat (first | with_reducible exact Below.refl _ _ | (with_reducible refine Below.al ?_) | (with_reducible refine Below.drew ?_) | (with_reducible refine Below.set ?_ (by first | (simp; done) | omega | (simp; omega))) | (with_reducible refine Below.thru ?_ (by assumption)) | (with_reducible refine Below.chg ?_ (by assumption) (by first | (simp; done) | omega | (simp; omega))))), (by (try rw [show ((0 : Nat) : Int) = 0 from rfl]); repeat (first | (with_reducible exact Hid.out HA3) | (with_reducible refine Box.below ?_ (by assumption)) | (with_reducible refine Box.drew ?_) | (with_reducible refine Box.new_at (by first | rfl | (simp; done) | omega)) | (with_reducible refine Box.al ?_) | (with_reducible apply Box.set0) | (with_reducible apply Box.set1) | (with_reducible apply Box.set2) | (with_reducible apply Box.set3) | (with_reducible apply Box.set4) | (with_reducible apply Box.set5) | (with_reducible apply Box.set6) | (with_reducible apply Box.set7) | (with_reducible apply Box.set8) | (with_reducible refine Box.oth ?_ (by first | (simp; done) | omega | (simp; omega))) | (with_reducible refine Box.chg ?_ (by assumption) (by first | (simp; done) | omega | (simp; omega))))), (by (try rw [show ((0 : Nat) : Int) = 0 from rfl]); repeat (first | (with_reducible exact Hid.out HB3) | (with_reducible refine Box.below ?_ (by assumption)) | (with_reducible refine Box.drew ?_) | (with_reducible refine Box.new_at (by first | rfl | (simp; done) | omega)) | (with_reducible refine Box.al ?_) | (with_reducible apply Box.set0) | (with_reducible apply Box.set1) | (with_reducible apply Box.set2) | (with_reducible apply Box.set3) | (with_reducible apply Box.set4) | (with_reducible apply Box.set5) | (with_reducible apply Box.set6) | (with_reducible apply Box.set7) | (with_reducible apply Box.set8) | (with_reducible refine Box.oth ?_ (by first | (simp; done) | omega | (simp; omega))) | (with_reducible refine Box.chg ?_ (by assumption) (by first | (simp; done) | omega | (simp; omega)))))⟩
            · have q0 : (kind == 0) = false := by simp; omega
              have q1 : (kind == 1) = false := by simp; omega
              have q2 : (kind == 2) = false := by simp; omega
              have q3 : (kind == 3) = false := by simp; omega
              go_wp2_with fail
              go_roundg (n - (j + 1))
              case measure => omega
              case rel => exact ⟨j + 1, ⟨s0, t0, c0, k0, m0⟩, ⟨s, t, c, k, m⟩, by omega, rfl, by go_num, hy.out, hok.out, hbw3, HA3.out, HB3.out⟩
      · go_wp2_with fail
        refine wp_region_near (by kernel_rfl) (by kernel_rfl) ?_
        intro hs
        repeat (go_big_quiet_step ((first | (go_at_call 28; exact Calls.near (by simp) (size_at ⟨s0, t0, c0, k0, m0⟩ hy.out _)) | (go_at_call 28; exact Calls.near (by simp) (size_at ⟨3, 16, 0, false, 0⟩ b0.out _)) | (go_at_call 29; exact Calls.near (by simp) (thr_at ⟨s0, t0, c0, k0, m0⟩ hy.out _)) | (go_at_call 36; exact Calls.near (by simp) (new_any _)))))
        refine wpQuiet_nil ?_
        clear hs
        intro w3 hb3
        go_wp2_with fail
        go_ret
        exact Ret.mk rfl (by repeat (first | with_reducible exact Below.refl _ _ | (with_reducible refine Below.al ?_) | (with_reducible refine Below.drew ?_) | (with_reducible refine Below.set ?_ (by first | (simp; done) | omega | (simp; omega))) | (with_reducible refine Below.thru ?_ (by assumption)) | (with_reducible refine Below.chg ?_ (by assumption) (by first | (simp; done) | omega | (simp; omega)))))
end Go.Proofs.Ythodfihdmhkgeaa.Cwnd
