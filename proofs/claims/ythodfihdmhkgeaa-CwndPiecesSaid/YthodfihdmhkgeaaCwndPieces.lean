/- The walk of the statement CwndPieces. -/
import Derived.Test.YthodfihdmhkgeaaCwndOnce
namespace Go.Proofs.Ythodfihdmhkgeaa.Cwnd
set_option linter.unusedSimpArgs false
set_option linter.unusedVariables false
open Go Go.RowKit Go.Proofs.Ythodfihdmhkgeaa Go.Proofs.Ythodfihdmhkgeaa.Circ
attribute [local irreducible] Calls

theorem iter_add (x : Win) (n : Nat) : ∀ m, x.iter (n + m) = (x.iter n).iter m
  | 0 => rfl
  | m + 1 => by
    show (x.iter (n + m)).grow = ((x.iter n).iter m).grow
    rw [iter_add x n m]
theorem grow_mono (x : Win) : x.s ≤ x.grow.s ∧ x.grow.s ≤ x.s + 1 ∧ x.grow.t = x.t := by
  unfold Win.grow
  (repeat' split) <;> (refine ⟨?_, ?_, rfl⟩ <;> (try simp only) <;> omega)
theorem iter_mono (x : Win) : ∀ n : Nat, x.s ≤ (x.iter n).s ∧ (x.iter n).s ≤ x.s + n ∧ (x.iter n).t = x.t
  | 0 => ⟨Int.le_refl _, by simp [Win.iter], rfl⟩
  | n + 1 => by
    obtain ⟨h1, h2, h3⟩ := iter_mono x n
    obtain ⟨g1, g2, g3⟩ := grow_mono (x.iter n)
    show x.s ≤ (x.iter n).grow.s ∧ (x.iter n).grow.s ≤ _ ∧ (x.iter n).grow.t = _
    exact ⟨by omega, by omega, by rw [g3, h3]⟩
theorem pieces_eq (z : Win) (x y : Int) (hx : 0 ≤ x) (hx' : x ≤ 32) (hy : 0 ≤ y) (hy' : y ≤ 31) : (z.acked x true).acked y true = z.acked (x + y) true := by
  show (z.iter (manyF x)).iter (manyF y) = z.iter (manyF (x + y))
  rw [← iter_add]
  congr 1
  unfold manyF
  omega
theorem acked_none (z : Win) (x : Int) (hx : x ≤ 0) : z.acked x true = z := by
  show z.iter (manyF x) = z
  have : manyF x = 0 := by unfold manyF; omega
  rw [this]; rfl

/-- The bytes of a slice of an argument. -/
theorem bytes_in {w : World} {a : Option Addr} {len cap : Nat} (h : Fits w (.slice 1 (.int .u8)) [.slice a len cap]) :
    len ≤ maxLen ∧ (a = none → len = 0) ∧ ∃ l : List Int, l.length = len ∧ (∀ x ∈ l, 0 ≤ x ∧ x ≤ 255) ∧ Rd w a (l.map (Value.int .u8)) := by
  obtain ⟨h0, hn, l, h1, h2, h3⟩ := rows_in (size := 1) (fun n : Int => [Value.int .u8 n]) (by omega) (fun _ => rfl) (good := fun x : Int => 0 ≤ x ∧ x ≤ 255) (fun cs hf _ => by
    obtain ⟨n, rfl, hw⟩ := hf
    have := bounds_u8 hw
    exact ⟨n, rfl, by omega⟩) h
  exact ⟨h0, hn, l, h1, h2, by rw [map_flat] at h3; exact h3⟩

set_option maxRecDepth 100000 in
set_option maxHeartbeats 2000000 in
theorem pieces_walk (a0 : Option Addr) (n cap : Nat) (a1 : Int) (w1' : (Lit.int .u8 a1).wf = true) (a2 : Int) (w2' : (Lit.int .u8 a2).wf = true) (w : World) (h0 : Fits w (.slice 1 (.int .u8)) [.slice a0 n cap]) :
    Calls Try.prog 7 #[.slice a0 n cap, .int .u8 a1, .int .u8 a2] w (Ret w (.bool true)) := by
  obtain ⟨hn, _, l, hl, hlb, hL⟩ := bytes_in h0
  have q1 := bounds_u8 w1'
  have q2 := bounds_u8 w2'
  unfold maxLen at hn
  clear h0 w1' w2'
  have b0 := beg_new
  have o0 := ok_new
  replace hl := Lib.hid hl; replace hL := Lib.hid hL; replace b0 := Lib.hid b0; replace o0 := Lib.hid o0; replace hlb := Lib.hid hlb
  go_enter Try.func7, Try.ntmps7
  go_wp2_with fail
  refine Calls.mono (works_law _) ?_
  rintro e w1 ⟨rfl, hb1⟩
  have z1 := Below.size hb1; try simp only [World.size_alloc, World.size_setCell, World.size_drew] at z1
  by_cases h50 : 50 < n
  · have q : decide ((50 : Int) < n) = true := decide_eq_true (by omega)
    go_wp2_with fail
    go_ret
    exact Ret.mk rfl (by repeat (first | with_reducible exact Below.refl _ _ | (with_reducible refine Below.al ?_) | (with_reducible refine Below.drew ?_) | (with_reducible refine Below.set ?_ (by first | (simp; done) | omega | (simp; omega))) | (with_reducible refine Below.thru ?_ (by assumption)) | (with_reducible refine Below.chg ?_ (by assumption) (by first | (simp; done) | omega | (simp; omega)))))
  · have q : decide ((50 : Int) < n) = false := decide_eq_false (by omega)
    go_wp2_with fail
    refine Calls.mono (new_any _) ?_
    rintro e w2 ⟨rfl, hb2⟩
    have z2 := Below.size hb2; try simp only [World.size_alloc, World.size_setCell, World.size_drew] at z2
    go_wp2_with fail
    go_loopg [8, 9] n (fun g nx i wr => ∃ (j : Nat) (y : Win), j ≤ n ∧ g = n - j ∧ i = .int .i64 j ∧ nx = .int .i64 (100 * (j : Int)) ∧ Hid y.Ok ∧ Below w.heap.size w wr ∧ Box wr w2.heap.size [.int .i64 y.s, .int .i64 y.t, .int .i64 y.c, .bool y.k, .int .i64 y.m])
    case atStart =>
      refine ⟨0, ⟨3, 16, 0, false, 0⟩, by omega, by omega, rfl, rfl, o0, (by repeat (first | with_reducible exact Below.refl _ _ | (with_reducible refine Below.al ?_) | (with_reducible refine Below.drew ?_) | (with_reducible refine Below.set ?_ (by first | (simp; done) | omega | (simp; omega))) | (with_reducible refine Below.thru ?_ (by assumption)) | (with_reducible refine Below.chg ?_ (by assumption) (by first | (simp; done) | omega | (simp; omega))))), ?_⟩
      simp only
      exact (by (try rw [show ((0 : Nat) : Int) = 0 from rfl]); repeat (first | fail | (with_reducible refine Box.below ?_ (by assumption)) | (with_reducible refine Box.drew ?_) | (with_reducible refine Box.new_at (by first | rfl | (simp; done) | omega)) | (with_reducible refine Box.al ?_) | (with_reducible apply Box.set0) | (with_reducible apply Box.set1) | (with_reducible apply Box.set2) | (with_reducible apply Box.set3) | (with_reducible apply Box.set4) | (with_reducible apply Box.set5) | (with_reducible apply Box.set6) | (with_reducible apply Box.set7) | (with_reducible apply Box.set8) | (with_reducible refine Box.oth ?_ (by first | (simp; done) | omega | (simp; omega))) | (with_reducible refine Box.chg ?_ (by assumption) (by first | (simp; done) | omega | (simp; omega)))))
    case round =>
      obtain ⟨j, ⟨s, t, c, k, m⟩, hj, hg, rfl, rfl, hok, hbw, hA⟩ := hrel
      have HA := Lib.hid hA
      obtain ⟨zA, cA, fA⟩ := hA
      have zw := hbw.size
      have hb := Lib.hid hok.out.beg
      by_cases hlt : j < n
      · have hjl : j < l.length := by have := hl.out; omega
        obtain ⟨b, off, rfl, hbl0, hc⟩ := hL.out.cons (by intro e; have := congrArg List.length e; simp at this; subst this; have := hl.out; simp at this; omega)
        have hbl : b < wr.heap.size := by omega
        have hne : ¬ w2.heap.size = b := by omega
        have e0 : wr.cell? ⟨b, off + j, none⟩ = some (.int .u8 l[j]) := ((Below.blk hbw (b := b) (by first | (simp; done) | omega | (simp; omega))).1 _).trans (hc j _ (by simp [hjl]))
        have lb := hlb.out l[j] (List.getElem_mem hjl)
        clear hc
        generalize l[j] = x at *
        have hok1 := hok.out.acked (x % 40) true
        have hb1' := hok1.beg
        generalize hz : Win.acked ⟨s, t, c, k, m⟩ (x % 40) true = z at *
        obtain ⟨s1, t1, c1, k1, m1⟩ := z
        replace hok1 := Lib.hid hok1; replace hb1' := Lib.hid hb1'; replace hz := Lib.hid hz
        go_wp2_with fail
        refine wp_region_near_tail 8 (by kernel_rfl) (by kernel_rfl) ?_
        intro hs
        simp only [List.take_succ_cons, List.take_zero, List.drop_succ_cons, List.drop_zero]
        repeat (go_big_quiet_step ((go_at_call 30; exact Calls.near (by simp) (acked_at ⟨s, t, c, k, m⟩ ⟨s, t, c, k, m⟩ (x % 40) true hb.out hok.out hz.out _))))
        refine wpQuiet_nil ?_
        clear hs
        intro w4 hb4
        have e1 : w4.cell? ⟨b, off + j, none⟩ = some (.int .u8 x) := ((Below.blk hb4 (b := b) (by first | (simp; done) | omega | (simp; omega))).1 _).trans e0
        have hbw4 : Below w.heap.size w w4 := (by repeat (first | with_reducible exact Below.refl _ _ | (with_reducible refine Below.al ?_) | (with_reducible refine Below.drew ?_) | (with_reducible refine Below.set ?_ (by first | (simp; done) | omega | (simp; omega))) | (with_reducible refine Below.thru ?_ (by assumption)) | (with_reducible refine Below.chg ?_ (by assumption) (by first | (simp; done) | omega | (simp; omega)))))
        have HA4 : Box w4 w2.heap.size [.int .i64 s, .int .i64 t, .int .i64 c, .bool k, .int .i64 m] := HA.out.below hb4
        obtain ⟨zA4, cA4, fA4⟩ := id HA4
        have hbl4 : b < w4.heap.size := Nat.lt_of_lt_of_le hbl hb4.size
        clear cA fA hbw hb4 e0 zA
        replace HA := Lib.hid HA4
        clear HA4
        by_cases h2 : x % 2 = 0
        · have q : (x % 2 == 0) = true := by simp [h2]
          clear h2
          have hok2 := hok1.out.late (100 * (j : Int) + 100)
          have hb2' := hok2.beg
          generalize hz2 : Win.late ⟨s1, t1, c1, k1, m1⟩ (100 * (j : Int) + 100) = z2 at *
          obtain ⟨s2, t2, c2, k2, m2⟩ := z2
          replace hok2 := Lib.hid hok2; replace hb2' := Lib.hid hb2'; replace hz2 := Lib.hid hz2
          go_wp2_with fail
          refine Calls.mono (late_at ⟨s1, t1, c1, k1, m1⟩ ⟨s1, t1, c1, k1, m1⟩ (100 * (j : Int) + 100) hb1'.out hok1.out hz2.out _) ?_
          rintro e w6 ⟨rfl, hb6⟩
          have z6 := Below.size hb6; try simp only [World.size_alloc, World.size_setCell, World.size_drew] at z6
          obtain ⟨c6_0, f6_0⟩ := Below.blk hb6 (b := w2.heap.size) (by first | (simp; done) | omega | (simp; omega))
          have z6_0 : w2.heap.size < w6.heap.size := (by first | (simp; done) | omega | (simp; omega))
          go_wp2_with fail
          go_roundg (n - (j + 1))
          case measure => omega
          case rel => exact ⟨j + 1, ⟨s2, t2, c2, k2, m2⟩, by omega, rfl, by go_num, by go_num, hok2.out, (by repeat (first | with_reducible exact Below.refl _ _ | (with_reducible refine Below.al ?_) | (with_reducible refine Below.drew ?_) | (with_reducible refine Below.set ?_ (by first | (simp; done) | omega | (simp; omega))) | (with_reducible refine Below.thru ?_ (by assumption)) | (with_reducible refine Below.chg ?_ (by assumption) (by first | (simp; done) | omega | (simp; omega))))), (by (try rw [show ((0 : Nat) : Int) = 0 from rfl]); repeat (first | (with_reducible exact Hid.out HA) | (with_reducible refine Box.below ?_ (by assumption)) | (with_reducible refine Box.drew ?_) | (with_reducible refine Box.new_at (by first | rfl | (simp; done) | omega)) | (with_reducible refine Box.al ?_) | (with_reducible apply Box.set0) | (with_reducible apply Box.set1) | (with_reducible apply Box.set2) | (with_reducible apply Box.set3) | (with_reducible apply Box.set4) | (with_reducible apply Box.set5) | (with_reducible apply Box.set6) | (with_reducible apply Box.set7) | (with_reducible apply Box.set8) | (with_reducible refine Box.oth ?_ (by first | (simp; done) | omega | (simp; omega))) | (with_reducible refine Box.chg ?_ (by assumption) (by first | (simp; done) | omega | (simp; omega)))))⟩
        · have q : (x % 2 == 0) = false := by simp [h2]
          clear h2
          have hok2 := hok1.out.lost (100 * (j : Int) + 100) (100 * (j : Int) + 100 + 1)
          have hb2' := hok2.beg
          generalize hz2 : Win.lost ⟨s1, t1, c1, k1, m1⟩ (100 * (j : Int) + 100) (100 * (j : Int) + 100 + 1) = z2 at *
          obtain ⟨s2, t2, c2, k2, m2⟩ := z2
          replace hok2 := Lib.hid hok2; replace hb2' := Lib.hid hb2'; replace hz2 := Lib.hid hz2
          go_wp2_with fail
          refine Calls.mono (lost_at ⟨s1, t1, c1, k1, m1⟩ ⟨s1, t1, c1, k1, m1⟩ (100 * (j : Int) + 100) (100 * (j : Int) + 100 + 1) hb1'.out hok1.out hz2.out rfl _) ?_
          rintro e w6 ⟨rfl, hb6⟩
          have z6 := Below.size hb6; try simp only [World.size_alloc, World.size_setCell, World.size_drew] at z6
          obtain ⟨c6_0, f6_0⟩ := Below.blk hb6 (b := w2.heap.size) (by first | (simp; done) | omega | (simp; omega))
          have z6_0 : w2.heap.size < w6.heap.size := (by first | (simp; done) | omega | (simp; omega))
          go_wp2_with fail
          go_roundg (n - (j + 1))
          case measure => omega
          case rel => exact ⟨j + 1, ⟨s2, t2, c2, k2, m2⟩, by omega, rfl, by go_num, by go_num, hok2.out, (by repeat (first | with_reducible exact Below.refl _ _ | (with_reducible refine Below.al ?_) | (with_reducible refine Below.drew ?_) | (with_reducible refine Below.set ?_ (by first | (simp; done) | omega | (simp; omega))) | (with_reducible refine Below.thru ?_ (by assumption)) | (with_reducible refine Below.chg ?_ (by assumption) (by first | (simp; done) | omega | (simp; omega))))), (by (try rw [show ((0 : Nat) : Int) = 0 from rfl]); repeat (first | (with_reducible exact Hid.out HA) | (with_reducible refine Box.below ?_ (by assumption)) | (with_reducible refine Box.drew ?_) | (with_reducible refine Box.new_at (by first | rfl | (simp; done) | omega)) | (with_reducible refine Box.al ?_) | (with_reducible apply Box.set0) | (with_reducible apply Box.set1) | (with_reducible apply Box.set2) | (with_reducible apply Box.set3) | (with_reducible apply Box.set4) | (with_reducible apply Box.set5) | (with_reducible apply Box.set6) | (with_reducible apply Box.set7) | (with_reducible apply Box.set8) | (with_reducible refine Box.oth ?_ (by first | (simp; done) | omega | (simp; omega))) | (with_reducible refine Box.chg ?_ (by assumption) (by first | (simp; done) | omega | (simp; omega)))))⟩
      · have X0 : 0 ≤ a1 % 33 ∧ a1 % 33 ≤ 32 := by omega
        have Y0 : 0 ≤ a2 % 32 ∧ a2 % 32 ≤ 31 := by omega
        have hxy := pieces_eq ⟨s, t, c, k, m⟩ (a1 % 33) (a2 % 32) X0.1 X0.2 Y0.1 Y0.2
        have hm1 := iter_mono ⟨s, t, c, k, m⟩ (manyF (a1 % 33 + a2 % 32))
        have hm2 : (manyF (a1 % 33 + a2 % 32) : Int) = a1 % 33 + a2 % 32 := by unfold manyF; omega
        have hz0 : Win.acked ⟨s, t, c, k, m⟩ (a1 % 33) false = ⟨s, t, c, k, m⟩ := rfl
        have hz1' : Win.acked ⟨s, t, c, k, m⟩ 0 true = ⟨s, t, c, k, m⟩ := acked_none _ 0 (by omega)
        have hz2' : Win.acked ⟨s, t, c, k, m⟩ (-(a1 % 33)) true = ⟨s, t, c, k, m⟩ := acked_none _ _ (by omega)
        rw [show Win.iter ⟨s, t, c, k, m⟩ (manyF (a1 % 33 + a2 % 32)) = Win.acked ⟨s, t, c, k, m⟩ (a1 % 33 + a2 % 32) true from rfl] at hm1
        have ok1 := hok.out.acked (a1 % 33) true
        have be1 := ok1.beg
        have ok2 := ok1.acked (a2 % 32) true
        have be2 := ok2.beg
        rw [hxy] at ok2 be2
        generalize hzA : Win.acked ⟨s, t, c, k, m⟩ (a1 % 33) true = zA' at *
        generalize hzB : Win.acked ⟨s, t, c, k, m⟩ (a1 % 33 + a2 % 32) true = zB' at *
        obtain ⟨s1, t1, c1, k1, m1⟩ := zA'
        obtain ⟨s2, t2, c2, k2, m2⟩ := zB'
        obtain ⟨g1, g2, g3, g4, g5, g6⟩ := id ok2
        simp only at g1 g2 g3 g4 g5 g6 hm1
        obtain ⟨m1', m2', m3'⟩ := hm1
        replace m3' := m3'.symm
        subst m3'
        have r1 : decide (s ≤ s2) = true := decide_eq_true m1'
        have r2 : decide (s2 ≤ 16) = true := decide_eq_true g2
        have r3 : decide (s2 ≤ s + a1 % 33 + a2 % 32) = true := decide_eq_true (by omega)
        obtain ⟨i0, hi0, hz00, hz01, hz02⟩ := info_parts win_info
        have hinf := And.intro hi0 (And.intro hz00 hz01)
        replace hxy := Lib.hid hxy; replace hz0 := Lib.hid hz0; replace hz1' := Lib.hid hz1'; replace hz2' := Lib.hid hz2'; replace ok1 := Lib.hid ok1; replace be1 := Lib.hid be1; replace ok2 := Lib.hid ok2; replace be2 := Lib.hid be2; replace hzA := Lib.hid hzA; replace hzB := Lib.hid hzB
        go_wp2_with fail
        refine wp_region_fresh [⟨10, 12, 12, 36, .tmp 63, _, .agg #[.int .i64 s2, .int .i64 t, .int .i64 c2, .bool k2, .int .i64 m2]⟩, ⟨11, 13, 13, 36, .tmp 68, _, .agg #[.int .i64 s2, .int .i64 t, .int .i64 c2, .bool k2, .int .i64 m2]⟩] [0, 1, 2, 3, 4, 5, 6, 7, 8, 9] [10, 11, 12, 13] [] [true, true, true, true, true, true, true, true, true, true, false, false, false, false] [false, false, false, false, false, false, false, false, false, false, false, false, false, false] (by kernel_rfl) rfl rfl rfl (by kernel_rfl) (all_cons ⟨⟨_, rfl, rfl, rfl, rfl⟩, ⟨_, rfl, rfl, rfl, rfl⟩, ⟨_, hinf.1, hinf.2.1, hinf.2.2⟩, rfl, by simp [Value.cells, Value.oneCell']⟩ (all_cons ⟨⟨_, rfl, rfl, rfl, rfl⟩, ⟨_, rfl, rfl, rfl, rfl⟩, ⟨_, hinf.1, hinf.2.1, hinf.2.2⟩, rfl, by simp [Value.cells, Value.oneCell']⟩ all_nil)) (all_cons (by simp) (all_cons (by simp) all_nil)) ?_
        apply Exists.intro
        refine ⟨fun X hXn hs => ?_, ?_⟩
        · have hX := hXn.1
          haveI := hXn.2
          have hne2 := hXn.2
          try simp only [World.size_alloc, World.size_setCell, World.size_drew] at hne2
          haveI := hne2
          simp only [pick]
          repeat (go_big_quiet_step (first | (go_at_call 30; exact Calls.nearX hX (by simp) (acked_at ⟨s1, t1, c1, k1, m1⟩ ⟨s1, t1, c1, k1, m1⟩ (a2 % 32) true be1.out ok1.out hxy.out _)) | (go_at_call 30; exact Calls.nearX hX (by simp) (acked_at ⟨s, t, c, k, m⟩ ⟨s, t, c, k, m⟩ (a1 % 33) true hb.out hok.out hzA.out _)) | (go_at_call 30; exact Calls.nearX hX (by simp) (acked_at ⟨s, t, c, k, m⟩ ⟨s, t, c, k, m⟩ (a1 % 33 + a2 % 32) true hb.out hok.out hzB.out _))))
          refine wpQuiet_nil ?_
          refine ⟨(all_cons rfl (all_cons rfl all_nil)), ?_⟩
          repeat (go_big_quiet_step (first | (go_at_call 30; exact Calls.nearX hX (by simp) (acked_at ⟨s1, t1, c1, k1, m1⟩ ⟨s1, t1, c1, k1, m1⟩ (a2 % 32) true be1.out ok1.out hxy.out _)) | (go_at_call 30; exact Calls.nearX hX (by simp) (acked_at ⟨s, t, c, k, m⟩ ⟨s, t, c, k, m⟩ (a1 % 33) true hb.out hok.out hzA.out _)) | (go_at_call 30; exact Calls.nearX hX (by simp) (acked_at ⟨s, t, c, k, m⟩ ⟨s, t, c, k, m⟩ (a1 % 33 + a2 % 32) true hb.out hok.out hzB.out _))))
          refine wpQuiet_nil ?_
          exact rfl
        intro fb w8 hb8 hfr hne
        have z8 := hb8.size; try simp only [World.size_alloc, World.size_setCell, World.size_drew] at z8
        obtain ⟨le8_0, bx8_0⟩ := hfr _ (List.getElem_mem (n := 0) (by simp))
        obtain ⟨le8_1, bx8_1⟩ := hfr _ (List.getElem_mem (n := 1) (by simp))
        have ne8 := hne _ (List.getElem_mem (n := 0) (by simp)) _ (List.getElem_mem (n := 1) (by simp)) (by simp)
        clear hfr hne
        simp only [List.getElem_cons_zero, List.getElem_cons_succ, putAll, Act.put, List.setIfInBounds_toArray, List.set_cons_zero, List.set_cons_succ] at le8_0 bx8_0 le8_1 bx8_1 ne8 ⊢
        generalize fb 10 = p8_0 at *
        simp only [Value.cells] at bx8_0; try simp only [World.size_alloc, World.size_setCell, World.size_drew] at le8_0
        have lt8_0 := bx8_0.lt
        generalize fb 11 = p8_1 at *
        simp only [Value.cells] at bx8_1; try simp only [World.size_alloc, World.size_setCell, World.size_drew] at le8_1
        have lt8_1 := bx8_1.lt
        obtain ⟨c8, f8⟩ := Below.blk hb8 (b := w2.heap.size) (by first | (simp; done) | omega | (simp; omega))
        have z82 : w2.heap.size < w8.heap.size := by omega
        obtain ⟨_, cb8, fb8⟩ := bx8_0
        obtain ⟨_, cc8, fc8⟩ := bx8_1
        go_wp2_with fail
        refine wp_region_near (by kernel_rfl) (by kernel_rfl) ?_
        intro hs
        repeat (go_big_quiet_step ((first | (go_at_call 30; exact Calls.near (by simp) (acked_at ⟨s, t, c, k, m⟩ ⟨s, t, c, k, m⟩ (a1 % 33) false hb.out hok.out hz0.out _)) | (go_at_call 30; exact Calls.near (by simp) (acked_at ⟨s, t, c, k, m⟩ ⟨s, t, c, k, m⟩ 0 true hb.out hok.out hz1'.out _)) | (go_at_call 30; exact Calls.near (by simp) (acked_at ⟨s, t, c, k, m⟩ ⟨s, t, c, k, m⟩ (-(a1 % 33)) true hb.out hok.out hz2'.out _)) | (go_at_call 38; exact Calls.near (by simp) (alike_any s t c k m hok.out _)))))
        refine wpQuiet_nil ?_
        clear hs
        intro w9 hb9
        obtain ⟨c9, f9⟩ := Below.blk hb9 (b := w2.heap.size) (by first | (simp; done) | omega | (simp; omega))
        obtain ⟨d9, g9⟩ := Below.blk hb9 (b := p8_0) (by first | (simp; done) | omega | (simp; omega))
        obtain ⟨e9, h9⟩ := Below.blk hb9 (b := p8_1) (by first | (simp; done) | omega | (simp; omega))
        have z9 := hb9.size
        try simp only [World.size_drew] at z9
        have z92 : w2.heap.size < w9.heap.size := by omega
        have z93 : p8_0 < w9.heap.size := by omega
        have z94 : p8_1 < w9.heap.size := by omega
        go_wp2_with fail
        refine wp_region_near (by kernel_rfl) (by kernel_rfl) ?_
        intro hs
        repeat (go_big_quiet_step ((first | (go_at_call 28; exact Calls.near (by simp) (size_at ⟨s2, t, c2, k2, m2⟩ be2.out _)) | (go_at_call 28; exact Calls.near (by simp) (size_at ⟨s, t, c, k, m⟩ hb.out _)) | (go_at_call 29; exact Calls.near (by simp) (thr_at ⟨s2, t, c2, k2, m2⟩ be2.out _)) | (go_at_call 29; exact Calls.near (by simp) (thr_at ⟨s, t, c, k, m⟩ hb.out _)) | (go_at_call 38; exact Calls.near (by simp) (alike_any s2 t c2 k2 m2 ok2.out _)))))
        refine wpQuiet_nil ?_
        clear hs
        intro w10 hb10
        go_wp2_with fail
        go_ret
        exact Ret.mk rfl (by repeat (first | with_reducible exact Below.refl _ _ | (with_reducible refine Below.al ?_) | (with_reducible refine Below.drew ?_) | (with_reducible refine Below.set ?_ (by first | (simp; done) | omega | (simp; omega))) | (with_reducible refine Below.thru ?_ (by assumption)) | (with_reducible refine Below.chg ?_ (by assumption) (by first | (simp; done) | omega | (simp; omega)))))
end Go.Proofs.Ythodfihdmhkgeaa.Cwnd
