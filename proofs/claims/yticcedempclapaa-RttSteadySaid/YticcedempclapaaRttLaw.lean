/- The walks of the statements of layer 18. -/
import Derived.Test.YticcedempclapaaRttRef
namespace Go.Proofs.Yticcedempclapaa.Rtt
open Go.RowKit Go.Proofs.Yticcedempclapaa

def tookS (k : Bool) (s t : Int) : Int := if k then s + (clip t - s / 8) else 8 * clip t
def tookV (k : Bool) (s v t : Int) : Int := if k then v + (max (clip t - s / 8) (-(clip t - s / 8)) - v / 4) else 2 * clip t

/-- What a meter's numbers are within. -/
def Ok (s v : Int) : Prop := 0 ≤ s ∧ s ≤ 519 ∧ 0 ≤ v ∧ v ≤ 260
theorem Ok.took {s v : Int} (h : Ok s v) (k : Bool) (t : Int) : Ok (tookS k s t) (tookV k s v t) := by
  have := clip_bd t
  unfold Ok tookS tookV at *
  cases k <;> simp <;> omega

theorem took_any (k : Bool) (s v l t : Int) (w : World) (h : Ok s v) :
    Calls Try.prog 23 #[.agg #[.int .i64 s, .int .i64 v, .int .i64 l, .bool k], .int .i64 t] w (Ret w (.agg #[.int .i64 (tookS k s t), .int .i64 (tookV k s v t), .int .i64 0, .bool true])) := by
  obtain ⟨a, b, c, d⟩ := h
  cases k
  · exact took_new s v l t w
  · exact took_old s v l t w a (by omega) c (by omega)
theorem rtook_any (k : Bool) (s v l t : Int) (w : World) (h : Ok s v) :
    Calls Try.prog 24 #[.agg #[.int .i64 s, .int .i64 v, .int .i64 l, .bool k], .int .i64 t] w (Ret w (.agg #[.int .i64 (tookS k s t), .int .i64 (tookV k s v t), .int .i64 0, .bool true])) := by
  obtain ⟨a, b, c, d⟩ := h
  cases k
  · exact rtook_new s v l t w
  · exact rtook_old s v l t w a (by omega) c (by omega)
theorem timeout_any (k : Bool) (s v : Int) (l : Nat) (w : World) (h : Ok s v) (hl : l ≤ 6) :
    Calls Try.prog 28 #[.agg #[.int .i64 s, .int .i64 v, .int .i64 l, .bool k]] w (Ret w (.int .i64 (wait k s v l))) := by
  obtain ⟨a, b, c, d⟩ := h
  cases k
  · exact timeout_new s v l w hl
  · exact timeout_old s v l w hl a (by omega) c (by omega)
theorem rtimeout_any (k : Bool) (s v : Int) (l : Nat) (w : World) (h : Ok s v) (hl : l ≤ 6) :
    Calls Try.prog 29 #[.agg #[.int .i64 s, .int .i64 v, .int .i64 l, .bool k]] w (Ret w (.int .i64 (wait k s v l))) := by
  obtain ⟨a, b, c, d⟩ := h
  cases k
  · exact rtimeout_new s v l w hl
  · by_cases hv : v = 0
    · subst hv; exact rtimeout_zero s l w hl a (by omega)
    · exact rtimeout_old s v l w hl a (by omega) (by omega) (by omega)

theorem works_law (w : World) : Calls Try.prog 20 #[] w (Ret w (.bool true)) := by
  have ok0 : Ok 0 0 := by unfold Ok; omega
  have ok1 : Ok 80 20 := by unfold Ok; omega
  go_enter Try.func20, Try.ntmps20
  go_wp2_with fail
  refine Calls.mono (took_any false 0 0 0 10 _ ok0) ?_
  rintro e w1 ⟨rfl, hb1⟩
  have z1 := Below.size hb1; try simp only [World.size_alloc, World.size_setCell, World.size_drew] at z1
  obtain ⟨c1_0, f1_0⟩ := Below.blk hb1 (b := w.heap.size) (by first | (simp; done) | omega | (simp; omega))
  have z1_0 : w.heap.size < w1.heap.size := (by first | (simp; done) | omega | (simp; omega))
  rw [show tookS false 0 10 = 80 from by decide, show tookV false 0 0 10 = 20 from by decide]
  go_wp2_with fail
  refine Calls.mono (known_any 0 0 0 false _) ?_
  rintro e w2 ⟨rfl, hb2⟩
  have z2 := Below.size hb2; try simp only [World.size_alloc, World.size_setCell, World.size_drew] at z2
  obtain ⟨c2_0, f2_0⟩ := Below.blk hb2 (b := w.heap.size) (by first | (simp; done) | omega | (simp; omega))
  have z2_0 : w.heap.size < w2.heap.size := (by first | (simp; done) | omega | (simp; omega))
  obtain ⟨c2_1, f2_1⟩ := Below.blk hb2 (b := w1.heap.size) (by first | (simp; done) | omega | (simp; omega))
  have z2_1 : w1.heap.size < w2.heap.size := (by first | (simp; done) | omega | (simp; omega))
  go_wp2_with fail
  refine Calls.mono (timeout_any false 0 0 0 _ ok0 (by omega)) ?_
  rintro e w3 ⟨rfl, hb3⟩
  have z3 := Below.size hb3; try simp only [World.size_alloc, World.size_setCell, World.size_drew] at z3
  obtain ⟨c3_0, f3_0⟩ := Below.blk hb3 (b := w1.heap.size) (by first | (simp; done) | omega | (simp; omega))
  have z3_0 : w1.heap.size < w3.heap.size := (by first | (simp; done) | omega | (simp; omega))
  rw [show wait false 0 0 0 = 8 from by decide]
  go_wp2_with fail
  refine Calls.mono (known_any 80 20 0 true _) ?_
  rintro e w4 ⟨rfl, hb4⟩
  have z4 := Below.size hb4; try simp only [World.size_alloc, World.size_setCell, World.size_drew] at z4
  obtain ⟨c4_0, f4_0⟩ := Below.blk hb4 (b := w1.heap.size) (by first | (simp; done) | omega | (simp; omega))
  have z4_0 : w1.heap.size < w4.heap.size := (by first | (simp; done) | omega | (simp; omega))
  go_wp2_with fail
  refine Calls.mono (smooth_any 80 20 0 true _ (by omega) (by omega)) ?_
  rintro e w5 ⟨rfl, hb5⟩
  have z5 := Below.size hb5; try simp only [World.size_alloc, World.size_setCell, World.size_drew] at z5
  obtain ⟨c5_0, f5_0⟩ := Below.blk hb5 (b := w1.heap.size) (by first | (simp; done) | omega | (simp; omega))
  have z5_0 : w1.heap.size < w5.heap.size := (by first | (simp; done) | omega | (simp; omega))
  go_wp2_with fail
  refine Calls.mono (spread_any 80 20 0 true _ (by omega) (by omega)) ?_
  rintro e w6 ⟨rfl, hb6⟩
  have z6 := Below.size hb6; try simp only [World.size_alloc, World.size_setCell, World.size_drew] at z6
  obtain ⟨c6_0, f6_0⟩ := Below.blk hb6 (b := w1.heap.size) (by first | (simp; done) | omega | (simp; omega))
  have z6_0 : w1.heap.size < w6.heap.size := (by first | (simp; done) | omega | (simp; omega))
  go_wp2_with fail
  refine Calls.mono (timeout_any true 80 20 0 _ ok1 (by omega)) ?_
  rintro e w7 ⟨rfl, hb7⟩
  have z7 := Below.size hb7; try simp only [World.size_alloc, World.size_setCell, World.size_drew] at z7
  obtain ⟨c7_0, f7_0⟩ := Below.blk hb7 (b := w1.heap.size) (by first | (simp; done) | omega | (simp; omega))
  have z7_0 : w1.heap.size < w7.heap.size := (by first | (simp; done) | omega | (simp; omega))
  rw [show wait true 80 20 0 = 30 from by decide]
  go_wp2_with fail
  refine Calls.mono (late_any 80 20 0 true _ (by omega) (by omega)) ?_
  rintro e w8 ⟨rfl, hb8⟩
  have z8 := Below.size hb8; try simp only [World.size_alloc, World.size_setCell, World.size_drew] at z8
  obtain ⟨c8_0, f8_0⟩ := Below.blk hb8 (b := w1.heap.size) (by first | (simp; done) | omega | (simp; omega))
  have z8_0 : w1.heap.size < w8.heap.size := (by first | (simp; done) | omega | (simp; omega))
  go_wp2_with fail
  refine Calls.mono (timeout_any true 80 20 1 _ ok1 (by omega)) ?_
  rintro e w9 ⟨rfl, hb9⟩
  have z9 := Below.size hb9; try simp only [World.size_alloc, World.size_setCell, World.size_drew] at z9
  obtain ⟨c9_0, f9_0⟩ := Below.blk hb9 (b := w1.heap.size) (by first | (simp; done) | omega | (simp; omega))
  have z9_0 : w1.heap.size < w9.heap.size := (by first | (simp; done) | omega | (simp; omega))
  rw [show wait true 80 20 1 = 60 from by decide]
  go_wp2_with fail
  go_ret
  exact Ret.mk rfl (by repeat (first | with_reducible exact Below.refl _ _ | (with_reducible refine Below.al ?_) | (with_reducible refine Below.drew ?_) | (with_reducible refine Below.set ?_ (by first | (simp; done) | omega | (simp; omega))) | (with_reducible refine Below.thru ?_ (by assumption))))

theorem steps_in {w : World} {a : Option Addr} {len cap : Nat} (h : Fits w (.slice 2 (.cons 1 .bool (.cons 1 (.int .i64) .nil))) [.slice a len cap]) :
    len ≤ maxLen ∧ (len = 0 ∨ ∃ b off, a = some ⟨b, off, none⟩ ∧ b < w.heap.size ∧ ∀ i, i < len → ∃ (k : Bool) (n : Int), w.cell? ⟨b, off + i * 2, none⟩ = some (.bool k) ∧ w.cell? ⟨b, off + i * 2 + 1, none⟩ = some (.int .i64 n)) := by
  obtain ⟨h0, h1⟩ := fits_slice (by omega) h
  refine ⟨h0, h1.imp id ?_⟩
  rintro ⟨b, off, ha, hb, hi⟩
  refine ⟨b, off, ha, hb, fun i hlt => ?_⟩
  obtain ⟨es, _, hc, hf⟩ := hi i hlt
  obtain ⟨_, _, rfl, f0, r0⟩ := fits_cons1 hf
  obtain ⟨_, _, rfl, f1, _⟩ := fits_cons1 r0
  obtain ⟨k, rfl⟩ := fits_bool f0
  obtain ⟨n, rfl, _⟩ := fits_int f1
  exact ⟨k, n, hc 0 (by omega), hc 1 (by omega)⟩

set_option maxRecDepth 100000 in
set_option maxHeartbeats 1000000 in
theorem does_walk (a : Option Addr) (len cap : Nat) (w : World) (h0 : Fits w (.slice 2 (.cons 1 .bool (.cons 1 (.int .i64) .nil))) [.slice a len cap]) :
    Calls Try.prog 5 #[.slice a len cap] w (Ret w (.bool true)) := by
  obtain ⟨hlen, hcell⟩ := steps_in h0
  clear h0
  unfold maxLen at hlen
  go_enter Try.func5, Try.ntmps5
  go_wp2_with fail
  refine Calls.mono (works_law _) ?_
  rintro e w1 ⟨rfl, hb1⟩
  have z1 := Below.size hb1; try simp only [World.size_alloc, World.size_setCell, World.size_drew] at z1
  go_wp2_with fail
  · go_ret
    exact Ret.mk rfl (by repeat (first | with_reducible exact Below.refl _ _ | (with_reducible refine Below.al ?_) | (with_reducible refine Below.drew ?_) | (with_reducible refine Below.set ?_ (by first | (simp; done) | omega | (simp; omega))) | (with_reducible refine Below.thru ?_ (by assumption))))
  · have hl5 : (len : Int) ≤ 500 := by assumption
    have H0 := Lib.hid hcell
    clear hcell
    go_loopg [5] len (fun g i wr => ∃ (k : Nat) (kn : Bool) (s v : Int) (l : Nat), Below w.heap.size w wr ∧ Box wr w1.heap.size [.int .i64 s, .int .i64 v, .int .i64 l, .bool kn] ∧ Box wr (w1.heap.size + 1) [.int .i64 s, .int .i64 v, .int .i64 l, .bool kn] ∧
      Ok s v ∧ l ≤ 6 ∧ g = len - k ∧ k ≤ len ∧ i = .int .i64 k)
    case atStart =>
      exact ⟨0, false, 0, 0, 0, (by repeat (first | with_reducible exact Below.refl _ _ | (with_reducible refine Below.al ?_) | (with_reducible refine Below.drew ?_) | (with_reducible refine Below.set ?_ (by first | (simp; done) | omega | (simp; omega))) | (with_reducible refine Below.thru ?_ (by assumption)))), (by (try rw [show ((0 : Nat) : Int) = 0 from rfl]); repeat (first | fail | (with_reducible refine Box.below ?_ (by assumption)) | (with_reducible refine Box.drew ?_) | (with_reducible refine Box.new_at (by first | rfl | (simp; done) | omega)) | (with_reducible refine Box.al ?_) | (with_reducible apply Box.set0) | (with_reducible apply Box.set1) | (with_reducible apply Box.set2) | (with_reducible apply Box.set3) | (with_reducible apply Box.set4) | (with_reducible apply Box.set5) | (with_reducible apply Box.set6) | (with_reducible apply Box.set7) | (with_reducible apply Box.set8) | (with_reducible refine Box.oth ?_ (by first | (simp; done) | omega | (simp; omega))))), (by (try rw [show ((0 : Nat) : Int) = 0 from rfl]); repeat (first | fail | (with_reducible refine Box.below ?_ (by assumption)) | (with_reducible refine Box.drew ?_) | (with_reducible refine Box.new_at (by first | rfl | (simp; done) | omega)) | (with_reducible refine Box.al ?_) | (with_reducible apply Box.set0) | (with_reducible apply Box.set1) | (with_reducible apply Box.set2) | (with_reducible apply Box.set3) | (with_reducible apply Box.set4) | (with_reducible apply Box.set5) | (with_reducible apply Box.set6) | (with_reducible apply Box.set7) | (with_reducible apply Box.set8) | (with_reducible refine Box.oth ?_ (by first | (simp; done) | omega | (simp; omega))))), by unfold Ok; omega, by omega, by omega, by omega, rfl⟩
    case round =>
      obtain ⟨k, kn, s, v, l, hbw, hA, hB, hok, hl, hg, hk, rfl⟩ := hrel
      have HA := Lib.hid hA
      have HB := Lib.hid hB
      obtain ⟨zA, cA, fA⟩ := hA
      obtain ⟨zB, cB, fB⟩ := hB
      have zw := hbw.size
      by_cases hlt : k < len
      · obtain ⟨b, off, rfl, hbl, hcs⟩ : ∃ b off, a = some ⟨b, off, none⟩ ∧ b < w.heap.size ∧ ∀ i, i < len → ∃ (k : Bool) (n : Int), w.cell? ⟨b, off + i * 2, none⟩ = some (.bool k) ∧ w.cell? ⟨b, off + i * 2 + 1, none⟩ = some (.int .i64 n) := by
          rcases H0.out with h | h
          · omega
          · exact h
        obtain ⟨lt, n, e0, e1⟩ := hcs k hlt
        rw [← hbw.cell (p := ⟨_, _, _⟩) hbl] at e0 e1
        clear hcs
        have hbr : b < wr.heap.size := by omega
        cases lt
        · -- Took
          have hok' := hok.took kn n
          go_wp2_with fail
          refine wp_region_near_tail 7 (by kernel_rfl) (by kernel_rfl) ?_
          intro hs
          simp only [List.take_succ_cons, List.take_zero, List.drop_succ_cons, List.drop_zero]
          repeat (go_big_quiet_step (((go_at_call 23; exact Calls.near (by simp) (took_any _ _ _ _ _ _ hok)))))
          refine wpQuiet_nil ?_
          clear hs
          intro w2 hb2
          have z2 := Below.size hb2; try simp only [World.size_alloc, World.size_setCell, World.size_drew] at z2
          obtain ⟨c2A, f2A⟩ := Below.blk hb2 (b := w1.heap.size) (by first | (simp; done) | omega | (simp; omega))
          obtain ⟨c2B, f2B⟩ := Below.blk hb2 (b := w1.heap.size + 1) (by first | (simp; done) | omega | (simp; omega))
          obtain ⟨c2b, f2b⟩ := Below.blk hb2 (b := b) (by first | (simp; done) | omega | (simp; omega))
          have hbr2 : b < w2.heap.size := by omega
          have hne1 : ¬ w1.heap.size = b := by omega
          have zA2 : w1.heap.size < w2.heap.size := by omega
          have zB2 : w1.heap.size + 1 < w2.heap.size := by omega
          go_wp2_with fail
          refine wp_region_near_tail 7 (by kernel_rfl) (by kernel_rfl) ?_
          intro hs
          simp only [List.take_succ_cons, List.take_zero, List.drop_succ_cons, List.drop_zero]
          repeat (go_big_quiet_step (((go_at_call 24; exact Calls.near (by simp) (rtook_any _ _ _ _ _ _ hok)))))
          refine wpQuiet_nil ?_
          clear hs
          intro w3 hb3
          have z3 := Below.size hb3; try simp only [World.size_alloc, World.size_setCell, World.size_drew] at z3
          obtain ⟨c3A, f3A⟩ := Below.blk hb3 (b := w1.heap.size) (by first | (simp; done) | omega | (simp; omega))
          obtain ⟨c3B, f3B⟩ := Below.blk hb3 (b := w1.heap.size + 1) (by first | (simp; done) | omega | (simp; omega))
          have zA3 : w1.heap.size < w3.heap.size := by omega
          have zB3 : w1.heap.size + 1 < w3.heap.size := by omega
          obtain ⟨q1, q2, q3, q4⟩ := hok'
          have hok' : Ok (tookS kn s n) (tookV kn s v n) := ⟨q1, q2, q3, q4⟩
          replace hok' := Lib.hid hok'
          go_wp2_with fail
          refine wp_region_near (by kernel_rfl) (by kernel_rfl) ?_
          intro hs
          repeat (go_big_quiet_step ((first | (go_at_call 25; exact Calls.near (by simp) (known_any _ _ _ _ _)) | (go_at_call 26; exact Calls.near (by simp) (smooth_any _ _ _ _ _ (by omega) (by omega))) | (go_at_call 27; exact Calls.near (by simp) (spread_any _ _ _ _ _ (by omega) (by omega))) | (go_at_call 28; exact Calls.near (by simp) (timeout_any _ _ _ 0 _ hok'.out (by omega))) | (go_at_call 29; exact Calls.near (by simp) (rtimeout_any _ _ _ 0 _ hok'.out (by omega))))))
          refine wpQuiet_nil ?_
          clear hs
          intro w4 hb4
          have z4 := Below.size hb4; try simp only [World.size_alloc, World.size_setCell, World.size_drew] at z4
          go_wp2_with fail
          go_roundg (len - (k + 1))
          case measure => omega
          case rel => exact ⟨k + 1, true, _, _, 0, (by repeat (first | with_reducible exact Below.refl _ _ | (with_reducible refine Below.al ?_) | (with_reducible refine Below.drew ?_) | (with_reducible refine Below.set ?_ (by first | (simp; done) | omega | (simp; omega))) | (with_reducible refine Below.thru ?_ (by assumption)))), (by (try rw [show ((0 : Nat) : Int) = 0 from rfl]); repeat (first | (with_reducible exact Hid.out HA) | (with_reducible refine Box.below ?_ (by assumption)) | (with_reducible refine Box.drew ?_) | (with_reducible refine Box.new_at (by first | rfl | (simp; done) | omega)) | (with_reducible refine Box.al ?_) | (with_reducible apply Box.set0) | (with_reducible apply Box.set1) | (with_reducible apply Box.set2) | (with_reducible apply Box.set3) | (with_reducible apply Box.set4) | (with_reducible apply Box.set5) | (with_reducible apply Box.set6) | (with_reducible apply Box.set7) | (with_reducible apply Box.set8) | (with_reducible refine Box.oth ?_ (by first | (simp; done) | omega | (simp; omega))))), (by (try rw [show ((0 : Nat) : Int) = 0 from rfl]); repeat (first | (with_reducible exact Hid.out HB) | (with_reducible refine Box.below ?_ (by assumption)) | (with_reducible refine Box.drew ?_) | (with_reducible refine Box.new_at (by first | rfl | (simp; done) | omega)) | (with_reducible refine Box.al ?_) | (with_reducible apply Box.set0) | (with_reducible apply Box.set1) | (with_reducible apply Box.set2) | (with_reducible apply Box.set3) | (with_reducible apply Box.set4) | (with_reducible apply Box.set5) | (with_reducible apply Box.set6) | (with_reducible apply Box.set7) | (with_reducible apply Box.set8) | (with_reducible refine Box.oth ?_ (by first | (simp; done) | omega | (simp; omega))))), hok'.out, by omega, rfl, hlt, by go_num⟩
        · -- Late
          obtain ⟨q1, q2, q3, q4⟩ := hok
          have hok' : Ok s v := ⟨q1, q2, q3, q4⟩
          replace hok' := Lib.hid hok'
          obtain ⟨l', hl', E⟩ : ∃ l' : Nat, l' ≤ 6 ∧ min ((l : Int) + 1) 6 = (l' : Int) := ⟨min (l + 1) 6, by omega, by omega⟩
          replace E := Lib.hid E
          go_wp2_with fail
          refine Calls.mono (late_any s v l kn _ (by omega) (by omega)) ?_
          rintro e w2 ⟨rfl, hb2⟩
          have z2 := Below.size hb2; try simp only [World.size_alloc, World.size_setCell, World.size_drew] at z2
          obtain ⟨c2_0, f2_0⟩ := Below.blk hb2 (b := w1.heap.size) (by first | (simp; done) | omega | (simp; omega))
          have z2_0 : w1.heap.size < w2.heap.size := (by first | (simp; done) | omega | (simp; omega))
          obtain ⟨c2_1, f2_1⟩ := Below.blk hb2 (b := w1.heap.size + 1) (by first | (simp; done) | omega | (simp; omega))
          have z2_1 : w1.heap.size + 1 < w2.heap.size := (by first | (simp; done) | omega | (simp; omega))
          rw [E.out]
          go_wp2_with fail
          refine Calls.mono (rlate_any s v l kn _ (by omega) (by omega)) ?_
          rintro e w3 ⟨rfl, hb3⟩
          have z3 := Below.size hb3; try simp only [World.size_alloc, World.size_setCell, World.size_drew] at z3
          obtain ⟨c3_0, f3_0⟩ := Below.blk hb3 (b := w1.heap.size) (by first | (simp; done) | omega | (simp; omega))
          have z3_0 : w1.heap.size < w3.heap.size := (by first | (simp; done) | omega | (simp; omega))
          obtain ⟨c3_1, f3_1⟩ := Below.blk hb3 (b := w1.heap.size + 1) (by first | (simp; done) | omega | (simp; omega))
          have z3_1 : w1.heap.size + 1 < w3.heap.size := (by first | (simp; done) | omega | (simp; omega))
          rw [E.out]
          go_wp2_with fail
          refine wp_region_near (by kernel_rfl) (by kernel_rfl) ?_
          intro hs
          repeat (go_big_quiet_step ((first | (go_at_call 25; exact Calls.near (by simp) (known_any _ _ _ _ _)) | (go_at_call 26; exact Calls.near (by simp) (smooth_any _ _ _ _ _ (by omega) (by omega))) | (go_at_call 27; exact Calls.near (by simp) (spread_any _ _ _ _ _ (by omega) (by omega))) | (go_at_call 28; exact Calls.near (by simp) (timeout_any _ _ _ l' _ hok'.out (by omega))) | (go_at_call 29; exact Calls.near (by simp) (rtimeout_any _ _ _ l' _ hok'.out (by omega))))))
          refine wpQuiet_nil ?_
          clear hs
          intro w4 hb4
          have z4 := Below.size hb4; try simp only [World.size_alloc, World.size_setCell, World.size_drew] at z4
          go_wp2_with fail
          go_roundg (len - (k + 1))
          case measure => omega
          case rel => exact ⟨k + 1, _, _, _, l', (by repeat (first | with_reducible exact Below.refl _ _ | (with_reducible refine Below.al ?_) | (with_reducible refine Below.drew ?_) | (with_reducible refine Below.set ?_ (by first | (simp; done) | omega | (simp; omega))) | (with_reducible refine Below.thru ?_ (by assumption)))), (by (try rw [show ((0 : Nat) : Int) = 0 from rfl]); repeat (first | (with_reducible exact Hid.out HA) | (with_reducible refine Box.below ?_ (by assumption)) | (with_reducible refine Box.drew ?_) | (with_reducible refine Box.new_at (by first | rfl | (simp; done) | omega)) | (with_reducible refine Box.al ?_) | (with_reducible apply Box.set0) | (with_reducible apply Box.set1) | (with_reducible apply Box.set2) | (with_reducible apply Box.set3) | (with_reducible apply Box.set4) | (with_reducible apply Box.set5) | (with_reducible apply Box.set6) | (with_reducible apply Box.set7) | (with_reducible apply Box.set8) | (with_reducible refine Box.oth ?_ (by first | (simp; done) | omega | (simp; omega))))), (by (try rw [show ((0 : Nat) : Int) = 0 from rfl]); repeat (first | (with_reducible exact Hid.out HB) | (with_reducible refine Box.below ?_ (by assumption)) | (with_reducible refine Box.drew ?_) | (with_reducible refine Box.new_at (by first | rfl | (simp; done) | omega)) | (with_reducible refine Box.al ?_) | (with_reducible apply Box.set0) | (with_reducible apply Box.set1) | (with_reducible apply Box.set2) | (with_reducible apply Box.set3) | (with_reducible apply Box.set4) | (with_reducible apply Box.set5) | (with_reducible apply Box.set6) | (with_reducible apply Box.set7) | (with_reducible apply Box.set8) | (with_reducible refine Box.oth ?_ (by first | (simp; done) | omega | (simp; omega))))), hok'.out, by omega, rfl, hlt, by go_num⟩
      · go_wp2_with fail
        go_ret
        exact Ret.mk rfl (by repeat (first | with_reducible exact Below.refl _ _ | (with_reducible refine Below.al ?_) | (with_reducible refine Below.drew ?_) | (with_reducible refine Below.set ?_ (by first | (simp; done) | omega | (simp; omega))) | (with_reducible refine Below.thru ?_ (by assumption))))
end Go.Proofs.Yticcedempclapaa.Rtt
