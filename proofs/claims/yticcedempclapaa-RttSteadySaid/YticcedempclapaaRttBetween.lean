/- The walk of the statement RttBetween. -/
import Derived.Test.YticcedempclapaaRttLaw
namespace Go.Proofs.Yticcedempclapaa.Rtt
open Go.RowKit Go.Proofs.Yticcedempclapaa

theorem wait_bd (k : Bool) (s v : Int) (l : Nat) (hl : l ≤ 6) : 4 ≤ wait k s v l ∧ wait k s v l ≤ 64 := by
  obtain ⟨a, _⟩ := pow_bd l hl
  unfold wait
  have h4 : 4 ≤ min (max (if k = true then s / 8 + max 1 v else 8) 4) 64 := by omega
  have := Int.mul_le_mul h4 a (by omega) (by omega)
  omega

/-- The smoothed round trip is between what was measured. -/
def Betw (k : Bool) (s least most : Int) : Prop := (k = false ∧ least = 65 ∧ most = 0) ∨ (k = true ∧ 1 ≤ most ∧ most ≤ 64 ∧ 1 ≤ least ∧ least ≤ 64 ∧ 8 * least ≤ s ∧ s ≤ 8 * most + 7)
theorem Betw.took {k : Bool} {s least most : Int} (h : Betw k s least most) (t : Int) : Betw true (tookS k s t) (min least (min (max t 1) 64)) (max most (min (max t 1) 64)) := by
  have hc := clip_bd t
  rw [show min (max t 1) 64 = clip t from rfl]
  right
  rcases h with ⟨rfl, rfl, rfl⟩ | ⟨rfl, h1, h2, h3, h4, h5, h6⟩
  · simp only [tookS]
    simp
    omega
  · refine ⟨rfl, ?_⟩
    simp only [tookS, ↓reduceIte]
    omega
theorem Betw.yes {s least most : Int} (h : Betw true s least most) : least ≤ s / 8 ∧ s / 8 ≤ most ∧ 1 ≤ most := by
  rcases h with ⟨h, _⟩ | ⟨_, h1, h2, h3, h4, h5, h6⟩
  · cases h
  · omega
theorem Betw.no {s least most : Int} (h : Betw false s least most) : most = 0 := by
  rcases h with ⟨_, _, h⟩ | ⟨h, _⟩
  · exact h
  · cases h

set_option maxRecDepth 100000 in
set_option maxHeartbeats 1000000 in
theorem between_walk (a : Option Addr) (len cap : Nat) (w : World) (h0 : Fits w (.slice 2 (.cons 1 .bool (.cons 1 (.int .i64) .nil))) [.slice a len cap]) :
    Calls Try.prog 6 #[.slice a len cap] w (Ret w (.bool true)) := by
  obtain ⟨hlen, hcell⟩ := steps_in h0
  clear h0
  unfold maxLen at hlen
  go_enter Try.func6, Try.ntmps6
  go_wp2_with fail
  refine Calls.mono (works_law _) ?_
  rintro e w1 ⟨rfl, hb1⟩
  have z1 := Below.size hb1; try simp only [World.size_alloc, World.size_setCell, World.size_drew] at z1
  go_wp2_with fail
  · go_ret
    exact Ret.mk rfl (by repeat (first | with_reducible exact Below.refl _ _ | (with_reducible refine Below.al ?_) | (with_reducible refine Below.drew ?_) | (with_reducible refine Below.set ?_ (by first | (simp; done) | omega | (simp; omega))) | (with_reducible refine Below.thru ?_ (by assumption))))
  · have hl5 : (len : Int) ≤ 500 := by assumption
    have H0 := Lib.hid hcell
    clear hcell
    go_loopg [4, 5, 6] len (fun g x y i wr => ∃ (k : Nat) (kn : Bool) (s v : Int) (l : Nat) (least most : Int), Below w.heap.size w wr ∧ Box wr w1.heap.size [.int .i64 s, .int .i64 v, .int .i64 l, .bool kn] ∧
      Ok s v ∧ Aside (Betw kn s least most) ∧ l ≤ 6 ∧ g = len - k ∧ k ≤ len ∧ x = .int .i64 least ∧ y = .int .i64 most ∧ i = .int .i64 k)
    case atStart =>
      exact ⟨0, false, 0, 0, 0, 65, 0, (by repeat (first | with_reducible exact Below.refl _ _ | (with_reducible refine Below.al ?_) | (with_reducible refine Below.drew ?_) | (with_reducible refine Below.set ?_ (by first | (simp; done) | omega | (simp; omega))) | (with_reducible refine Below.thru ?_ (by assumption)))), (by (try rw [show ((0 : Nat) : Int) = 0 from rfl]); repeat (first | fail | (with_reducible refine Box.below ?_ (by assumption)) | (with_reducible refine Box.drew ?_) | (with_reducible refine Box.new_at (by first | rfl | (simp; done) | omega)) | (with_reducible refine Box.al ?_) | (with_reducible apply Box.set0) | (with_reducible apply Box.set1) | (with_reducible apply Box.set2) | (with_reducible apply Box.set3) | (with_reducible apply Box.set4) | (with_reducible apply Box.set5) | (with_reducible apply Box.set6) | (with_reducible apply Box.set7) | (with_reducible apply Box.set8) | (with_reducible refine Box.oth ?_ (by first | (simp; done) | omega | (simp; omega))))), by unfold Ok; omega, .inl ⟨rfl, rfl, rfl⟩, by omega, by omega, by omega, rfl, rfl, rfl⟩
    case round =>
      obtain ⟨k, kn, s, v, l, least, most, hbw, hA, hok, hBt, hl, hg, hk, rfl, rfl, rfl⟩ := hrel
      have HA := Lib.hid hA
      obtain ⟨zA, cA, fA⟩ := hA
      have zw := hbw.size
      by_cases hlt : k < len
      · obtain ⟨b, off, rfl, hbl, hcs⟩ : ∃ b off, a = some ⟨b, off, none⟩ ∧ b < w.heap.size ∧ ∀ i, i < len → ∃ (k : Bool) (n : Int), w.cell? ⟨b, off + i * 2, none⟩ = some (.bool k) ∧ w.cell? ⟨b, off + i * 2 + 1, none⟩ = some (.int .i64 n) := by
          rcases H0.out with h | h
          · omega
          · exact h
        obtain ⟨lt, n, e0, e1⟩ := hcs k hlt
        rw [← hbw.cell (p := ⟨_, _, _⟩) hbl] at e0 e1
        clear hcs
        have hbr : b < wr.heap.size := by omega
        cases lt
        · -- Took
          have hok' := hok.took kn n
          obtain ⟨q1, q2, q3, q4⟩ := hok'
          have hok' : Ok (tookS kn s n) (tookV kn s v n) := ⟨q1, q2, q3, q4⟩
          have hBt := Betw.took hBt.out n
          replace hok' := Lib.hid hok'; replace hBt := Lib.hid hBt
          generalize hS : tookS kn s n = s' at *
          generalize hV : tookV kn s v n = v' at *
          replace hS := Lib.hid hS; replace hV := Lib.hid hV
          go_wp2_with fail
          refine wp_region_near_tail 7 (by kernel_rfl) (by kernel_rfl) ?_
          intro hs
          simp only [List.take_succ_cons, List.take_zero, List.drop_succ_cons, List.drop_zero]
          repeat (go_big_quiet_step (((go_at_call 23; exact Calls.near (by simp) (took_any _ _ _ _ _ _ hok)))))
          refine wpQuiet_nil ?_
          clear hs
          intro w2 hb2
          rw [hS.out, hV.out]
          have z2 := Below.size hb2; try simp only [World.size_alloc, World.size_setCell, World.size_drew] at z2
          obtain ⟨c2A, f2A⟩ := Below.blk hb2 (b := w1.heap.size) (by first | (simp; done) | omega | (simp; omega))
          obtain ⟨c2b, f2b⟩ := Below.blk hb2 (b := b) (by first | (simp; done) | omega | (simp; omega))
          have hbr2 : b < w2.heap.size := by omega
          have hne1 : ¬ w1.heap.size = b := by omega
          have zA2 : w1.heap.size < w2.heap.size := by omega
          obtain ⟨hy1, hy2, hy3⟩ := Betw.yes hBt.out
          have hs1 : decide (s' / 8 < (min least (min (max n 1) 64))) = false := by simp; omega
          have hs2 : decide ((max most (min (max n 1) 64)) < s' / 8) = false := by simp; omega
          have hw := wait_bd true s' v' 0 (by omega)
          have ht1 : decide (wait true s' v' 0 < 4) = false := by simp; omega
          have ht2 : decide (64 < wait true s' v' 0) = false := by simp; omega
          have hv0 : decide (v' / 4 < 0) = false := by simp; omega
          go_wp2_with fail
          refine Calls.mono (known_any s' v' 0 true _) ?_
          rintro e w3 ⟨rfl, hb3⟩
          have z3 := Below.size hb3; try simp only [World.size_alloc, World.size_setCell, World.size_drew] at z3
          obtain ⟨c3_0, f3_0⟩ := Below.blk hb3 (b := w1.heap.size) (by first | (simp; done) | omega | (simp; omega))
          have z3_0 : w1.heap.size < w3.heap.size := (by first | (simp; done) | omega | (simp; omega))
          go_wp2_with fail
          refine Calls.mono (smooth_any s' v' 0 true _ (by omega) (by omega)) ?_
          rintro e w4 ⟨rfl, hb4⟩
          have z4 := Below.size hb4; try simp only [World.size_alloc, World.size_setCell, World.size_drew] at z4
          obtain ⟨c4_0, f4_0⟩ := Below.blk hb4 (b := w1.heap.size) (by first | (simp; done) | omega | (simp; omega))
          have z4_0 : w1.heap.size < w4.heap.size := (by first | (simp; done) | omega | (simp; omega))
          go_wp2_with fail
          refine Calls.mono (smooth_any s' v' 0 true _ (by omega) (by omega)) ?_
          rintro e w5 ⟨rfl, hb5⟩
          have z5 := Below.size hb5; try simp only [World.size_alloc, World.size_setCell, World.size_drew] at z5
          obtain ⟨c5_0, f5_0⟩ := Below.blk hb5 (b := w1.heap.size) (by first | (simp; done) | omega | (simp; omega))
          have z5_0 : w1.heap.size < w5.heap.size := (by first | (simp; done) | omega | (simp; omega))
          go_wp2_with fail
          refine Calls.mono (timeout_any true s' v' 0 _ hok'.out (by omega)) ?_
          rintro e w6 ⟨rfl, hb6⟩
          have z6 := Below.size hb6; try simp only [World.size_alloc, World.size_setCell, World.size_drew] at z6
          obtain ⟨c6_0, f6_0⟩ := Below.blk hb6 (b := w1.heap.size) (by first | (simp; done) | omega | (simp; omega))
          have z6_0 : w1.heap.size < w6.heap.size := (by first | (simp; done) | omega | (simp; omega))
          go_wp2_with fail
          refine Calls.mono (timeout_any true s' v' 0 _ hok'.out (by omega)) ?_
          rintro e w7 ⟨rfl, hb7⟩
          have z7 := Below.size hb7; try simp only [World.size_alloc, World.size_setCell, World.size_drew] at z7
          obtain ⟨c7_0, f7_0⟩ := Below.blk hb7 (b := w1.heap.size) (by first | (simp; done) | omega | (simp; omega))
          have z7_0 : w1.heap.size < w7.heap.size := (by first | (simp; done) | omega | (simp; omega))
          go_wp2_with fail
          refine Calls.mono (spread_any s' v' 0 true _ (by omega) (by omega)) ?_
          rintro e w8 ⟨rfl, hb8⟩
          have z8 := Below.size hb8; try simp only [World.size_alloc, World.size_setCell, World.size_drew] at z8
          obtain ⟨c8_0, f8_0⟩ := Below.blk hb8 (b := w1.heap.size) (by first | (simp; done) | omega | (simp; omega))
          have z8_0 : w1.heap.size < w8.heap.size := (by first | (simp; done) | omega | (simp; omega))
          go_wp2_with fail
          go_roundg (len - (k + 1))
          case measure => omega
          case rel => exact ⟨k + 1, true, s', v', 0, (min least (min (max n 1) 64)), (max most (min (max n 1) 64)), (by repeat (first | with_reducible exact Below.refl _ _ | (with_reducible refine Below.al ?_) | (with_reducible refine Below.drew ?_) | (with_reducible refine Below.set ?_ (by first | (simp; done) | omega | (simp; omega))) | (with_reducible refine Below.thru ?_ (by assumption)))), (by (try rw [show ((0 : Nat) : Int) = 0 from rfl]); repeat (first | (with_reducible exact Hid.out HA) | (with_reducible refine Box.below ?_ (by assumption)) | (with_reducible refine Box.drew ?_) | (with_reducible refine Box.new_at (by first | rfl | (simp; done) | omega)) | (with_reducible refine Box.al ?_) | (with_reducible apply Box.set0) | (with_reducible apply Box.set1) | (with_reducible apply Box.set2) | (with_reducible apply Box.set3) | (with_reducible apply Box.set4) | (with_reducible apply Box.set5) | (with_reducible apply Box.set6) | (with_reducible apply Box.set7) | (with_reducible apply Box.set8) | (with_reducible refine Box.oth ?_ (by first | (simp; done) | omega | (simp; omega))))), hok'.out, hBt.out, by omega, by omega, hlt, rfl, rfl, by go_num⟩
        · -- Late
          obtain ⟨q1, q2, q3, q4⟩ := hok
          have hok' : Ok s v := ⟨q1, q2, q3, q4⟩
          obtain ⟨l', hl', E⟩ : ∃ l' : Nat, l' ≤ 6 ∧ min ((l : Int) + 1) 6 = (l' : Int) := ⟨min (l + 1) 6, by omega, by omega⟩
          have hBt := hBt.out
          replace hok' := Lib.hid hok'; replace E := Lib.hid E; replace hBt := Lib.hid hBt
          cases kn
          all_goals
            go_wp2_with fail
          · refine Calls.mono (late_any s v l false _ (by omega) (by omega)) ?_
            rintro e w2 ⟨rfl, hb2⟩
            have z2 := Below.size hb2; try simp only [World.size_alloc, World.size_setCell, World.size_drew] at z2
            obtain ⟨c2_0, f2_0⟩ := Below.blk hb2 (b := w1.heap.size) (by first | (simp; done) | omega | (simp; omega))
            have z2_0 : w1.heap.size < w2.heap.size := (by first | (simp; done) | omega | (simp; omega))
            rw [E.out]
            have hw := wait_bd false s v l' (by omega)
            have ht1 : decide (wait false s v l' < 4) = false := by simp; omega
            have ht2 : decide (64 < wait false s v l') = false := by simp; omega
            have hv0 : decide (v / 4 < 0) = false := by simp; omega
            go_wp2_with fail
            refine Calls.mono (known_any s v l' false _) ?_
            rintro e w3 ⟨rfl, hb3⟩
            have z3 := Below.size hb3; try simp only [World.size_alloc, World.size_setCell, World.size_drew] at z3
            obtain ⟨c3_0, f3_0⟩ := Below.blk hb3 (b := w1.heap.size) (by first | (simp; done) | omega | (simp; omega))
            have z3_0 : w1.heap.size < w3.heap.size := (by first | (simp; done) | omega | (simp; omega))
            go_wp2_with fail
            refine Calls.mono (timeout_any false s v l' _ hok'.out (by omega)) ?_
            rintro e w6 ⟨rfl, hb6⟩
            have z6 := Below.size hb6; try simp only [World.size_alloc, World.size_setCell, World.size_drew] at z6
            obtain ⟨c6_0, f6_0⟩ := Below.blk hb6 (b := w1.heap.size) (by first | (simp; done) | omega | (simp; omega))
            have z6_0 : w1.heap.size < w6.heap.size := (by first | (simp; done) | omega | (simp; omega))
            go_wp2_with fail
            refine Calls.mono (timeout_any false s v l' _ hok'.out (by omega)) ?_
            rintro e w7 ⟨rfl, hb7⟩
            have z7 := Below.size hb7; try simp only [World.size_alloc, World.size_setCell, World.size_drew] at z7
            obtain ⟨c7_0, f7_0⟩ := Below.blk hb7 (b := w1.heap.size) (by first | (simp; done) | omega | (simp; omega))
            have z7_0 : w1.heap.size < w7.heap.size := (by first | (simp; done) | omega | (simp; omega))
            go_wp2_with fail
            refine Calls.mono (spread_any s v l' false _ (by omega) (by omega)) ?_
            rintro e w8 ⟨rfl, hb8⟩
            have z8 := Below.size hb8; try simp only [World.size_alloc, World.size_setCell, World.size_drew] at z8
            obtain ⟨c8_0, f8_0⟩ := Below.blk hb8 (b := w1.heap.size) (by first | (simp; done) | omega | (simp; omega))
            have z8_0 : w1.heap.size < w8.heap.size := (by first | (simp; done) | omega | (simp; omega))
            go_wp2_with fail
            go_roundg (len - (k + 1))
            case measure => omega
            case rel => exact ⟨k + 1, false, s, v, l', least, most, (by repeat (first | with_reducible exact Below.refl _ _ | (with_reducible refine Below.al ?_) | (with_reducible refine Below.drew ?_) | (with_reducible refine Below.set ?_ (by first | (simp; done) | omega | (simp; omega))) | (with_reducible refine Below.thru ?_ (by assumption)))), (by (try rw [show ((0 : Nat) : Int) = 0 from rfl]); repeat (first | (with_reducible exact Hid.out HA) | (with_reducible refine Box.below ?_ (by assumption)) | (with_reducible refine Box.drew ?_) | (with_reducible refine Box.new_at (by first | rfl | (simp; done) | omega)) | (with_reducible refine Box.al ?_) | (with_reducible apply Box.set0) | (with_reducible apply Box.set1) | (with_reducible apply Box.set2) | (with_reducible apply Box.set3) | (with_reducible apply Box.set4) | (with_reducible apply Box.set5) | (with_reducible apply Box.set6) | (with_reducible apply Box.set7) | (with_reducible apply Box.set8) | (with_reducible refine Box.oth ?_ (by first | (simp; done) | omega | (simp; omega))))), hok'.out, hBt.out, by omega, by omega, hlt, rfl, rfl, by go_num⟩
          · refine Calls.mono (late_any s v l true _ (by omega) (by omega)) ?_
            rintro e w2 ⟨rfl, hb2⟩
            have z2 := Below.size hb2; try simp only [World.size_alloc, World.size_setCell, World.size_drew] at z2
            obtain ⟨c2_0, f2_0⟩ := Below.blk hb2 (b := w1.heap.size) (by first | (simp; done) | omega | (simp; omega))
            have z2_0 : w1.heap.size < w2.heap.size := (by first | (simp; done) | omega | (simp; omega))
            rw [E.out]
            obtain ⟨hy1, hy2, hy3⟩ := Betw.yes hBt.out
            have hs1 : decide (s / 8 < least) = false := by simp; omega
            have hs2 : decide (most < s / 8) = false := by simp; omega
            have hw := wait_bd true s v l' (by omega)
            have ht1 : decide (wait true s v l' < 4) = false := by simp; omega
            have ht2 : decide (64 < wait true s v l') = false := by simp; omega
            have hv0 : decide (v / 4 < 0) = false := by simp; omega
            go_wp2_with fail
            refine Calls.mono (known_any s v l' true _) ?_
            rintro e w3 ⟨rfl, hb3⟩
            have z3 := Below.size hb3; try simp only [World.size_alloc, World.size_setCell, World.size_drew] at z3
            obtain ⟨c3_0, f3_0⟩ := Below.blk hb3 (b := w1.heap.size) (by first | (simp; done) | omega | (simp; omega))
            have z3_0 : w1.heap.size < w3.heap.size := (by first | (simp; done) | omega | (simp; omega))
            go_wp2_with fail
            refine Calls.mono (smooth_any s v l' true _ (by omega) (by omega)) ?_
            rintro e w4 ⟨rfl, hb4⟩
            have z4 := Below.size hb4; try simp only [World.size_alloc, World.size_setCell, World.size_drew] at z4
            obtain ⟨c4_0, f4_0⟩ := Below.blk hb4 (b := w1.heap.size) (by first | (simp; done) | omega | (simp; omega))
            have z4_0 : w1.heap.size < w4.heap.size := (by first | (simp; done) | omega | (simp; omega))
            go_wp2_with fail
            refine Calls.mono (smooth_any s v l' true _ (by omega) (by omega)) ?_
            rintro e w5 ⟨rfl, hb5⟩
            have z5 := Below.size hb5; try simp only [World.size_alloc, World.size_setCell, World.size_drew] at z5
            obtain ⟨c5_0, f5_0⟩ := Below.blk hb5 (b := w1.heap.size) (by first | (simp; done) | omega | (simp; omega))
            have z5_0 : w1.heap.size < w5.heap.size := (by first | (simp; done) | omega | (simp; omega))
            go_wp2_with fail
            refine Calls.mono (timeout_any true s v l' _ hok'.out (by omega)) ?_
            rintro e w6 ⟨rfl, hb6⟩
            have z6 := Below.size hb6; try simp only [World.size_alloc, World.size_setCell, World.size_drew] at z6
            obtain ⟨c6_0, f6_0⟩ := Below.blk hb6 (b := w1.heap.size) (by first | (simp; done) | omega | (simp; omega))
            have z6_0 : w1.heap.size < w6.heap.size := (by first | (simp; done) | omega | (simp; omega))
            go_wp2_with fail
            refine Calls.mono (timeout_any true s v l' _ hok'.out (by omega)) ?_
            rintro e w7 ⟨rfl, hb7⟩
            have z7 := Below.size hb7; try simp only [World.size_alloc, World.size_setCell, World.size_drew] at z7
            obtain ⟨c7_0, f7_0⟩ := Below.blk hb7 (b := w1.heap.size) (by first | (simp; done) | omega | (simp; omega))
            have z7_0 : w1.heap.size < w7.heap.size := (by first | (simp; done) | omega | (simp; omega))
            go_wp2_with fail
            refine Calls.mono (spread_any s v l' true _ (by omega) (by omega)) ?_
            rintro e w8 ⟨rfl, hb8⟩
            have z8 := Below.size hb8; try simp only [World.size_alloc, World.size_setCell, World.size_drew] at z8
            obtain ⟨c8_0, f8_0⟩ := Below.blk hb8 (b := w1.heap.size) (by first | (simp; done) | omega | (simp; omega))
            have z8_0 : w1.heap.size < w8.heap.size := (by first | (simp; done) | omega | (simp; omega))
            go_wp2_with fail
            go_roundg (len - (k + 1))
            case measure => omega
            case rel => exact ⟨k + 1, true, s, v, l', least, most, (by repeat (first | with_reducible exact Below.refl _ _ | (with_reducible refine Below.al ?_) | (with_reducible refine Below.drew ?_) | (with_reducible refine Below.set ?_ (by first | (simp; done) | omega | (simp; omega))) | (with_reducible refine Below.thru ?_ (by assumption)))), (by (try rw [show ((0 : Nat) : Int) = 0 from rfl]); repeat (first | (with_reducible exact Hid.out HA) | (with_reducible refine Box.below ?_ (by assumption)) | (with_reducible refine Box.drew ?_) | (with_reducible refine Box.new_at (by first | rfl | (simp; done) | omega)) | (with_reducible refine Box.al ?_) | (with_reducible apply Box.set0) | (with_reducible apply Box.set1) | (with_reducible apply Box.set2) | (with_reducible apply Box.set3) | (with_reducible apply Box.set4) | (with_reducible apply Box.set5) | (with_reducible apply Box.set6) | (with_reducible apply Box.set7) | (with_reducible apply Box.set8) | (with_reducible refine Box.oth ?_ (by first | (simp; done) | omega | (simp; omega))))), hok'.out, hBt.out, by omega, by omega, hlt, rfl, rfl, by go_num⟩
      · have hBt := hBt.out
        cases kn
        · obtain rfl : most = 0 := Betw.no hBt
          clear hBt
          go_wp2_with fail
          refine Calls.mono (known_any s v l false _) ?_
          rintro e w3 ⟨rfl, hb3⟩
          have z3 := Below.size hb3; try simp only [World.size_alloc, World.size_setCell, World.size_drew] at z3
          obtain ⟨c3_0, f3_0⟩ := Below.blk hb3 (b := w1.heap.size) (by first | (simp; done) | omega | (simp; omega))
          have z3_0 : w1.heap.size < w3.heap.size := (by first | (simp; done) | omega | (simp; omega))
          go_wp2_with fail
          go_ret
          exact Ret.mk rfl (by repeat (first | with_reducible exact Below.refl _ _ | (with_reducible refine Below.al ?_) | (with_reducible refine Below.drew ?_) | (with_reducible refine Below.set ?_ (by first | (simp; done) | omega | (simp; omega))) | (with_reducible refine Below.thru ?_ (by assumption))))
        · obtain ⟨_, _, hm⟩ := Betw.yes hBt
          have hmd : decide (0 < most) = true := by simp; omega
          clear hBt
          go_wp2_with fail
          refine Calls.mono (known_any s v l true _) ?_
          rintro e w3 ⟨rfl, hb3⟩
          have z3 := Below.size hb3; try simp only [World.size_alloc, World.size_setCell, World.size_drew] at z3
          obtain ⟨c3_0, f3_0⟩ := Below.blk hb3 (b := w1.heap.size) (by first | (simp; done) | omega | (simp; omega))
          have z3_0 : w1.heap.size < w3.heap.size := (by first | (simp; done) | omega | (simp; omega))
          go_wp2_with fail
          go_ret
          exact Ret.mk rfl (by repeat (first | with_reducible exact Below.refl _ _ | (with_reducible refine Below.al ?_) | (with_reducible refine Below.drew ?_) | (with_reducible refine Below.set ?_ (by first | (simp; done) | omega | (simp; omega))) | (with_reducible refine Below.thru ?_ (by assumption))))
end Go.Proofs.Yticcedempclapaa.Rtt
