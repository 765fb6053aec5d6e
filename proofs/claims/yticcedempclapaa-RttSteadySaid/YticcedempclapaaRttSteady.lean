/- The walk of the statement RttSteady. -/
import Derived.Test.YticcedempclapaaRttBetween
namespace Go.Proofs.Yticcedempclapaa.Rtt
open Go.RowKit Go.Proofs.Yticcedempclapaa

/-- A meter that has measured the same again and again. -/
def Same (k : Bool) (s v : Int) (n : Int) (i : Nat) : Prop := (k = false ∧ s = 0 ∧ v = 0 ∧ i = 0) ∨ (k = true ∧ s = 8 * n ∧ 0 < i)
theorem Same.s {k : Bool} {s v t : Int} {i : Nat} (h : Same k s v (clip t) i) : tookS k s t = 8 * clip t := by
  have := clip_bd t
  rcases h with ⟨rfl, rfl, rfl, rfl⟩ | ⟨rfl, rfl, _⟩
  · simp [tookS]
  · simp only [tookS, ↓reduceIte]; omega
theorem Same.v {s v t : Int} {i : Nat} (h : Same true s v (clip t) i) (hv : 0 ≤ v) : tookV true s v t ≤ v ∧ s = 8 * clip t := by
  rcases h with ⟨h, _⟩ | ⟨_, rfl, _⟩
  · cases h
  · refine ⟨?_, rfl⟩
    simp only [tookV, ↓reduceIte]; omega
theorem wait_mono (s v v' : Int) (h : v' ≤ v) : wait true s v' 0 ≤ wait true s v 0 := by
  unfold wait
  simp
  omega
theorem wait_n (n v : Int) (h : n ≤ 64) : n ≤ wait true (8 * n) v 0 := by
  unfold wait
  simp
  omega

set_option maxRecDepth 100000 in
set_option maxHeartbeats 1000000 in
theorem steady_walk (a0 : Int) (w0 : (Lit.int .u16 a0).wf = true) (a1 : Int) (w1' : (Lit.int .u8 a1).wf = true) (w : World) :
    Calls Try.prog 7 #[.int .u16 a0, .int .u8 a1] w (Ret w (.bool true)) := by
  have b0 := bounds_u16 w0
  have b1 := bounds_u8 w1'
  have hcb := clip_bd a0
  clear w0 w1'
  go_enter Try.func7, Try.ntmps7
  go_wp2_with fail
  refine Calls.mono (works_law _) ?_
  rintro e w1 ⟨rfl, hb1⟩
  have z1 := Below.size hb1; try simp only [World.size_alloc, World.size_setCell, World.size_drew] at z1
  go_wp2_with fail
  rw [show min (max a0 1) 64 = clip a0 from rfl]
  go_loopg [7] ((a1 + 1).toNat) (fun g i wr => ∃ (k : Nat) (kn : Bool) (s v : Int), Below w.heap.size w wr ∧ Box wr w1.heap.size [.int .i64 s, .int .i64 v, .int .i64 0, .bool kn] ∧
      Ok s v ∧ Aside (Same kn s v (clip a0) k) ∧ (g : Int) = a1 + 1 - k ∧ (k : Int) ≤ a1 + 1 ∧ i = .int .i64 k)
  case atStart => exact ⟨0, false, 0, 0, (by repeat (first | with_reducible exact Below.refl _ _ | (with_reducible refine Below.al ?_) | (with_reducible refine Below.drew ?_) | (with_reducible refine Below.set ?_ (by first | (simp; done) | omega | (simp; omega))) | (with_reducible refine Below.thru ?_ (by assumption)))), (by (try rw [show ((0 : Nat) : Int) = 0 from rfl]); repeat (first | fail | (with_reducible refine Box.below ?_ (by assumption)) | (with_reducible refine Box.drew ?_) | (with_reducible refine Box.new_at (by first | rfl | (simp; done) | omega)) | (with_reducible refine Box.al ?_) | (with_reducible apply Box.set0) | (with_reducible apply Box.set1) | (with_reducible apply Box.set2) | (with_reducible apply Box.set3) | (with_reducible apply Box.set4) | (with_reducible apply Box.set5) | (with_reducible apply Box.set6) | (with_reducible apply Box.set7) | (with_reducible apply Box.set8) | (with_reducible refine Box.oth ?_ (by first | (simp; done) | omega | (simp; omega))))), by unfold Ok; omega, .inl ⟨rfl, rfl, rfl, rfl⟩, by omega, by omega, rfl⟩
  case round =>
    obtain ⟨k, kn, s, v, hbw, hA, hok, hSm, hg, hk, rfl⟩ := hrel
    have HA := Lib.hid hA
    obtain ⟨zA, cA, fA⟩ := hA
    have zw := hbw.size
    by_cases hlt : (k : Int) ≤ a1
    · have hok' := hok.took kn a0
      obtain ⟨q1, q2, q3, q4⟩ := hok'
      obtain ⟨p1, p2, p3, p4⟩ := hok
      have hok : Ok s v := ⟨p1, p2, p3, p4⟩
      have hok' : Ok (tookS kn s a0) (tookV kn s v a0) := ⟨q1, q2, q3, q4⟩
      have hS8 := hSm.out.s
      have hdiv : 8 * clip a0 / 8 = clip a0 := by omega
      have hneS : (8 * clip a0 / 8 != clip a0) = false := by rw [hdiv]; simp
      have hneS2 : (clip a0 != clip a0) = false := by simp
      have hvle : kn = true → tookV kn s v a0 ≤ v ∧ s = 8 * clip a0 := by intro h; subst h; exact hSm.out.v p3
      rw [hS8] at hok' q1 q2
      generalize hV : tookV kn s v a0 = v' at *
      have hSm' : Same true (8 * clip a0) v' (clip a0) (k + 1) := .inr ⟨rfl, rfl, by omega⟩
      replace hV := Lib.hid hV; replace hS8 := Lib.hid hS8; replace hok' := Lib.hid hok'; replace hok := Lib.hid hok; replace hSm' := Lib.hid hSm'; replace hvle := Lib.hid hvle
      go_wp2_with fail
      refine Calls.mono (took_any kn s v 0 a0 _ hok.out) ?_
      rintro e w2 ⟨rfl, hb2⟩
      have z2 := Below.size hb2; try simp only [World.size_alloc, World.size_setCell, World.size_drew] at z2
      obtain ⟨c2_0, f2_0⟩ := Below.blk hb2 (b := w1.heap.size) (by first | (simp; done) | omega | (simp; omega))
      have z2_0 : w1.heap.size < w2.heap.size := (by first | (simp; done) | omega | (simp; omega))
      rw [hS8.out, hV.out]
      go_wp2_with fail
      refine Calls.mono (late_any s v 0 kn _ (by omega) (by omega)) ?_
      rintro e w3 ⟨rfl, hb3⟩
      have z3 := Below.size hb3; try simp only [World.size_alloc, World.size_setCell, World.size_drew] at z3
      obtain ⟨c3_0, f3_0⟩ := Below.blk hb3 (b := w1.heap.size) (by first | (simp; done) | omega | (simp; omega))
      have z3_0 : w1.heap.size < w3.heap.size := (by first | (simp; done) | omega | (simp; omega))
      obtain ⟨c3_1, f3_1⟩ := Below.blk hb3 (b := w2.heap.size) (by first | (simp; done) | omega | (simp; omega))
      have z3_1 : w2.heap.size < w3.heap.size := (by first | (simp; done) | omega | (simp; omega))
      go_wp2_with fail
      refine Calls.mono (late_any s v _ kn _ (by omega) (by omega)) ?_
      rintro e w4 ⟨rfl, hb4⟩
      have z4 := Below.size hb4; try simp only [World.size_alloc, World.size_setCell, World.size_drew] at z4
      obtain ⟨c4_0, f4_0⟩ := Below.blk hb4 (b := w1.heap.size) (by first | (simp; done) | omega | (simp; omega))
      have z4_0 : w1.heap.size < w4.heap.size := (by first | (simp; done) | omega | (simp; omega))
      obtain ⟨c4_1, f4_1⟩ := Below.blk hb4 (b := w2.heap.size) (by first | (simp; done) | omega | (simp; omega))
      have z4_1 : w2.heap.size < w4.heap.size := (by first | (simp; done) | omega | (simp; omega))
      go_wp2_with fail
      refine Calls.mono (took_any kn s v _ a0 _ hok.out) ?_
      rintro e w5 ⟨rfl, hb5⟩
      have z5 := Below.size hb5; try simp only [World.size_alloc, World.size_setCell, World.size_drew] at z5
      obtain ⟨c5_0, f5_0⟩ := Below.blk hb5 (b := w1.heap.size) (by first | (simp; done) | omega | (simp; omega))
      have z5_0 : w1.heap.size < w5.heap.size := (by first | (simp; done) | omega | (simp; omega))
      obtain ⟨c5_1, f5_1⟩ := Below.blk hb5 (b := w2.heap.size) (by first | (simp; done) | omega | (simp; omega))
      have z5_1 : w2.heap.size < w5.heap.size := (by first | (simp; done) | omega | (simp; omega))
      rw [hS8.out, hV.out]
      go_wp2_with fail
      refine wp_region_near (by kernel_rfl) (by kernel_rfl) ?_
      intro hs
      repeat (go_big_quiet_step ((first | (go_at_call 25; exact Calls.near (by simp) (known_any _ _ _ _ _)) | (go_at_call 26; exact Calls.near (by simp) (smooth_any _ _ _ _ _ (by omega) (by omega))) | (go_at_call 27; exact Calls.near (by simp) (spread_any _ _ _ _ _ (by omega) (by omega))) | (go_at_call 28; exact Calls.near (by simp) (timeout_any _ _ _ 0 _ hok'.out (by omega))) | (go_at_call 28; exact Calls.near (by simp) (timeout_any _ _ _ 0 _ hok.out (by omega))))))
      refine wpQuiet_nil ?_
      clear hs
      intro w6 hb6
      have z6 := Below.size hb6; try simp only [World.size_alloc, World.size_setCell, World.size_drew] at z6
      obtain ⟨c6_0, f6_0⟩ := Below.blk hb6 (b := w1.heap.size) (by first | (simp; done) | omega | (simp; omega))
      obtain ⟨c6_1, f6_1⟩ := Below.blk hb6 (b := w2.heap.size) (by first | (simp; done) | omega | (simp; omega))
      have z6_0 : w1.heap.size < w6.heap.size := by omega
      have z6_1 : w2.heap.size < w6.heap.size := by omega
      rcases k with _ | k
      · have hd0 : decide ((0 : Int) < ((0 : Nat) : Int)) = false := rfl
        go_wp2_with fail
        refine wp_region_near (by kernel_rfl) (by kernel_rfl) ?_
        intro hs
        repeat (go_big_quiet_step (fail))
        refine wpQuiet_nil ?_
        clear hs
        intro w7 hb7
        have z7 := Below.size hb7; try simp only [World.size_alloc, World.size_setCell, World.size_drew] at z7
        obtain ⟨c7_0, f7_0⟩ := Below.blk hb7 (b := w1.heap.size) (by first | (simp; done) | omega | (simp; omega))
        obtain ⟨c7_1, f7_1⟩ := Below.blk hb7 (b := w2.heap.size) (by first | (simp; done) | omega | (simp; omega))
        have z7_0 : w1.heap.size < w7.heap.size := by omega
        have z7_1 : w2.heap.size < w7.heap.size := by omega
        go_wp2_with fail
        go_roundg (((a1 + 1).toNat - 1))
        case measure => omega
        case rel => exact ⟨1, true, 8 * clip a0, v', (by repeat (first | with_reducible exact Below.refl _ _ | (with_reducible refine Below.al ?_) | (with_reducible refine Below.drew ?_) | (with_reducible refine Below.set ?_ (by first | (simp; done) | omega | (simp; omega))) | (with_reducible refine Below.thru ?_ (by assumption)))), (by (try rw [show ((0 : Nat) : Int) = 0 from rfl]); repeat (first | (with_reducible exact Hid.out HA) | (with_reducible refine Box.below ?_ (by assumption)) | (with_reducible refine Box.drew ?_) | (with_reducible refine Box.new_at (by first | rfl | (simp; done) | omega)) | (with_reducible refine Box.al ?_) | (with_reducible apply Box.set0) | (with_reducible apply Box.set1) | (with_reducible apply Box.set2) | (with_reducible apply Box.set3) | (with_reducible apply Box.set4) | (with_reducible apply Box.set5) | (with_reducible apply Box.set6) | (with_reducible apply Box.set7) | (with_reducible apply Box.set8) | (with_reducible refine Box.oth ?_ (by first | (simp; done) | omega | (simp; omega))))), hok'.out, hSm'.out, by omega, by omega, by go_num⟩
      · obtain rfl : kn = true := by
          rcases hSm.out with ⟨_, _, _, h⟩ | ⟨h, _⟩
          · omega
          · exact h
        obtain ⟨hv1, rfl⟩ := hvle.out rfl
        have hd0 : decide ((0 : Int) < ((k + 1 : Nat) : Int)) = true := decide_eq_true (by omega)
        have hd1 : decide (v / 4 < v' / 4) = false := by simp; omega
        have hwm := wait_mono (8 * clip a0) v v' hv1
        have hd2 : decide (wait true (8 * clip a0) v 0 < wait true (8 * clip a0) v' 0) = false := by simp; omega
        go_wp2_with fail
        refine wp_region_near (by kernel_rfl) (by kernel_rfl) ?_
        intro hs
        repeat (go_big_quiet_step ((first | (go_at_call 25; exact Calls.near (by simp) (known_any _ _ _ _ _)) | (go_at_call 26; exact Calls.near (by simp) (smooth_any _ _ _ _ _ (by omega) (by omega))) | (go_at_call 27; exact Calls.near (by simp) (spread_any _ _ _ _ _ (by omega) (by omega))) | (go_at_call 28; exact Calls.near (by simp) (timeout_any _ _ _ 0 _ hok'.out (by omega))) | (go_at_call 28; exact Calls.near (by simp) (timeout_any _ _ _ 0 _ hok.out (by omega))))))
        refine wpQuiet_nil ?_
        clear hs
        intro w7 hb7
        have z7 := Below.size hb7; try simp only [World.size_alloc, World.size_setCell, World.size_drew] at z7
        obtain ⟨c7_0, f7_0⟩ := Below.blk hb7 (b := w1.heap.size) (by first | (simp; done) | omega | (simp; omega))
        obtain ⟨c7_1, f7_1⟩ := Below.blk hb7 (b := w2.heap.size) (by first | (simp; done) | omega | (simp; omega))
        have z7_0 : w1.heap.size < w7.heap.size := by omega
        have z7_1 : w2.heap.size < w7.heap.size := by omega
        go_wp2_with fail
        go_roundg (((a1 + 1).toNat - (k + 2)))
        case measure => omega
        case rel => exact ⟨k + 2, true, 8 * clip a0, v', (by repeat (first | with_reducible exact Below.refl _ _ | (with_reducible refine Below.al ?_) | (with_reducible refine Below.drew ?_) | (with_reducible refine Below.set ?_ (by first | (simp; done) | omega | (simp; omega))) | (with_reducible refine Below.thru ?_ (by assumption)))), (by (try rw [show ((0 : Nat) : Int) = 0 from rfl]); repeat (first | (with_reducible exact Hid.out HA) | (with_reducible refine Box.below ?_ (by assumption)) | (with_reducible refine Box.drew ?_) | (with_reducible refine Box.new_at (by first | rfl | (simp; done) | omega)) | (with_reducible refine Box.al ?_) | (with_reducible apply Box.set0) | (with_reducible apply Box.set1) | (with_reducible apply Box.set2) | (with_reducible apply Box.set3) | (with_reducible apply Box.set4) | (with_reducible apply Box.set5) | (with_reducible apply Box.set6) | (with_reducible apply Box.set7) | (with_reducible apply Box.set8) | (with_reducible refine Box.oth ?_ (by first | (simp; done) | omega | (simp; omega))))), hok'.out, hSm'.out, by omega, by omega, by go_num⟩
    · obtain ⟨p1, p2, p3, p4⟩ := hok
      have hok : Ok s v := ⟨p1, p2, p3, p4⟩
      obtain ⟨rfl, rfl⟩ : kn = true ∧ s = 8 * clip a0 := by
        rcases hSm.out with ⟨_, _, _, h⟩ | ⟨h, h', _⟩
        · omega
        · exact ⟨h, h'⟩
      have hwn := wait_n (clip a0) v (by omega)
      have hwb := wait_bd true (8 * clip a0) v 0 (by omega)
      have hd1 : decide (clip a0 ≤ wait true (8 * clip a0) v 0) = true := by simp; omega
      have hd2 : decide (4 ≤ wait true (8 * clip a0) v 0) = true := decide_eq_true (by omega)
      replace hok := Lib.hid hok; replace hSm := Lib.hid hSm
      go_wp2_with fail
      refine Calls.mono (timeout_any true (8 * clip a0) v 0 _ hok.out (by omega)) ?_
      rintro e w2 ⟨rfl, hb2⟩
      have z2 := Below.size hb2; try simp only [World.size_alloc, World.size_setCell, World.size_drew] at z2
      obtain ⟨c2_0, f2_0⟩ := Below.blk hb2 (b := w1.heap.size) (by first | (simp; done) | omega | (simp; omega))
      have z2_0 : w1.heap.size < w2.heap.size := (by first | (simp; done) | omega | (simp; omega))
      go_wp2_with fail
      refine Calls.mono (timeout_any true (8 * clip a0) v 0 _ hok.out (by omega)) ?_
      rintro e w3 ⟨rfl, hb3⟩
      have z3 := Below.size hb3; try simp only [World.size_alloc, World.size_setCell, World.size_drew] at z3
      obtain ⟨c3_0, f3_0⟩ := Below.blk hb3 (b := w1.heap.size) (by first | (simp; done) | omega | (simp; omega))
      have z3_0 : w1.heap.size < w3.heap.size := (by first | (simp; done) | omega | (simp; omega))
      go_wp2_with fail
      go_ret
      exact Ret.mk rfl (by repeat (first | with_reducible exact Below.refl _ _ | (with_reducible refine Below.al ?_) | (with_reducible refine Below.drew ?_) | (with_reducible refine Below.set ?_ (by first | (simp; done) | omega | (simp; omega))) | (with_reducible refine Below.thru ?_ (by assumption))))
end Go.Proofs.Yticcedempclapaa.Rtt
