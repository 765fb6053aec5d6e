/- The walk of the statement RatioEnds. -/
import Derived.Test.YticcedempclapaaRatioDoes
import Derived.Deep.DeepCutAuto
namespace Go.Proofs.Yticcedempclapaa.RatioLaw
open Go.RowKit Go.Proofs.Yticcedempclapaa Go.Proofs.Yticcedempclapaa.Ratio

/-- How many answers lead from a ratio down to none. -/
def phi (x : Int) : Nat → Int
  | 0 => 0
  | k + 1 => phi x k + need x (k + 1)
def tri : Nat → Int
  | 0 => 0
  | k + 1 => tri k + ((k : Int) + 2) * ((k : Int) + 1)
theorem phi_tri (x : Int) (k : Nat) : phi x k ≤ 30 * tri k := by
  induction k with
  | zero => simp [phi, tri]
  | succ k ih =>
    have hb := held_bd x
    have h1 : 0 ≤ ((k : Int) + 2) * ((k : Int) + 1) := Int.mul_nonneg (by omega) (by omega)
    have h2 : held x * (((k : Int) + 2) * ((k : Int) + 1)) ≤ 30 * (((k : Int) + 2) * ((k : Int) + 1)) := Int.mul_le_mul_of_nonneg_right hb.2 h1
    have h3 : need x (k + 1) = held x * (((k : Int) + 2) * ((k : Int) + 1)) := by
      unfold need
      rw [← Int.mul_assoc]
      congr 2 <;> push_cast <;> omega
    simp only [phi, tri]
    rw [h3]
    omega
theorem tri_bd : ∀ k : Nat, k ≤ 14 → tri k ≤ 1120 := by decide
theorem phi_bd (x : Int) (k : Nat) (h : k ≤ 14) : phi x k ≤ 33600 := by
  have := phi_tri x k
  have := tri_bd k h
  omega
theorem phi_mono (x : Int) (k : Nat) (h : k ≤ 14) : ∀ j, j ≤ k → phi x j ≤ phi x k := by
  induction k with
  | zero => intro j hj; obtain rfl : j = 0 := (by omega); exact Int.le_refl _
  | succ k ih =>
    intro j hj
    have := need_bd x (k + 1) h
    by_cases e : j = k + 1
    · subst e; exact Int.le_refl _
    · have := ih (by omega) j (by omega)
      simp only [phi]
      omega
theorem goodN_phi (x : Int) (k : Nat) : ∀ c, k ≤ 14 → phi x (goodN x k c).1 - (goodN x k c).2 = phi x k - c ∧ (phi x k ≤ c → (goodN x k c).1 = 0) := by
  induction k with
  | zero => intro c _; simp [goodN, phi]
  | succ k ih =>
    intro c hk
    have hn := need_bd x (k + 1) hk
    have h0 := phi_mono x k (by omega) 0 (by omega)
    simp only [goodN, phi] at *
    split
    · refine ⟨rfl, fun h => ?_⟩
      omega
    · obtain ⟨a, b⟩ := ih (c - need x (k + 1)) (by omega)
      exact ⟨by omega, fun h => b (by omega)⟩

/-- What holds behind i times a thousand answers. -/
def Sinks (x : Int) (i k : Nat) (c : Int) : Prop := k = 0 ∨ (i ≤ 33 ∧ phi x k - c ≤ 33600 - 1000 * i)
theorem sinks_step (x : Int) (i k : Nat) (c : Int) (hk : k ≤ 14) (hc : 0 ≤ c) (h : Sinks x i k c) {j : Nat} {c' : Int} (hg : goodN x k (c + min (max 1000 0) 1000) = (j, c')) (j' : Nat) (hj : j' ≤ j) : Sinks x (i + 1) j' c' := by
  obtain ⟨h1, h2⟩ := goodN_phi x k (c + min (max 1000 0) 1000) hk
  have h3 := goodN_le x k (c + min (max 1000 0) 1000)
  rw [hg] at h1 h2 h3
  dsimp only at h1 h2 h3
  unfold Sinks at *
  by_cases e : j' = 0
  · exact .inl e
  · right
    rcases h with h | ⟨hi, h⟩
    · omega
    · have hm := phi_mono x j (by omega) j' hj
      by_cases e33 : i = 33
      · have := h2 (by omega)
        omega
      · omega
theorem sinks_end (x : Int) (k : Nat) (c : Int) (h : Sinks x 40 k c) : k = 0 := by unfold Sinks at h; omega

/-- What holds behind i answers that were lost. -/
def Rises (x : Int) (i k : Nat) : Prop := min ((2 : Int) ^ i) (held x / 2 + held x % 2) ≤ (k : Int) + 1 ∧ (i = 0 ∨ (k : Int) + 1 ≤ held x / 2 + held x % 2)
theorem rises_step (x : Int) (i k j : Nat) (h : Rises x i k) (hj : fit (2 * ((k : Int) + 1)) x = (j : Int) + 1) : Rises x (i + 1) j := by
  have hb := held_bd x
  unfold Rises fit at *
  have hp : (2 : Int) ^ (i + 1) = 2 ^ i * 2 := Int.pow_succ 2 i
  rw [hp]
  have h1 : (0 : Int) < 2 ^ i := Int.pow_pos (by omega)
  omega
theorem rises_end (x : Int) (k : Nat) (h : Rises x 5 k) : (k : Int) + 1 = fit 15 x := by
  have hb := held_bd x
  unfold Rises fit at *
  have : (2 : Int) ^ 5 = 32 := by decide
  rw [this] at h
  omega

set_option maxRecDepth 100000 in
set_option maxHeartbeats 1000000 in
theorem ends_walk (a : Option Addr) (len cap : Nat) (a1 : Int) (w1 : (Lit.int .i64 a1).wf = true) (w : World) (h0 : Fits w (.slice 3 (.cons 1 (.int .i64) (.cons 1 (.int .i64) (.cons 1 (.int .i64) .nil)))) [.slice a len cap]) :
    Calls Try.prog 4 #[.slice a len cap, .int .i64 a1] w (Ret w (.bool true)) := by
  obtain ⟨hlen, hcell⟩ := ops_in h0
  clear h0
  unfold maxLen at hlen
  go_enter Try.func4, Try.ntmps4
  go_wp2_with fail
  refine Calls.mono (works_law _) ?_
  rintro e w1 ⟨rfl, hb1⟩
  have z1 := Below.size hb1; try simp only [World.size_alloc, World.size_setCell, World.size_drew] at z1
  go_wp2_with fail
  · go_ret
    exact Ret.mk rfl (by repeat (first | exact Below.refl _ _ | with_reducible exact Below.refl _ _ | (with_reducible refine Below.al ?_) | (with_reducible refine Below.drew ?_) | (with_reducible refine Below.set ?_ (by first | (simp; done) | omega | (simp; omega))) | (with_reducible refine Below.thru ?_ (by assumption))))
  · have hl5 : (len : Int) ≤ 500 := by assumption
    have H0 := Lib.hid hcell
    clear hcell
    go_loopg [6] len (fun g i wr => ∃ (k j : Nat) (cc : Int), Below w.heap.size w wr ∧ Box wr w1.heap.size [.int .i64 j, .int .i64 cc] ∧
      g = len - k ∧ k ≤ len ∧ i = .int .i64 k ∧ j ≤ 14 ∧ 0 ≤ cc ∧ cc ≤ 1000 * k)
    case atStart =>
      exact ⟨0, 0, 0, (by repeat (first | exact Below.refl _ _ | with_reducible exact Below.refl _ _ | (with_reducible refine Below.al ?_) | (with_reducible refine Below.drew ?_) | (with_reducible refine Below.set ?_ (by first | (simp; done) | omega | (simp; omega))) | (with_reducible refine Below.thru ?_ (by assumption)))), by simpa using Box.new (w := w1) [.int .i64 0, .int .i64 0] _, by omega, by omega, rfl, by omega, by omega, by omega⟩
    case round =>
      obtain ⟨k, j, cc, hbw, hR, hg, hk, rfl, hj, hc0, hc1⟩ := hrel
      have HR := Lib.hid hR
      obtain ⟨zR, cR, fR⟩ := hR
      have zw := hbw.size
      by_cases hlt : k < len
      · obtain ⟨b, off, rfl, hbl, hcs⟩ : ∃ b off, a = some ⟨b, off, none⟩ ∧ b < w.heap.size ∧ ∀ i, i < len → ∃ k m x : Int, w.cell? ⟨b, off + i * 3, none⟩ = some (.int .i64 k) ∧ w.cell? ⟨b, off + i * 3 + 1, none⟩ = some (.int .i64 m) ∧ w.cell? ⟨b, off + i * 3 + 2, none⟩ = some (.int .i64 x) := by
          rcases H0.out with h | h
          · omega
          · exact h
        obtain ⟨kd, m, x, e0, e1, e2⟩ := hcs k hlt
        rw [← hbw.cell (p := ⟨_, _, _⟩) hbl] at e0 e1 e2
        clear hcs
        have hbr : b < wr.heap.size := by omega
        go_wp2_with fail
        · -- Lost
          obtain ⟨j', hj', E1, E2⟩ := fit_nat (2 * ((j : Int) + 1) - 1) x (by omega)
          replace E1 := Lib.hid E1; replace E2 := Lib.hid E2
          refine wp_region_near_tail 7 (by kernel_rfl) (by kernel_rfl) ?_
          intro hs
          simp only [List.take_succ_cons, List.take_zero, List.drop_succ_cons, List.drop_zero]
          repeat (go_big_quiet_step (((go_at_call 15; exact Calls.near (by simp) (lost_any _ _ _ _ (by omega) (by omega))))))
          refine wpQuiet_nil ?_
          clear hs
          intro w2 hb2
          rw [E1.out]
          have z2 := Below.size hb2; try simp only [World.size_alloc, World.size_setCell, World.size_drew] at z2
          obtain ⟨c2, f2⟩ := Below.blk hb2 (b := w1.heap.size) (by first | (simp; done) | omega | (simp; omega))
          go_wp2_with fail
          go_roundg (len - (k + 1))
          case measure => omega
          case rel => exact ⟨k + 1, j', 0, (by repeat (first | exact Below.refl _ _ | with_reducible exact Below.refl _ _ | (with_reducible refine Below.al ?_) | (with_reducible refine Below.drew ?_) | (with_reducible refine Below.set ?_ (by first | (simp; done) | omega | (simp; omega))) | (with_reducible refine Below.thru ?_ (by assumption)))), (by repeat (first | (with_reducible exact Hid.out HR) | (with_reducible refine Box.below ?_ (by assumption)) | (with_reducible refine Box.drew ?_) | (with_reducible refine Box.new_at (by first | rfl | (simp; done) | omega)) | (with_reducible refine Box.al ?_) | (with_reducible apply Box.set0) | (with_reducible apply Box.set1) | (with_reducible apply Box.set2) | (with_reducible apply Box.set3) | (with_reducible apply Box.set4) | (with_reducible apply Box.set5) | (with_reducible apply Box.set6) | (with_reducible apply Box.set7) | (with_reducible apply Box.set8) | (with_reducible refine Box.oth ?_ (by first | (simp; done) | omega | (simp; omega))))), rfl, hlt, by go_num, hj', by omega, by omega⟩
        · -- Good
          have hm : 0 ≤ min (max m 0) 1000 ∧ min (max m 0) 1000 ≤ 1000 := by omega
          have hg1 := goodN_le x j (cc + min (max m 0) 1000)
          have hg2 := goodN_bd x j (cc + min (max m 0) 1000) (by omega) hj
          obtain ⟨⟨j1, c'⟩, hgd⟩ : ∃ p, goodN x j (cc + min (max m 0) 1000) = p := ⟨_, rfl⟩
          rw [hgd] at hg1 hg2
          dsimp only at hg1 hg2
          obtain ⟨j', hj', E1, E2⟩ := fit_nat (j1 : Int) x (by omega)
          replace E1 := Lib.hid E1; replace E2 := Lib.hid E2; replace hgd := Lib.hid hgd
          refine wp_region_near_tail 12 (by kernel_rfl) (by kernel_rfl) ?_
          intro hs
          simp only [List.take_succ_cons, List.take_zero, List.drop_succ_cons, List.drop_zero]
          repeat (go_big_quiet_step (((go_at_call 17; exact Calls.near (by simp) (good_at j cc m x _ (by omega) (by omega) (by omega) hgd.out)))))
          refine wpQuiet_nil ?_
          clear hs
          intro w2 hb2
          rw [E1.out]
          have z2 := Below.size hb2; try simp only [World.size_alloc, World.size_setCell, World.size_drew] at z2
          obtain ⟨c2, f2⟩ := Below.blk hb2 (b := w1.heap.size) (by first | (simp; done) | omega | (simp; omega))
          go_wp2_with fail
          go_roundg (len - (k + 1))
          case measure => omega
          case rel => exact ⟨k + 1, j', c', (by repeat (first | exact Below.refl _ _ | with_reducible exact Below.refl _ _ | (with_reducible refine Below.al ?_) | (with_reducible refine Below.drew ?_) | (with_reducible refine Below.set ?_ (by first | (simp; done) | omega | (simp; omega))) | (with_reducible refine Below.thru ?_ (by assumption)))), (by repeat (first | (with_reducible exact Hid.out HR) | (with_reducible refine Box.below ?_ (by assumption)) | (with_reducible refine Box.drew ?_) | (with_reducible refine Box.new_at (by first | rfl | (simp; done) | omega)) | (with_reducible refine Box.al ?_) | (with_reducible apply Box.set0) | (with_reducible apply Box.set1) | (with_reducible apply Box.set2) | (with_reducible apply Box.set3) | (with_reducible apply Box.set4) | (with_reducible apply Box.set5) | (with_reducible apply Box.set6) | (with_reducible apply Box.set7) | (with_reducible apply Box.set8) | (with_reducible refine Box.oth ?_ (by first | (simp; done) | omega | (simp; omega))))), rfl, hlt, by go_num, hj', by omega, by omega⟩
      · go_upto_region 12 with fail
        go_cut [7, 8] (fun s7 s8 wx => ∃ pa pb : Nat, s7 = .pointer (some ⟨pa, 0, none⟩) ∧ s8 = .pointer (some ⟨pb, 0, none⟩) ∧ pa ≠ pb ∧ w.heap.size ≤ pa ∧ w.heap.size ≤ pb ∧ Below w.heap.size w wx ∧
          Box wx pa [.int .i64 j, .int .i64 cc] ∧ Box wx pb [.int .i64 j, .int .i64 cc])
        case first =>
          go_region
          all_goals
            go_wp2_with fail
            go_meet
            refine ⟨_, _, rfl, rfl, by omega, by omega, by omega, (by repeat (first | exact Below.refl _ _ | with_reducible exact Below.refl _ _ | (with_reducible refine Below.al ?_) | (with_reducible refine Below.drew ?_) | (with_reducible refine Below.set ?_ (by first | (simp; done) | omega | (simp; omega))) | (with_reducible refine Below.thru ?_ (by assumption)))), ?_, ?_⟩
            all_goals first | exact (by repeat (first | fail | (with_reducible refine Box.below ?_ (by assumption)) | (with_reducible refine Box.drew ?_) | (with_reducible refine Box.new_at (by first | rfl | (simp; done) | omega)) | (with_reducible refine Box.al ?_) | (with_reducible apply Box.set0) | (with_reducible apply Box.set1) | (with_reducible apply Box.set2) | (with_reducible apply Box.set3) | (with_reducible apply Box.set4) | (with_reducible apply Box.set5) | (with_reducible apply Box.set6) | (with_reducible apply Box.set7) | (with_reducible apply Box.set8) | (with_reducible refine Box.oth ?_ (by first | (simp; done) | omega | (simp; omega))))) | exact (Box.new_at (by simp)).drew
        case rest =>
          obtain ⟨pa, pb, rfl, rfl, hne, hpa, hpb, hbc, hA, hB⟩ := hcut
          have HA := Lib.hid hA
          have HB := Lib.hid hB
          clear hA hB HR zR cR fR
          go_wp2_with fail
          go_loopg [9] 40 (fun g i wx => ∃ (i0 j0 : Nat) (c0 : Int), Below w.heap.size w wx ∧ i = .int .i64 i0 ∧ g + i0 = 40 ∧ j0 ≤ 14 ∧ 0 ≤ c0 ∧ c0 ≤ 500000 + 1000 * i0 ∧ Aside (Sinks a1 i0 j0 c0) ∧ Box wx pa [.int .i64 j0, .int .i64 c0] ∧ Box wx pb [.int .i64 j, .int .i64 cc])
          case atStart => exact ⟨0, j, cc, hbc, rfl, rfl, hj, hc0, by omega, .inr ⟨by omega, by have := phi_bd a1 j hj; omega⟩, HA.out, HB.out⟩
          case round =>
            obtain ⟨i0, j0, c0, hbx, rfl, hgi, hj0, hc0', hc1', hS, hA, hB⟩ := hrel
            have HA := Lib.hid hA
            have HB := Lib.hid hB
            obtain ⟨zA, cA, fA⟩ := hA
            obtain ⟨zB, cB, fB⟩ := hB
            by_cases h40 : i0 < 40
            · obtain ⟨⟨j1, c'⟩, hgd⟩ : ∃ p, goodN a1 j0 (c0 + min (max 1000 0) 1000) = p := ⟨_, rfl⟩
              have hg1 := goodN_le a1 j0 (c0 + min (max 1000 0) 1000)
              have hg2 := goodN_bd a1 j0 (c0 + min (max 1000 0) 1000) (by omega) hj0
              rw [hgd] at hg1 hg2
              dsimp only at hg1 hg2
              obtain ⟨h14a, h14b, h14c, _⟩ := fitN_bd (j1 : Int) a1 (by omega)
              obtain ⟨j', E1⟩ : ∃ j' : Nat, fitN (j1 : Int) a1 = (j' : Int) := ⟨(fitN (j1 : Int) a1).toNat, by omega⟩
              rw [E1] at h14a h14b h14c
              have hS' := sinks_step a1 i0 j0 c0 hj0 hc0' hS.out hgd j' (by omega)
              replace E1 := Lib.hid E1; replace hgd := Lib.hid hgd; replace hS' := Lib.hid hS'
              go_wp2_with fail
              refine Calls.mono (good_at j0 c0 1000 a1 _ (by omega) (by omega) (by omega) hgd.out) ?_
              rintro e w2 ⟨rfl, hb2⟩
              have z2 := Below.size hb2; try simp only [World.size_alloc, World.size_setCell, World.size_drew] at z2
              obtain ⟨c2_0, f2_0⟩ := Below.blk hb2 (b := pa) (by first | (simp; done) | omega | (simp; omega))
              have z2_0 : pa < w2.heap.size := (by first | (simp; done) | omega | (simp; omega))
              obtain ⟨c2_1, f2_1⟩ := Below.blk hb2 (b := pb) (by first | (simp; done) | omega | (simp; omega))
              have z2_1 : pb < w2.heap.size := (by first | (simp; done) | omega | (simp; omega))
              rw [E1.out]
              go_wp2_with fail
              go_roundg (40 - (i0 + 1))
              case measure => omega
              case rel => exact ⟨i0 + 1, j', c', (by repeat (first | exact Below.refl _ _ | with_reducible exact Below.refl _ _ | (with_reducible refine Below.al ?_) | (with_reducible refine Below.drew ?_) | (with_reducible refine Below.set ?_ (by first | (simp; done) | omega | (simp; omega))) | (with_reducible refine Below.thru ?_ (by assumption)))), by go_num, by omega, by omega, by omega, by omega, hS'.out, (by repeat (first | (with_reducible exact Hid.out HA) | (with_reducible refine Box.below ?_ (by assumption)) | (with_reducible refine Box.drew ?_) | (with_reducible refine Box.new_at (by first | rfl | (simp; done) | omega)) | (with_reducible refine Box.al ?_) | (with_reducible apply Box.set0) | (with_reducible apply Box.set1) | (with_reducible apply Box.set2) | (with_reducible apply Box.set3) | (with_reducible apply Box.set4) | (with_reducible apply Box.set5) | (with_reducible apply Box.set6) | (with_reducible apply Box.set7) | (with_reducible apply Box.set8) | (with_reducible refine Box.oth ?_ (by first | (simp; done) | omega | (simp; omega))))), (by repeat (first | (with_reducible exact Hid.out HB) | (with_reducible refine Box.below ?_ (by assumption)) | (with_reducible refine Box.drew ?_) | (with_reducible refine Box.new_at (by first | rfl | (simp; done) | omega)) | (with_reducible refine Box.al ?_) | (with_reducible apply Box.set0) | (with_reducible apply Box.set1) | (with_reducible apply Box.set2) | (with_reducible apply Box.set3) | (with_reducible apply Box.set4) | (with_reducible apply Box.set5) | (with_reducible apply Box.set6) | (with_reducible apply Box.set7) | (with_reducible apply Box.set8) | (with_reducible refine Box.oth ?_ (by first | (simp; done) | omega | (simp; omega)))))⟩
            · obtain rfl : i0 = 40 := by omega
              obtain rfl : j0 = 0 := sinks_end _ _ _ hS.out
              clear hS
              go_wp2_with fail
              clear cA fA zA cB fB zB
              go_loopg [10] 5 (fun g i wx => ∃ (i0 j0 : Nat) (c0' : Int), Below w.heap.size w wx ∧ i = .int .i64 i0 ∧ g + i0 = 5 ∧ j0 ≤ 14 ∧ Aside (Rises a1 i0 j0) ∧ Box wx pa [.int .i64 (0 : Nat), .int .i64 c0] ∧ Box wx pb [.int .i64 j0, .int .i64 c0'])
              case atStart => exact ⟨0, j, cc, hbx, rfl, rfl, hj, ⟨by have := held_bd a1; have : (2 : Int) ^ 0 = 1 := (by decide); omega, .inl rfl⟩, HA.out, HB.out⟩
              case round =>
                obtain ⟨i0, j0, c0', hby, rfl, hgi, hj0, hS, hA, hB⟩ := hrel
                have HA := Lib.hid hA
                have HB := Lib.hid hB
                obtain ⟨zA, cA, fA⟩ := hA
                obtain ⟨zB, cB, fB⟩ := hB
                by_cases h5 : i0 < 5
                · obtain ⟨j', hj', E1, E2⟩ := fit_nat (2 * ((j0 : Int) + 1) - 1) a1 (by omega)
                  rw [show 2 * ((j0 : Int) + 1) - 1 + 1 = 2 * ((j0 : Int) + 1) from by omega] at E2
                  have hS' := rises_step a1 i0 j0 j' hS.out E2
                  replace E1 := Lib.hid E1; replace E2 := Lib.hid E2; replace hS' := Lib.hid hS'
                  go_wp2_with fail
                  refine Calls.mono (lost_any j0 c0' a1 _ (by omega) (by omega)) ?_
                  rintro e w2 ⟨rfl, hb2⟩
                  have z2 := Below.size hb2; try simp only [World.size_alloc, World.size_setCell, World.size_drew] at z2
                  obtain ⟨c2_0, f2_0⟩ := Below.blk hb2 (b := pa) (by first | (simp; done) | omega | (simp; omega))
                  have z2_0 : pa < w2.heap.size := (by first | (simp; done) | omega | (simp; omega))
                  obtain ⟨c2_1, f2_1⟩ := Below.blk hb2 (b := pb) (by first | (simp; done) | omega | (simp; omega))
                  have z2_1 : pb < w2.heap.size := (by first | (simp; done) | omega | (simp; omega))
                  rw [E1.out]
                  go_wp2_with fail
                  go_roundg (5 - (i0 + 1))
                  case measure => omega
                  case rel => exact ⟨i0 + 1, j', 0, (by repeat (first | exact Below.refl _ _ | with_reducible exact Below.refl _ _ | (with_reducible refine Below.al ?_) | (with_reducible refine Below.drew ?_) | (with_reducible refine Below.set ?_ (by first | (simp; done) | omega | (simp; omega))) | (with_reducible refine Below.thru ?_ (by assumption)))), by go_num, by omega, hj', hS'.out, (by repeat (first | (with_reducible exact Hid.out HA) | (with_reducible refine Box.below ?_ (by assumption)) | (with_reducible refine Box.drew ?_) | (with_reducible refine Box.new_at (by first | rfl | (simp; done) | omega)) | (with_reducible refine Box.al ?_) | (with_reducible apply Box.set0) | (with_reducible apply Box.set1) | (with_reducible apply Box.set2) | (with_reducible apply Box.set3) | (with_reducible apply Box.set4) | (with_reducible apply Box.set5) | (with_reducible apply Box.set6) | (with_reducible apply Box.set7) | (with_reducible apply Box.set8) | (with_reducible refine Box.oth ?_ (by first | (simp; done) | omega | (simp; omega))))), (by repeat (first | (with_reducible exact Hid.out HB) | (with_reducible refine Box.below ?_ (by assumption)) | (with_reducible refine Box.drew ?_) | (with_reducible refine Box.new_at (by first | rfl | (simp; done) | omega)) | (with_reducible refine Box.al ?_) | (with_reducible apply Box.set0) | (with_reducible apply Box.set1) | (with_reducible apply Box.set2) | (with_reducible apply Box.set3) | (with_reducible apply Box.set4) | (with_reducible apply Box.set5) | (with_reducible apply Box.set6) | (with_reducible apply Box.set7) | (with_reducible apply Box.set8) | (with_reducible refine Box.oth ?_ (by first | (simp; done) | omega | (simp; omega)))))⟩
                · obtain rfl : i0 = 5 := by omega
                  have hfin := rises_end _ _ hS.out
                  have hne : (((j0 : Int) + 1) == (j0 : Int) + 1) = true := by simp
                  replace hfin := Lib.hid hfin
                  clear hS
                  go_wp2_with fail
                  refine Calls.mono (value_any 0 _ _ (by omega) (by omega)) ?_
                  rintro e w2 ⟨rfl, hb2⟩
                  have z2 := Below.size hb2; try simp only [World.size_alloc, World.size_setCell, World.size_drew] at z2
                  obtain ⟨c2_0, f2_0⟩ := Below.blk hb2 (b := pa) (by first | (simp; done) | omega | (simp; omega))
                  have z2_0 : pa < w2.heap.size := (by first | (simp; done) | omega | (simp; omega))
                  obtain ⟨c2_1, f2_1⟩ := Below.blk hb2 (b := pb) (by first | (simp; done) | omega | (simp; omega))
                  have z2_1 : pb < w2.heap.size := (by first | (simp; done) | omega | (simp; omega))
                  go_wp2_with fail
                  refine Calls.mono (value_any j0 _ _ (by omega) (by omega)) ?_
                  rintro e w3 ⟨rfl, hb3⟩
                  have z3 := Below.size hb3; try simp only [World.size_alloc, World.size_setCell, World.size_drew] at z3
                  obtain ⟨c3_0, f3_0⟩ := Below.blk hb3 (b := pa) (by first | (simp; done) | omega | (simp; omega))
                  have z3_0 : pa < w3.heap.size := (by first | (simp; done) | omega | (simp; omega))
                  obtain ⟨c3_1, f3_1⟩ := Below.blk hb3 (b := pb) (by first | (simp; done) | omega | (simp; omega))
                  have z3_1 : pb < w3.heap.size := (by first | (simp; done) | omega | (simp; omega))
                  go_wp2_with fail
                  refine Calls.mono (fit_law 15 _ _) ?_
                  rintro e w4 ⟨rfl, hb4⟩
                  have z4 := Below.size hb4; try simp only [World.size_alloc, World.size_setCell, World.size_drew] at z4
                  rw [← hfin.out]
                  go_wp2_with fail
                  go_ret
                  exact Ret.mk rfl (by repeat (first | exact Below.refl _ _ | with_reducible exact Below.refl _ _ | (with_reducible refine Below.al ?_) | (with_reducible refine Below.drew ?_) | (with_reducible refine Below.set ?_ (by first | (simp; done) | omega | (simp; omega))) | (with_reducible refine Below.thru ?_ (by assumption))))
end Go.Proofs.Yticcedempclapaa.RatioLaw
