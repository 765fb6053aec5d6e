/- The walk of the statement RatioDoes. -/
import Derived.Test.YticcedempclapaaRatioLaw
import Derived.Test.YticcedempclapaaFits
namespace Go.Proofs.Yticcedempclapaa.RatioLaw
open Go.RowKit Go.Proofs.Yticcedempclapaa Go.Proofs.Yticcedempclapaa.Ratio

theorem fitN_bd (n x : Int) (h : 0 ≤ n) : 0 ≤ fitN n x ∧ fitN n x ≤ 14 ∧ fitN n x ≤ n ∧ fit (n + 1) x = fitN n x + 1 := by
  have hb := held_bd x
  unfold fitN fit
  omega

theorem goodN_bd (x : Int) (k : Nat) : ∀ c, 0 ≤ c → k ≤ 14 → 0 ≤ (goodN x k c).2 ∧ (goodN x k c).2 ≤ c := by
  induction k with
  | zero => intro c h _; simp [goodN, h]
  | succ k ih =>
    intro c h hk
    have := need_bd x (k + 1) hk
    simp only [goodN]
    split
    · exact ⟨h, Int.le_refl _⟩
    · have := ih (c - need x (k + 1)) (by omega) (by omega)
      omega

theorem fit_nat (n x : Int) (h : 0 ≤ n) : ∃ j : Nat, j ≤ 14 ∧ fitN n x = (j : Int) ∧ fit (n + 1) x = (j : Int) + 1 := by
  obtain ⟨h0, h1, _, h2⟩ := fitN_bd n x h
  exact ⟨(fitN n x).toNat, by omega, by omega, by omega⟩

theorem good_at (k0 : Nat) (c0 many x : Int) (w : World) (h0 : k0 ≤ 14) (hc0 : 0 ≤ c0) (hc1 : c0 ≤ 1000000) {j1 : Nat} {c' : Int} (h : goodN x k0 (c0 + min (max many 0) 1000) = (j1, c')) :
    Calls Try.prog 17 #[.agg #[.int .i64 k0, .int .i64 c0], .int .i64 many, .int .i64 x] w (Ret w (.agg #[.int .i64 (fitN j1 x), .int .i64 c'])) := by
  have := good_any k0 c0 many x w h0 hc0 hc1
  rw [h] at this
  exact this

theorem ops_in {w : World} {a : Option Addr} {len cap : Nat} (h : Fits w (.slice 3 (.cons 1 (.int .i64) (.cons 1 (.int .i64) (.cons 1 (.int .i64) .nil)))) [.slice a len cap]) :
    len ≤ maxLen ∧ (len = 0 ∨ ∃ b off, a = some ⟨b, off, none⟩ ∧ b < w.heap.size ∧ ∀ i, i < len → ∃ k m x : Int, w.cell? ⟨b, off + i * 3, none⟩ = some (.int .i64 k) ∧ w.cell? ⟨b, off + i * 3 + 1, none⟩ = some (.int .i64 m) ∧ w.cell? ⟨b, off + i * 3 + 2, none⟩ = some (.int .i64 x)) := by
  obtain ⟨h0, h1⟩ := fits_slice (by omega) h
  refine ⟨h0, h1.imp id ?_⟩
  rintro ⟨b, off, ha, hb, hi⟩
  refine ⟨b, off, ha, hb, fun i hlt => ?_⟩
  obtain ⟨es, _, hc, hf⟩ := hi i hlt
  obtain ⟨k, m, x, rfl, _, _, _⟩ := fits_ints3 hf
  exact ⟨k, m, x, hc 0 (by omega), hc 1 (by omega), hc 2 (by omega)⟩

set_option maxRecDepth 100000 in
set_option maxHeartbeats 1000000 in
theorem does_walk (a : Option Addr) (len cap : Nat) (w : World) (h0 : Fits w (.slice 3 (.cons 1 (.int .i64) (.cons 1 (.int .i64) (.cons 1 (.int .i64) .nil)))) [.slice a len cap]) :
    Calls Try.prog 3 #[.slice a len cap] w (Ret w (.bool true)) := by
  obtain ⟨hlen, hcell⟩ := ops_in h0
  clear h0
  unfold maxLen at hlen
  go_enter Try.func3, Try.ntmps3
  go_wp2_with fail
  refine Calls.mono (works_law _) ?_
  rintro e w1 ⟨rfl, hb1⟩
  have z1 := Below.size hb1; try simp only [World.size_alloc, World.size_setCell, World.size_drew] at z1
  go_wp2_with fail
  · go_ret
    exact Ret.mk rfl (by repeat (first | exact Below.refl _ _ | with_reducible exact Below.refl _ _ | (with_reducible refine Below.al ?_) | (with_reducible refine Below.drew ?_) | (with_reducible refine Below.set ?_ (by first | (simp; done) | omega | (simp; omega))) | (with_reducible refine Below.thru ?_ (by assumption))))
  · have hl5 : (len : Int) ≤ 500 := by assumption
    have H0 := Lib.hid hcell
    clear hcell
    go_loopg [4, 5, 6] len (fun g n c i wr => ∃ (k j : Nat) (cc : Int), Below w.heap.size w wr ∧ Box wr w1.heap.size [.int .i64 j, .int .i64 cc] ∧
      g = len - k ∧ k ≤ len ∧ i = .int .i64 k ∧ n = .int .i64 (j + 1) ∧ c = .int .i64 cc ∧ j ≤ 14 ∧ 0 ≤ cc ∧ cc ≤ 1000 * k)
    case atStart =>
      exact ⟨0, 0, 0, (by repeat (first | exact Below.refl _ _ | with_reducible exact Below.refl _ _ | (with_reducible refine Below.al ?_) | (with_reducible refine Below.drew ?_) | (with_reducible refine Below.set ?_ (by first | (simp; done) | omega | (simp; omega))) | (with_reducible refine Below.thru ?_ (by assumption)))), by simpa using Box.new (w := w1) [.int .i64 0, .int .i64 0] _, by omega, by omega, rfl, rfl, rfl, by omega, by omega, by omega⟩
    case round =>
      obtain ⟨k, j, cc, hbw, hR, hg, hk, rfl, rfl, rfl, hj, hc0, hc1⟩ := hrel
      have HR := Lib.hid hR
      obtain ⟨zR, cR, fR⟩ := hR
      have zw := hbw.size
      by_cases hlt : k < len
      · obtain ⟨b, off, rfl, hbl, hcs⟩ : ∃ b off, a = some ⟨b, off, none⟩ ∧ b < w.heap.size ∧ ∀ i, i < len → ∃ k m x : Int, w.cell? ⟨b, off + i * 3, none⟩ = some (.int .i64 k) ∧ w.cell? ⟨b, off + i * 3 + 1, none⟩ = some (.int .i64 m) ∧ w.cell? ⟨b, off + i * 3 + 2, none⟩ = some (.int .i64 x) := by
          rcases H0.out with h | h
          · omega
          · exact h
        obtain ⟨kd, m, x, e0, e1, e2⟩ := hcs k hlt
        rw [← hbw.cell (p := ⟨_, _, _⟩) hbl] at e0 e1 e2
        clear hcs
        go_wp2_with fail
        · -- Lost
          obtain ⟨j', hj', E1, E2⟩ := fit_nat (2 * ((j : Int) + 1) - 1) x (by omega)
          rw [show 2 * ((j : Int) + 1) - 1 + 1 = 2 * ((j : Int) + 1) from by omega] at E2
          replace E1 := Lib.hid E1; replace E2 := Lib.hid E2
          refine Calls.mono (lost_any j cc x _ (by omega) (by omega)) ?_
          rintro e w2 ⟨rfl, hb2⟩
          have z2 := Below.size hb2; try simp only [World.size_alloc, World.size_setCell, World.size_drew] at z2
          obtain ⟨c2_0, f2_0⟩ := Below.blk hb2 (b := w1.heap.size) (by first | (simp; done) | omega | (simp; omega))
          have z2_0 : w1.heap.size < w2.heap.size := (by first | (simp; done) | omega | (simp; omega))
          obtain ⟨c2_1, f2_1⟩ := Below.blk hb2 (b := wr.heap.size) (by first | (simp; done) | omega | (simp; omega))
          have z2_1 : wr.heap.size < w2.heap.size := (by first | (simp; done) | omega | (simp; omega))
          rw [E1.out]
          go_wp2_with fail
          refine Calls.mono (fit_law _ _ _) ?_
          rintro e w3 ⟨rfl, hb3⟩
          have z3 := Below.size hb3; try simp only [World.size_alloc, World.size_setCell, World.size_drew] at z3
          obtain ⟨c3_0, f3_0⟩ := Below.blk hb3 (b := w1.heap.size) (by first | (simp; done) | omega | (simp; omega))
          have z3_0 : w1.heap.size < w3.heap.size := (by first | (simp; done) | omega | (simp; omega))
          obtain ⟨c3_1, f3_1⟩ := Below.blk hb3 (b := wr.heap.size) (by first | (simp; done) | omega | (simp; omega))
          have z3_1 : wr.heap.size < w3.heap.size := (by first | (simp; done) | omega | (simp; omega))
          rw [E2.out]
          have hne : (((j' : Int) + 1) != (j' : Int) + 1) = false := by simp
          have hlo : decide ((j' : Int) + 1 < 1) = false := by simp; omega
          have hhi : decide (15 < (j' : Int) + 1) = false := by simp; omega
          go_wp2_with fail
          refine Calls.mono (value_any j' _ _ (by omega) (by omega)) ?_
          rintro e w4 ⟨rfl, hb4⟩
          have z4 := Below.size hb4; try simp only [World.size_alloc, World.size_setCell, World.size_drew] at z4
          obtain ⟨c4_0, f4_0⟩ := Below.blk hb4 (b := w1.heap.size) (by first | (simp; done) | omega | (simp; omega))
          have z4_0 : w1.heap.size < w4.heap.size := (by first | (simp; done) | omega | (simp; omega))
          go_wp2_with fail
          go_roundg (len - (k + 1))
          case measure => omega
          case rel => exact ⟨k + 1, j', 0, (by repeat (first | exact Below.refl _ _ | with_reducible exact Below.refl _ _ | (with_reducible refine Below.al ?_) | (with_reducible refine Below.drew ?_) | (with_reducible refine Below.set ?_ (by first | (simp; done) | omega | (simp; omega))) | (with_reducible refine Below.thru ?_ (by assumption)))), (by repeat (first | (with_reducible exact Hid.out HR) | (with_reducible refine Box.below ?_ (by assumption)) | (with_reducible refine Box.drew ?_) | (with_reducible refine Box.new_at (by first | rfl | (simp; done) | omega)) | (with_reducible refine Box.al ?_) | (with_reducible apply Box.set0) | (with_reducible apply Box.set1) | (with_reducible apply Box.set2) | (with_reducible apply Box.set3) | (with_reducible apply Box.set4) | (with_reducible apply Box.set5) | (with_reducible apply Box.set6) | (with_reducible apply Box.set7) | (with_reducible apply Box.set8) | (with_reducible refine Box.oth ?_ (by first | (simp; done) | omega | (simp; omega))))), rfl, hlt, by go_num, rfl, rfl, hj', by omega, by omega⟩
        · -- Good
          have hm : 0 ≤ min (max m 0) 1000 ∧ min (max m 0) 1000 ≤ 1000 := by omega
          have hg1 := goodN_le x j (cc + min (max m 0) 1000)
          have hg2 := goodN_bd x j (cc + min (max m 0) 1000) (by omega) hj
          obtain ⟨⟨j1, c'⟩, hgd⟩ : ∃ p, goodN x j (cc + min (max m 0) 1000) = p := ⟨_, rfl⟩
          rw [hgd] at hg1 hg2
          dsimp only at hg1 hg2
          obtain ⟨j', hj', E1, E2⟩ := fit_nat (j1 : Int) x (by omega)
          replace E1 := Lib.hid E1; replace E2 := Lib.hid E2; replace hgd := Lib.hid hgd
          refine Calls.mono (good_at j cc m x _ (by omega) (by omega) (by omega) hgd.out) ?_
          rintro e w2 ⟨rfl, hb2⟩
          have z2 := Below.size hb2; try simp only [World.size_alloc, World.size_setCell, World.size_drew] at z2
          obtain ⟨c2_0, f2_0⟩ := Below.blk hb2 (b := w1.heap.size) (by first | (simp; done) | omega | (simp; omega))
          have z2_0 : w1.heap.size < w2.heap.size := (by first | (simp; done) | omega | (simp; omega))
          obtain ⟨c2_1, f2_1⟩ := Below.blk hb2 (b := wr.heap.size) (by first | (simp; done) | omega | (simp; omega))
          have z2_1 : wr.heap.size < w2.heap.size := (by first | (simp; done) | omega | (simp; omega))
          rw [E1.out]
          rw [show min (max x 1) 30 = held x from rfl]
          have hhb := held_bd x
          go_wp2_with fail
          go_loopg [4, 5] j (fun g n c wx => ((w2.setCell ⟨w1.heap.size, 0, none⟩ (.int .i64 j')).setCell ⟨w1.heap.size, 1, none⟩ (.int .i64 c')) = wx ∧ ∃ cg : Int, n = .int .i64 (g + 1) ∧ c = .int .i64 cg ∧ g ≤ 14 ∧ 0 ≤ cg ∧ cg ≤ 2000000 ∧ Aside (goodN x g cg = (j1, c')))
          case atStart => exact ⟨rfl, _, rfl, rfl, hj, by omega, by omega, hgd.out⟩
          case round =>
            obtain ⟨rfl, cg, rfl, rfl, hgl, hg0, hg1', hA⟩ := hrel
            rcases gk with _ | g
            · obtain ⟨rfl, rfl⟩ : 0 = j1 ∧ cg = c' := by simpa [goodN] using hA.out
              go_wp2_with fail
              refine Calls.mono (fit_law _ _ _) ?_
              rintro e w3 ⟨rfl, hb3⟩
              have z3 := Below.size hb3; try simp only [World.size_alloc, World.size_setCell, World.size_drew] at z3
              obtain ⟨c3_0, f3_0⟩ := Below.blk hb3 (b := w1.heap.size) (by first | (simp; done) | omega | (simp; omega))
              have z3_0 : w1.heap.size < w3.heap.size := (by first | (simp; done) | omega | (simp; omega))
              obtain ⟨c3_1, f3_1⟩ := Below.blk hb3 (b := wr.heap.size) (by first | (simp; done) | omega | (simp; omega))
              have z3_1 : wr.heap.size < w3.heap.size := (by first | (simp; done) | omega | (simp; omega))
              rw [(show fit 1 x = (j' : Int) + 1 by simpa using E2.out)]
              have hne : (((j' : Int) + 1) != (j' : Int) + 1) = false := by simp
              have hlo : decide ((j' : Int) + 1 < 1) = false := by simp; omega
              have hhi : decide (15 < (j' : Int) + 1) = false := by simp; omega
              go_wp2_with fail
              refine Calls.mono (value_any j' _ _ (by omega) (by omega)) ?_
              rintro e w4 ⟨rfl, hb4⟩
              have z4 := Below.size hb4; try simp only [World.size_alloc, World.size_setCell, World.size_drew] at z4
              obtain ⟨c4_0, f4_0⟩ := Below.blk hb4 (b := w1.heap.size) (by first | (simp; done) | omega | (simp; omega))
              have z4_0 : w1.heap.size < w4.heap.size := (by first | (simp; done) | omega | (simp; omega))
              go_wp2_with fail
              go_roundg (len - (k + 1))
              case measure => omega
              case rel => exact ⟨k + 1, j', _, (by repeat (first | exact Below.refl _ _ | with_reducible exact Below.refl _ _ | (with_reducible refine Below.al ?_) | (with_reducible refine Below.drew ?_) | (with_reducible refine Below.set ?_ (by first | (simp; done) | omega | (simp; omega))) | (with_reducible refine Below.thru ?_ (by assumption)))), (by repeat (first | (with_reducible exact Hid.out HR) | (with_reducible refine Box.below ?_ (by assumption)) | (with_reducible refine Box.drew ?_) | (with_reducible refine Box.new_at (by first | rfl | (simp; done) | omega)) | (with_reducible refine Box.al ?_) | (with_reducible apply Box.set0) | (with_reducible apply Box.set1) | (with_reducible apply Box.set2) | (with_reducible apply Box.set3) | (with_reducible apply Box.set4) | (with_reducible apply Box.set5) | (with_reducible apply Box.set6) | (with_reducible apply Box.set7) | (with_reducible apply Box.set8) | (with_reducible refine Box.oth ?_ (by first | (simp; done) | omega | (simp; omega))))), rfl, hlt, by go_num, rfl, rfl, hj', by omega, by omega⟩
            · have hnb := need_bd x (g + 1) hgl
              unfold need at hnb
              simp only [Int.natCast_add, Int.cast_ofNat_Int] at hnb
              have hd : decide ((1 : Int) < (g : Int) + 1 + 1) = true := by simp; omega
              have hstep : (if cg < held x * ((g : Int) + 1 + 1) * ((g : Int) + 1) then (g + 1, cg) else goodN x g (cg - held x * ((g : Int) + 1 + 1) * ((g : Int) + 1))) = (j1, c') := hA.out
              replace hstep := Lib.hid hstep
              go_wp2_with fail
              · have hge : held x * ((g : Int) + 1 + 1) * ((g : Int) + 1) ≤ cg := by assumption
                go_roundg g
                case measure => omega
                case rel => exact ⟨rfl, _, rfl, rfl, by omega, by omega, by omega, (if_neg (by omega)).symm.trans hstep.out⟩
              · have hlt' : cg < held x * ((g : Int) + 1 + 1) * ((g : Int) + 1) := by assumption
                obtain ⟨rfl, rfl⟩ : g + 1 = j1 ∧ cg = c' := by
                  have := (if_pos hlt').symm.trans hstep.out
                  simpa using this
                go_wp2_with fail
                refine Calls.mono (fit_law _ _ _) ?_
                rintro e w3 ⟨rfl, hb3⟩
                have z3 := Below.size hb3; try simp only [World.size_alloc, World.size_setCell, World.size_drew] at z3
                obtain ⟨c3_0, f3_0⟩ := Below.blk hb3 (b := w1.heap.size) (by first | (simp; done) | omega | (simp; omega))
                have z3_0 : w1.heap.size < w3.heap.size := (by first | (simp; done) | omega | (simp; omega))
                obtain ⟨c3_1, f3_1⟩ := Below.blk hb3 (b := wr.heap.size) (by first | (simp; done) | omega | (simp; omega))
                have z3_1 : wr.heap.size < w3.heap.size := (by first | (simp; done) | omega | (simp; omega))
                rw [(show fit ((g : Int) + 1 + 1) x = (j' : Int) + 1 by simpa using E2.out)]
                have hne : (((j' : Int) + 1) != (j' : Int) + 1) = false := by simp
                have hlo : decide ((j' : Int) + 1 < 1) = false := by simp; omega
                have hhi : decide (15 < (j' : Int) + 1) = false := by simp; omega
                go_wp2_with fail
                refine Calls.mono (value_any j' _ _ (by omega) (by omega)) ?_
                rintro e w4 ⟨rfl, hb4⟩
                have z4 := Below.size hb4; try simp only [World.size_alloc, World.size_setCell, World.size_drew] at z4
                obtain ⟨c4_0, f4_0⟩ := Below.blk hb4 (b := w1.heap.size) (by first | (simp; done) | omega | (simp; omega))
                have z4_0 : w1.heap.size < w4.heap.size := (by first | (simp; done) | omega | (simp; omega))
                go_wp2_with fail
                go_roundg (len - (k + 1))
                case measure => omega
                case rel => exact ⟨k + 1, j', _, (by repeat (first | exact Below.refl _ _ | with_reducible exact Below.refl _ _ | (with_reducible refine Below.al ?_) | (with_reducible refine Below.drew ?_) | (with_reducible refine Below.set ?_ (by first | (simp; done) | omega | (simp; omega))) | (with_reducible refine Below.thru ?_ (by assumption)))), (by repeat (first | (with_reducible exact Hid.out HR) | (with_reducible refine Box.below ?_ (by assumption)) | (with_reducible refine Box.drew ?_) | (with_reducible refine Box.new_at (by first | rfl | (simp; done) | omega)) | (with_reducible refine Box.al ?_) | (with_reducible apply Box.set0) | (with_reducible apply Box.set1) | (with_reducible apply Box.set2) | (with_reducible apply Box.set3) | (with_reducible apply Box.set4) | (with_reducible apply Box.set5) | (with_reducible apply Box.set6) | (with_reducible apply Box.set7) | (with_reducible apply Box.set8) | (with_reducible refine Box.oth ?_ (by first | (simp; done) | omega | (simp; omega))))), rfl, hlt, by go_num, rfl, rfl, hj', by omega, by omega⟩
        · -- Fit
          obtain ⟨j', hj', E1, E2⟩ := fit_nat (j : Int) x (by omega)
          replace E1 := Lib.hid E1; replace E2 := Lib.hid E2
          refine Calls.mono (fit_any j cc x _ (by omega) (by omega)) ?_
          rintro e w2 ⟨rfl, hb2⟩
          have z2 := Below.size hb2; try simp only [World.size_alloc, World.size_setCell, World.size_drew] at z2
          obtain ⟨c2_0, f2_0⟩ := Below.blk hb2 (b := w1.heap.size) (by first | (simp; done) | omega | (simp; omega))
          have z2_0 : w1.heap.size < w2.heap.size := (by first | (simp; done) | omega | (simp; omega))
          obtain ⟨c2_1, f2_1⟩ := Below.blk hb2 (b := wr.heap.size) (by first | (simp; done) | omega | (simp; omega))
          have z2_1 : wr.heap.size < w2.heap.size := (by first | (simp; done) | omega | (simp; omega))
          rw [E1.out]
          go_wp2_with fail
          refine Calls.mono (fit_law _ _ _) ?_
          rintro e w3 ⟨rfl, hb3⟩
          have z3 := Below.size hb3; try simp only [World.size_alloc, World.size_setCell, World.size_drew] at z3
          obtain ⟨c3_0, f3_0⟩ := Below.blk hb3 (b := w1.heap.size) (by first | (simp; done) | omega | (simp; omega))
          have z3_0 : w1.heap.size < w3.heap.size := (by first | (simp; done) | omega | (simp; omega))
          obtain ⟨c3_1, f3_1⟩ := Below.blk hb3 (b := wr.heap.size) (by first | (simp; done) | omega | (simp; omega))
          have z3_1 : wr.heap.size < w3.heap.size := (by first | (simp; done) | omega | (simp; omega))
          rw [E2.out]
          have hne : (((j' : Int) + 1) != (j' : Int) + 1) = false := by simp
          have hlo : decide ((j' : Int) + 1 < 1) = false := by simp; omega
          have hhi : decide (15 < (j' : Int) + 1) = false := by simp; omega
          go_wp2_with fail
          refine Calls.mono (value_any j' _ _ (by omega) (by omega)) ?_
          rintro e w4 ⟨rfl, hb4⟩
          have z4 := Below.size hb4; try simp only [World.size_alloc, World.size_setCell, World.size_drew] at z4
          obtain ⟨c4_0, f4_0⟩ := Below.blk hb4 (b := w1.heap.size) (by first | (simp; done) | omega | (simp; omega))
          have z4_0 : w1.heap.size < w4.heap.size := (by first | (simp; done) | omega | (simp; omega))
          go_wp2_with fail
          go_roundg (len - (k + 1))
          case measure => omega
          case rel => exact ⟨k + 1, j', cc, (by repeat (first | exact Below.refl _ _ | with_reducible exact Below.refl _ _ | (with_reducible refine Below.al ?_) | (with_reducible refine Below.drew ?_) | (with_reducible refine Below.set ?_ (by first | (simp; done) | omega | (simp; omega))) | (with_reducible refine Below.thru ?_ (by assumption)))), (by repeat (first | (with_reducible exact Hid.out HR) | (with_reducible refine Box.below ?_ (by assumption)) | (with_reducible refine Box.drew ?_) | (with_reducible refine Box.new_at (by first | rfl | (simp; done) | omega)) | (with_reducible refine Box.al ?_) | (with_reducible apply Box.set0) | (with_reducible apply Box.set1) | (with_reducible apply Box.set2) | (with_reducible apply Box.set3) | (with_reducible apply Box.set4) | (with_reducible apply Box.set5) | (with_reducible apply Box.set6) | (with_reducible apply Box.set7) | (with_reducible apply Box.set8) | (with_reducible refine Box.oth ?_ (by first | (simp; done) | omega | (simp; omega))))), rfl, hlt, by go_num, rfl, rfl, hj', by omega, by omega⟩
        · -- another kind
          have hne : (((j : Int) + 1) != (j : Int) + 1) = false := by simp
          have hlo : decide ((j : Int) + 1 < 1) = false := by simp; omega
          have hhi : decide (15 < (j : Int) + 1) = false := by simp; omega
          refine Calls.mono (value_any j _ _ (by omega) (by omega)) ?_
          rintro e w4 ⟨rfl, hb4⟩
          have z4 := Below.size hb4; try simp only [World.size_alloc, World.size_setCell, World.size_drew] at z4
          obtain ⟨c4_0, f4_0⟩ := Below.blk hb4 (b := w1.heap.size) (by first | (simp; done) | omega | (simp; omega))
          have z4_0 : w1.heap.size < w4.heap.size := (by first | (simp; done) | omega | (simp; omega))
          go_wp2_with fail
          go_roundg (len - (k + 1))
          case measure => omega
          case rel => exact ⟨k + 1, j, cc, (by repeat (first | exact Below.refl _ _ | with_reducible exact Below.refl _ _ | (with_reducible refine Below.al ?_) | (with_reducible refine Below.drew ?_) | (with_reducible refine Below.set ?_ (by first | (simp; done) | omega | (simp; omega))) | (with_reducible refine Below.thru ?_ (by assumption)))), (by repeat (first | (with_reducible exact Hid.out HR) | (with_reducible refine Box.below ?_ (by assumption)) | (with_reducible refine Box.drew ?_) | (with_reducible refine Box.new_at (by first | rfl | (simp; done) | omega)) | (with_reducible refine Box.al ?_) | (with_reducible apply Box.set0) | (with_reducible apply Box.set1) | (with_reducible apply Box.set2) | (with_reducible apply Box.set3) | (with_reducible apply Box.set4) | (with_reducible apply Box.set5) | (with_reducible apply Box.set6) | (with_reducible apply Box.set7) | (with_reducible apply Box.set8) | (with_reducible refine Box.oth ?_ (by first | (simp; done) | omega | (simp; omega))))), rfl, hlt, by go_num, rfl, rfl, hj, by omega, by omega⟩
      · go_wp2_with fail
        go_ret
        exact Ret.mk rfl (by repeat (first | exact Below.refl _ _ | with_reducible exact Below.refl _ _ | (with_reducible refine Below.al ?_) | (with_reducible refine Below.drew ?_) | (with_reducible refine Below.set ?_ (by first | (simp; done) | omega | (simp; omega))) | (with_reducible refine Below.thru ?_ (by assumption))))
end Go.Proofs.Yticcedempclapaa.RatioLaw
