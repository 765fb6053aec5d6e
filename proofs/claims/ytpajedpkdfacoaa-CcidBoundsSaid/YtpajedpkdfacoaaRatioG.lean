
/- The walks of the package ratio. -/
import Derived.Test.YtpajedpkdfacoaaBase
import Derived.Deep.LoopGhost
namespace Go.Proofs.Ytpajedpkdfacoaa.Ratio
set_option linter.unusedSimpArgs false
set_option linter.unusedVariables false
open Go.RowKit Go.Proofs.Ytpajedpkdfacoaa

def held (w : Int) : Int := min (max w 1) 30

theorem held_any (n : Int) (w : World) : Calls Try.prog 132 #[.int .i64 n] w (Ret w (.int .i64 (held n))) := by
  go_enter Try.func132, Try.ntmps132
  go_wp2
  go_ret
  exact Ret.mk rfl (by repeat (first | with_reducible exact Below.refl _ _ | (with_reducible refine Below.al ?_) | (with_reducible refine Below.drew ?_) | (with_reducible refine Below.set ?_ (by first | (simp; done) | omega | (simp; omega))) | (with_reducible refine Below.thru ?_ (by assumption)) | (with_reducible refine Below.chg ?_ (by assumption) (by first | (simp; done) | omega | (simp; omega)))))

theorem held_bd (n : Int) : 1 ≤ held n ∧ held n ≤ 30 := by unfold held; omega

theorem value_any (n c : Int) (w : World) (h0 : 0 ≤ n) (h1 : n ≤ 100) :
    Calls Try.prog 64 #[.agg #[.int .i64 n, .int .i64 c]] w (Ret w (.int .i64 (n + 1))) := by
  go_enter Try.func64, Try.ntmps64
  go_wp2
  go_ret
  exact Ret.mk rfl (by repeat (first | with_reducible exact Below.refl _ _ | (with_reducible refine Below.al ?_) | (with_reducible refine Below.drew ?_) | (with_reducible refine Below.set ?_ (by first | (simp; done) | omega | (simp; omega))) | (with_reducible refine Below.thru ?_ (by assumption)) | (with_reducible refine Below.chg ?_ (by assumption) (by first | (simp; done) | omega | (simp; omega)))))

def fitN (n w : Int) : Int := min n (max ((held w + 1) / 2) 1 - 1)

theorem fit_any (n c x : Int) (w : World) (h0 : 0 ≤ n) (h1 : n ≤ 100) :
    Calls Try.prog 92 #[.agg #[.int .i64 n, .int .i64 c], .int .i64 x] w (Ret w (.agg #[.int .i64 (fitN n x), .int .i64 c])) := by
  have hb := held_bd x
  go_enter Try.func92, Try.ntmps92
  go_wp2_with fail
  refine wp_region_near_tail 10 (by kernel_rfl) (by kernel_rfl) ?_
  intro hs
  simp only [List.take_succ_cons, List.take_zero, List.drop_succ_cons, List.drop_zero]
  repeat (go_big_quiet_step ((go_at_call 132; exact Calls.near (by simp) (held_any _ _))))
  refine wpQuiet_nil ?_
  clear hs
  intro w1 hb1
  obtain ⟨c1a, f1a⟩ := Below.blk hb1 (b := w.heap.size) (by first | (simp; done) | omega | (simp; omega))
  obtain ⟨c1b, f1b⟩ := Below.blk hb1 (b := w.heap.size + 1) (by first | (simp; done) | omega | (simp; omega))
  go_wp2_with fail
  exact bodyPost_ret (v := .agg #[.int .i64 (fitN n x), .int .i64 c]) (by simp [results, Try.results92, go_sem, c1b, fitN]) rfl (Ret.mk rfl (by repeat (first | with_reducible exact Below.refl _ _ | (with_reducible refine Below.al ?_) | (with_reducible refine Below.drew ?_) | (with_reducible refine Below.set ?_ (by first | (simp; done) | omega | (simp; omega))) | (with_reducible refine Below.thru ?_ (by assumption)) | (with_reducible refine Below.chg ?_ (by assumption) (by first | (simp; done) | omega | (simp; omega))))))

theorem lost_any (n c x : Int) (w : World) (h0 : 0 ≤ n) (h1 : n ≤ 40) :
    Calls Try.prog 129 #[.agg #[.int .i64 n, .int .i64 c], .int .i64 x] w (Ret w (.agg #[.int .i64 (fitN (2 * (n + 1) - 1) x), .int .i64 0])) := by
  go_enter Try.func129, Try.ntmps129
  go_wp2_with (first
    | (go_at_call 64; refine (value_any n c _ h0 (by omega)).mono ?_; rintro e w1 ⟨rfl, hb1⟩; have z1 := Below.size hb1; try simp only [World.size_alloc, World.size_setCell, World.size_drew] at z1; obtain ⟨c1b, f1b⟩ := Below.blk hb1 (b := w.heap.size + 1) (by first | (simp; done) | omega | (simp; omega)))
    | (go_at_call 92; refine (fit_any _ _ _ _ (by omega) (by omega)).mono ?_; rintro e w2 ⟨rfl, hb2⟩; obtain ⟨c2b, f2b⟩ := Below.blk hb2 (b := w.heap.size + 1) (by first | (simp; done) | omega | (simp; omega))))
  exact bodyPost_ret (v := .agg #[.int .i64 (fitN (2 * (n + 1) - 1) x), .int .i64 0]) (by simp [results, Try.results129, go_sem, c1b, c2b]) rfl (Ret.mk rfl (by repeat (first | with_reducible exact Below.refl _ _ | (with_reducible refine Below.al ?_) | (with_reducible refine Below.drew ?_) | (with_reducible refine Below.set ?_ (by first | (simp; done) | omega | (simp; omega))) | (with_reducible refine Below.thru ?_ (by assumption)) | (with_reducible refine Below.chg ?_ (by assumption) (by first | (simp; done) | omega | (simp; omega))))))

def need (x : Int) (k : Nat) : Int := held x * ((k : Int) + 1) * (k : Int)
def goodN (x : Int) : Nat → Int → Nat × Int
  | 0, c => (0, c)
  | k + 1, c => if c < need x (k + 1) then (k + 1, c) else goodN x k (c - need x (k + 1))

theorem need_bd (x : Int) (k : Nat) (h : k ≤ 14) : 0 ≤ held x * ((k : Int) + 1) ∧ held x * ((k : Int) + 1) ≤ 450 ∧ 0 ≤ need x k ∧ need x k ≤ 6300 := by
  have hb := held_bd x
  have a0 : 0 ≤ held x * ((k : Int) + 1) := Int.mul_nonneg (by omega) (by omega)
  have a1 : held x * ((k : Int) + 1) ≤ 30 * 15 := Int.mul_le_mul (by omega) (by omega) (by omega) (by omega)
  have b0 : 0 ≤ need x k := Int.mul_nonneg a0 (by omega)
  have b1 : need x k ≤ 450 * 14 := Int.mul_le_mul (by omega) (by omega) (by omega) (by omega)
  omega

theorem goodN_le (x : Int) (k : Nat) : ∀ c, (goodN x k c).1 ≤ k := by
  induction k with
  | zero => intro c; simp [goodN]
  | succ k ih => intro c; simp only [goodN]; split; exact Nat.le_refl _; exact Nat.le_succ_of_le (ih _)

set_option maxHeartbeats 400000 in
theorem good_any (k0 : Nat) (c0 many x : Int) (w : World) (h0 : k0 ≤ 14) (hc0 : 0 ≤ c0) (hc1 : c0 ≤ 1000000) :
    Calls Try.prog 130 #[.agg #[.int .i64 k0, .int .i64 c0], .int .i64 many, .int .i64 x] w
      (Ret w (.agg #[.int .i64 (fitN (goodN x k0 (c0 + min (max many 0) 1000)).1 x), .int .i64 (goodN x k0 (c0 + min (max many 0) 1000)).2])) := by
  have hm : 0 ≤ min (max many 0) 1000 ∧ min (max many 0) 1000 ≤ 1000 := by omega
  have hk0 : (0 : Int) ≤ (k0 : Int) := by omega
  go_enter Try.func130, Try.ntmps130
  go_wp2_with fail
  go_loopg [7] k0 (fun g _ wr => ∃ (c : Int), Below w.heap.size w wr ∧ Box wr w.heap.size [.int .i64 g, .int .i64 c] ∧ Box wr (w.heap.size + 1) [.int .i64 0, .int .i64 0] ∧
    g ≤ 14 ∧ 0 ≤ c ∧ c ≤ 2000000 ∧ Aside (goodN x k0 (c0 + min (max many 0) 1000) = goodN x g c))
  case atStart =>
    refine ⟨_, (by repeat (first | with_reducible exact Below.refl _ _ | (with_reducible refine Below.al ?_) | (with_reducible refine Below.drew ?_) | (with_reducible refine Below.set ?_ (by first | (simp; done) | omega | (simp; omega))) | (with_reducible refine Below.thru ?_ (by assumption)) | (with_reducible refine Below.chg ?_ (by assumption) (by first | (simp; done) | omega | (simp; omega))))), (Box.new _ _).alloc _, ?_, h0, ?_, ?_, rfl⟩
    · simpa using Box.new (w := w.alloc _) [.int .i64 0, .int .i64 0] 98
    · omega
    · omega
  case round =>
    obtain ⟨c, hbw, hA, hB, hg, hc0', hc1', hgood⟩ := hrel
    have hhb := held_bd x
    have hnb := need_bd x gk hg
    unfold need at hnb
    obtain ⟨zA, cA, fA⟩ := hA
    obtain ⟨zB, cB, fB⟩ := hB
    rcases gk with _ | g
    · have hgood : goodN x k0 (c0 + min (max many 0) 1000) = (0, c) := hgood.out
      have HG := Lib.hid hgood
      clear hgood
      go_wp2_with (go_at_call 92; refine (fit_any _ _ _ _ (by omega) (by omega)).mono ?_; rintro e w2 ⟨rfl, hb2⟩; obtain ⟨c2, f2⟩ := Below.blk hb2 (b := w.heap.size + 1) (by first | (simp; done) | omega | (simp; omega)))
      exact bodyPost_ret (v := .agg #[.int .i64 (fitN 0 x), .int .i64 c]) (by simp [results, Try.results130, go_sem, c2, cB]) rfl (Ret.mk (by rw [HG.out]; rfl) (by repeat (first | with_reducible exact Below.refl _ _ | (with_reducible refine Below.al ?_) | (with_reducible refine Below.drew ?_) | (with_reducible refine Below.set ?_ (by first | (simp; done) | omega | (simp; omega))) | (with_reducible refine Below.thru ?_ (by assumption)) | (with_reducible refine Below.chg ?_ (by assumption) (by first | (simp; done) | omega | (simp; omega))))))
    · have hgood : goodN x k0 (c0 + min (max many 0) 1000) = if c < need x (g + 1) then (g + 1, c) else goodN x g (c - need x (g + 1)) := hgood.out
      have hHB := Lib.hid (show Box wr (w.heap.size + 1) _ from ⟨zB, cB, fB⟩)
      have hHA := Lib.hid (show Box wr w.heap.size _ from ⟨zA, cA, fA⟩)
      have hN : need x (g + 1) = held x * ((g : Int) + 1 + 1) * ((g : Int) + 1) := by unfold need; push_cast; rfl
      rw [hN] at hgood
      have hgoodH := Lib.hid hgood
      clear hgood hN
      simp only [Int.natCast_add, Int.cast_ofNat_Int] at hnb
      go_wp2_with fail
      refine wp_region_near (by kernel_rfl) (by kernel_rfl) ?_
      intro hs
      repeat (go_big_quiet_step ((first | (go_at_call 132; exact Calls.near (by simp) (held_any _ _)) | (go_at_call 64; exact Calls.near (by simp) (value_any _ _ _ (by omega) (by omega))))))
      refine wpQuiet_nil ?_
      clear hs
      intro w1 hb1
      have hA1 := hHA.out.below hb1
      have hB1 := hHB.out.below hb1
      have HB1 := Lib.hid hB1
      have HA1 := Lib.hid hA1
      obtain ⟨zA1, cA1, fA1⟩ := hA1
      obtain ⟨zB1, cB1, fB1⟩ := hB1
      clear zA zB cA cB fA fB
      go_wp2_with (go_at_call 92; refine (fit_any _ _ _ _ (by omega) (by omega)).mono ?_; rintro e w2 ⟨rfl, hb2⟩; obtain ⟨c2, f2⟩ := Below.blk hb2 (b := w.heap.size + 1) (by first | (simp; done) | omega | (simp; omega)))
      · have hlt : c < held x * ((g : Int) + 1 + 1) * ((g : Int) + 1) := by assumption
        exact bodyPost_ret (v := .agg #[.int .i64 (fitN ((g + 1 : Nat) : Int) x), .int .i64 c]) (by simp [results, Try.results130, go_sem, c2, cB1]) rfl (Ret.mk (by rw [hgoodH.out, if_pos hlt]) (by repeat (first | with_reducible exact Below.refl _ _ | (with_reducible refine Below.al ?_) | (with_reducible refine Below.drew ?_) | (with_reducible refine Below.set ?_ (by first | (simp; done) | omega | (simp; omega))) | (with_reducible refine Below.thru ?_ (by assumption)) | (with_reducible refine Below.chg ?_ (by assumption) (by first | (simp; done) | omega | (simp; omega))))))
      · have hge : held x * ((g : Int) + 1 + 1) * ((g : Int) + 1) ≤ c := by assumption
        go_roundg g
        case measure => omega
        case rel =>
          refine ⟨_, (by repeat (first | with_reducible exact Below.refl _ _ | (with_reducible refine Below.al ?_) | (with_reducible refine Below.drew ?_) | (with_reducible refine Below.set ?_ (by first | (simp; done) | omega | (simp; omega))) | (with_reducible refine Below.thru ?_ (by assumption)) | (with_reducible refine Below.chg ?_ (by assumption) (by first | (simp; done) | omega | (simp; omega))))), ((HA1.out.set 1 _ (by simp)).set 0 _ (by simp)), ((HB1.out.other (by simp)).other (by simp)), by omega, by omega, by omega, hgoodH.out.trans (if_neg (by omega))⟩

end Go.Proofs.Ytpajedpkdfacoaa.Ratio
