/- The walks of the package ratio. -/
import Derived.Test.YtibidmenpoiacaaBase
import Derived.Deep.LoopGhost
namespace Go.Proofs.Ytibidmenpoiacaa.Ratio
set_option linter.unusedSimpArgs false
set_option linter.unusedVariables false
open Go.RowKit Go.Proofs.Ytibidmenpoiacaa

def held (w : Int) : Int := min (max w 1) 30

theorem held_any (n : Int) (w : World) : Calls Try.prog 63 #[.int .i64 n] w (Ret w (.int .i64 (held n))) := by
  go_enter Try.func63, Try.ntmps63
  go_wp2
  go_ret
  exact Ret.mk rfl (by repeat (first | with_reducible exact Below.refl _ _ | (with_reducible refine Below.al ?_) | (with_reducible refine Below.drew ?_) | (with_reducible refine Below.set ?_ (by first | (simp; done) | omega | (simp; omega))) | (with_reducible refine Below.thru ?_ (by assumption)) | (with_reducible refine Below.chg ?_ (by assumption) (by first | (simp; done) | omega | (simp; omega)))))

theorem held_bd (n : Int) : 1 ≤ held n ∧ held n ≤ 30 := by unfold held; omega

theorem value_any (n c : Int) (w : World) (h0 : 0 ≤ n) (h1 : n ≤ 100) :
    Calls Try.prog 41 #[.agg #[.int .i64 n, .int .i64 c]] w (Ret w (.int .i64 (n + 1))) := by
  go_enter Try.func41, Try.ntmps41
  go_wp2
  go_ret
  exact Ret.mk rfl (by repeat (first | with_reducible exact Below.refl _ _ | (with_reducible refine Below.al ?_) | (with_reducible refine Below.drew ?_) | (with_reducible refine Below.set ?_ (by first | (simp; done) | omega | (simp; omega))) | (with_reducible refine Below.thru ?_ (by assumption)) | (with_reducible refine Below.chg ?_ (by assumption) (by first | (simp; done) | omega | (simp; omega)))))

def fitN (n w : Int) : Int := min n (max ((held w + 1) / 2) 1 - 1)

theorem fit_any (n c x : Int) (w : World) (h0 : 0 ≤ n) (h1 : n ≤ 100) :
    Calls Try.prog 31 #[.agg #[.int .i64 n, .int .i64 c], .int .i64 x] w (Ret w (.agg #[.int .i64 (fitN n x), .int .i64 c])) := by
  have hb := held_bd x
  go_enter Try.func31, Try.ntmps31
  go_wp2_with fail
  refine wp_region_near_tail 10 (by kernel_rfl) (by kernel_rfl) ?_
  intro hs
  simp only [List.take_succ_cons, List.take_zero, List.drop_succ_cons, List.drop_zero]
  repeat (go_big_quiet_step ((go_at_call 63; exact Calls.near (by simp) (held_any _ _))))
  refine wpQuiet_nil ?_
  clear hs
  intro w1 hb1
  obtain ⟨c1a, f1a⟩ := Below.blk hb1 (b := w.heap.size) (by first | (simp; done) | omega | (simp; omega))
  obtain ⟨c1b, f1b⟩ := Below.blk hb1 (b := w.heap.size + 1) (by first | (simp; done) | omega | (simp; omega))
  go_wp2_with fail
  exact bodyPost_ret (v := .agg #[.int .i64 (fitN n x), .int .i64 c]) (by simp [results, Try.results31, go_sem, c1b, fitN]) rfl (Ret.mk rfl (by repeat (first | with_reducible exact Below.refl _ _ | (with_reducible refine Below.al ?_) | (with_reducible refine Below.drew ?_) | (with_reducible refine Below.set ?_ (by first | (simp; done) | omega | (simp; omega))) | (with_reducible refine Below.thru ?_ (by assumption)) | (with_reducible refine Below.chg ?_ (by assumption) (by first | (simp; done) | omega | (simp; omega))))))

theorem lost_any (n c x : Int) (w : World) (h0 : 0 ≤ n) (h1 : n ≤ 40) :
    Calls Try.prog 58 #[.agg #[.int .i64 n, .int .i64 c], .int .i64 x] w (Ret w (.agg #[.int .i64 (fitN (2 * (n + 1) - 1) x), .int .i64 0])) := by
  go_enter Try.func58, Try.ntmps58
  go_wp2_with (first
    | (go_at_call 41; refine (value_any n c _ h0 (by omega)).mono ?_; rintro e w1 ⟨rfl, hb1⟩; have z1 := Below.size hb1; try simp only [World.size_alloc, World.size_setCell, World.size_drew] at z1; obtain ⟨c1b, f1b⟩ := Below.blk hb1 (b := w.heap.size + 1) (by first | (simp; done) | omega | (simp; omega)))
    | (go_at_call 31; refine (fit_any _ _ _ _ (by omega) (by omega)).mono ?_; rintro e w2 ⟨rfl, hb2⟩; obtain ⟨c2b, f2b⟩ := Below.blk hb2 (b := w.heap.size + 1) (by first | (simp; done) | omega | (simp; omega))))
  exact bodyPost_ret (v := .agg #[.int .i64 (fitN (2 * (n + 1) - 1) x), .int .i64 0]) (by simp [results, Try.results58, go_sem, c1b, c2b]) rfl (Ret.mk rfl (by repeat (first | with_reducible exact Below.refl _ _ | (with_reducible refine Below.al ?_) | (with_reducible refine Below.drew ?_) | (with_reducible refine Below.set ?_ (by first | (simp; done) | omega | (simp; omega))) | (with_reducible refine Below.thru ?_ (by assumption)) | (with_reducible refine Below.chg ?_ (by assumption) (by first | (simp; done) | omega | (simp; omega))))))

end Go.Proofs.Ytibidmenpoiacaa.Ratio
