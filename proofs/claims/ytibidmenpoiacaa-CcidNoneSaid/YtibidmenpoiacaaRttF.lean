
/- The walks of the package rtt, and of the document's answer for it. -/
import Derived.Test.YtibidmenpoiacaaFits
import Derived.Deep.LoopGhost
import Derived.Deep.DeepCutAuto
namespace Go.Proofs.Ytibidmenpoiacaa.Rtt
set_option linter.unusedSimpArgs false
set_option linter.unusedVariables false
open Go.RowKit Go.Proofs.Ytibidmenpoiacaa

def clip (t : Int) : Int := min (max t 1) 64
theorem clip_bd (t : Int) : 1 ≤ clip t ∧ clip t ≤ 64 := by unfold clip; omega

theorem held_any (n l m : Int) (w : World) : Calls Try.prog 64 #[.int .i64 n, .int .i64 l, .int .i64 m] w (Ret w (.int .i64 (min (max n l) m))) := by
  go_enter Try.func64, Try.ntmps64
  go_wp2
  go_ret
  exact Ret.mk rfl (by repeat (first | with_reducible exact Below.refl _ _ | (with_reducible refine Below.al ?_) | (with_reducible refine Below.drew ?_) | (with_reducible refine Below.set ?_ (by first | (simp; done) | omega | (simp; omega))) | (with_reducible refine Below.thru ?_ (by assumption)) | (with_reducible refine Below.chg ?_ (by assumption) (by first | (simp; done) | omega | (simp; omega)))))

theorem known_any (s v l : Int) (k : Bool) (w : World) : Calls Try.prog 39 #[.agg #[.int .i64 s, .int .i64 v, .int .i64 l, .bool k]] w (Ret w (.bool k)) := by
  go_enter Try.func39, Try.ntmps39
  go_wp2
  go_ret
  exact Ret.mk rfl (by repeat (first | with_reducible exact Below.refl _ _ | (with_reducible refine Below.al ?_) | (with_reducible refine Below.drew ?_) | (with_reducible refine Below.set ?_ (by first | (simp; done) | omega | (simp; omega))) | (with_reducible refine Below.thru ?_ (by assumption)) | (with_reducible refine Below.chg ?_ (by assumption) (by first | (simp; done) | omega | (simp; omega)))))

theorem smooth_any (s v l : Int) (k : Bool) (w : World) (h0 : 0 ≤ s) (h1 : s ≤ 1000) : Calls Try.prog 40 #[.agg #[.int .i64 s, .int .i64 v, .int .i64 l, .bool k]] w (Ret w (.int .i64 (s / 8))) := by
  go_enter Try.func40, Try.ntmps40
  go_wp2
  go_ret
  exact Ret.mk rfl (by repeat (first | with_reducible exact Below.refl _ _ | (with_reducible refine Below.al ?_) | (with_reducible refine Below.drew ?_) | (with_reducible refine Below.set ?_ (by first | (simp; done) | omega | (simp; omega))) | (with_reducible refine Below.thru ?_ (by assumption)) | (with_reducible refine Below.chg ?_ (by assumption) (by first | (simp; done) | omega | (simp; omega)))))

theorem late_any (s v l : Int) (k : Bool) (w : World) (h0 : 0 ≤ l) (h1 : l ≤ 6) :
    Calls Try.prog 37 #[.agg #[.int .i64 s, .int .i64 v, .int .i64 l, .bool k]] w (Ret w (.agg #[.int .i64 s, .int .i64 v, .int .i64 (min (l + 1) 6), .bool k])) := by
  go_enter Try.func37, Try.ntmps37
  go_wp2
  exact bodyPost_ret (v := .agg #[.int .i64 s, .int .i64 v, .int .i64 (min (l + 1) 6), .bool k]) (by simp [results, Try.results37, go_sem]) rfl (Ret.mk rfl (by repeat (first | with_reducible exact Below.refl _ _ | (with_reducible refine Below.al ?_) | (with_reducible refine Below.drew ?_) | (with_reducible refine Below.set ?_ (by first | (simp; done) | omega | (simp; omega))) | (with_reducible refine Below.thru ?_ (by assumption)) | (with_reducible refine Below.chg ?_ (by assumption) (by first | (simp; done) | omega | (simp; omega))))))

theorem took_new (s v l t : Int) (w : World) :
    Calls Try.prog 56 #[.agg #[.int .i64 s, .int .i64 v, .int .i64 l, .bool false], .int .i64 t] w (Ret w (.agg #[.int .i64 (8 * clip t), .int .i64 (2 * clip t), .int .i64 0, .bool true])) := by
  have hb := clip_bd t
  go_enter Try.func56, Try.ntmps56
  go_wp2_with fail
  refine Calls.mono (held_any t 1 64 _) ?_
  rintro e w1 ⟨rfl, hb1⟩
  have z1 := Below.size hb1; try simp only [World.size_alloc, World.size_setCell, World.size_drew] at z1
  obtain ⟨c1_0, f1_0⟩ := Below.blk hb1 (b := w.heap.size) (by first | (simp; done) | omega | (simp; omega))
  have z1_0 : w.heap.size < w1.heap.size := (by first | (simp; done) | omega | (simp; omega))
  obtain ⟨c1_1, f1_1⟩ := Below.blk hb1 (b := w.heap.size + 1) (by first | (simp; done) | omega | (simp; omega))
  have z1_1 : w.heap.size + 1 < w1.heap.size := (by first | (simp; done) | omega | (simp; omega))
  rw [show min (max t 1) 64 = clip t from rfl]
  go_wp2_with fail
  exact bodyPost_ret (v := .agg #[.int .i64 (8 * clip t), .int .i64 (2 * clip t), .int .i64 0, .bool true]) (by simp [results, Try.results56, go_sem, c1_1]) rfl (Ret.mk rfl (by repeat (first | with_reducible exact Below.refl _ _ | (with_reducible refine Below.al ?_) | (with_reducible refine Below.drew ?_) | (with_reducible refine Below.set ?_ (by first | (simp; done) | omega | (simp; omega))) | (with_reducible refine Below.thru ?_ (by assumption)) | (with_reducible refine Below.chg ?_ (by assumption) (by first | (simp; done) | omega | (simp; omega))))))
end Go.Proofs.Ytibidmenpoiacaa.Rtt
