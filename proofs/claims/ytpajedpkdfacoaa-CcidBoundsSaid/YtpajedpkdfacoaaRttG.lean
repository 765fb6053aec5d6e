
/- The walks of the package rtt, and of the document's answer for it. -/
import Derived.Test.YtpajedpkdfacoaaFits
import Derived.Deep.LoopGhost
import Derived.Deep.DeepCutAuto
namespace Go.Proofs.Ytpajedpkdfacoaa.Rtt
set_option linter.unusedSimpArgs false
set_option linter.unusedVariables false
open Go.RowKit Go.Proofs.Ytpajedpkdfacoaa

def clip (t : Int) : Int := min (max t 1) 64
theorem clip_bd (t : Int) : 1 ≤ clip t ∧ clip t ≤ 64 := by unfold clip; omega

theorem held_any (n l m : Int) (w : World) : Calls Try.prog 114 #[.int .i64 n, .int .i64 l, .int .i64 m] w (Ret w (.int .i64 (min (max n l) m))) := by
  go_enter Try.func114, Try.ntmps114
  go_wp2
  go_ret
  exact Ret.mk rfl (by repeat (first | with_reducible exact Below.refl _ _ | (with_reducible refine Below.al ?_) | (with_reducible refine Below.drew ?_) | (with_reducible refine Below.set ?_ (by first | (simp; done) | omega | (simp; omega))) | (with_reducible refine Below.thru ?_ (by assumption)) | (with_reducible refine Below.chg ?_ (by assumption) (by first | (simp; done) | omega | (simp; omega)))))

theorem known_any (s v l : Int) (k : Bool) (w : World) : Calls Try.prog 86 #[.agg #[.int .i64 s, .int .i64 v, .int .i64 l, .bool k]] w (Ret w (.bool k)) := by
  go_enter Try.func86, Try.ntmps86
  go_wp2
  go_ret
  exact Ret.mk rfl (by repeat (first | with_reducible exact Below.refl _ _ | (with_reducible refine Below.al ?_) | (with_reducible refine Below.drew ?_) | (with_reducible refine Below.set ?_ (by first | (simp; done) | omega | (simp; omega))) | (with_reducible refine Below.thru ?_ (by assumption)) | (with_reducible refine Below.chg ?_ (by assumption) (by first | (simp; done) | omega | (simp; omega)))))

theorem smooth_any (s v l : Int) (k : Bool) (w : World) (h0 : 0 ≤ s) (h1 : s ≤ 1000) : Calls Try.prog 87 #[.agg #[.int .i64 s, .int .i64 v, .int .i64 l, .bool k]] w (Ret w (.int .i64 (s / 8))) := by
  go_enter Try.func87, Try.ntmps87
  go_wp2
  go_ret
  exact Ret.mk rfl (by repeat (first | with_reducible exact Below.refl _ _ | (with_reducible refine Below.al ?_) | (with_reducible refine Below.drew ?_) | (with_reducible refine Below.set ?_ (by first | (simp; done) | omega | (simp; omega))) | (with_reducible refine Below.thru ?_ (by assumption)) | (with_reducible refine Below.chg ?_ (by assumption) (by first | (simp; done) | omega | (simp; omega)))))

theorem late_any (s v l : Int) (k : Bool) (w : World) (h0 : 0 ≤ l) (h1 : l ≤ 6) :
    Calls Try.prog 70 #[.agg #[.int .i64 s, .int .i64 v, .int .i64 l, .bool k]] w (Ret w (.agg #[.int .i64 s, .int .i64 v, .int .i64 (min (l + 1) 6), .bool k])) := by
  go_enter Try.func70, Try.ntmps70
  go_wp2
  exact bodyPost_ret (v := .agg #[.int .i64 s, .int .i64 v, .int .i64 (min (l + 1) 6), .bool k]) (by simp [results, Try.results70, go_sem]) rfl (Ret.mk rfl (by repeat (first | with_reducible exact Below.refl _ _ | (with_reducible refine Below.al ?_) | (with_reducible refine Below.drew ?_) | (with_reducible refine Below.set ?_ (by first | (simp; done) | omega | (simp; omega))) | (with_reducible refine Below.thru ?_ (by assumption)) | (with_reducible refine Below.chg ?_ (by assumption) (by first | (simp; done) | omega | (simp; omega))))))

theorem took_new (s v l t : Int) (w : World) :
    Calls Try.prog 127 #[.agg #[.int .i64 s, .int .i64 v, .int .i64 l, .bool false], .int .i64 t] w (Ret w (.agg #[.int .i64 (8 * clip t), .int .i64 (2 * clip t), .int .i64 0, .bool true])) := by
  have hb := clip_bd t
  go_enter Try.func127, Try.ntmps127
  go_wp2_with fail
  refine Calls.mono (held_any t 1 64 _) ?_
  rintro e w1 ⟨rfl, hb1⟩
  have z1 := Below.size hb1; try simp only [World.size_alloc, World.size_setCell, World.size_drew] at z1
  obtain ⟨c1_0, f1_0⟩ := Below.blk hb1 (b := w.heap.size) (by first | (simp; done) | omega | (simp; omega))
  have z1_0 : w.heap.size < w1.heap.size := (by first | (simp; done) | omega | (simp; omega))
  obtain ⟨c1_1, f1_1⟩ := Below.blk hb1 (b := w.heap.size + 1) (by first | (simp; done) | omega | (simp; omega))
  have z1_1 : w.heap.size + 1 < w1.heap.size := (by first | (simp; done) | omega | (simp; omega))
  rw [show min (max t 1) 64 = clip t from rfl]
  go_wp2_with fail
  exact bodyPost_ret (v := .agg #[.int .i64 (8 * clip t), .int .i64 (2 * clip t), .int .i64 0, .bool true]) (by simp [results, Try.results127, go_sem, c1_1]) rfl (Ret.mk rfl (by repeat (first | with_reducible exact Below.refl _ _ | (with_reducible refine Below.al ?_) | (with_reducible refine Below.drew ?_) | (with_reducible refine Below.set ?_ (by first | (simp; done) | omega | (simp; omega))) | (with_reducible refine Below.thru ?_ (by assumption)) | (with_reducible refine Below.chg ?_ (by assumption) (by first | (simp; done) | omega | (simp; omega))))))

theorem took_old (s v l t : Int) (w : World) (h0 : 0 ≤ s) (h1 : s ≤ 1000) (h2 : 0 ≤ v) (h3 : v ≤ 1000) :
    Calls Try.prog 127 #[.agg #[.int .i64 s, .int .i64 v, .int .i64 l, .bool true], .int .i64 t] w
      (Ret w (.agg #[.int .i64 (s + (clip t - s / 8)), .int .i64 (v + (max (clip t - s / 8) (-(clip t - s / 8)) - v / 4)), .int .i64 0, .bool true])) := by
  have hb := clip_bd t
  go_enter Try.func127, Try.ntmps127
  go_wp2_with fail
  refine Calls.mono (held_any t 1 64 _) ?_
  rintro e w1 ⟨rfl, hb1⟩
  have z1 := Below.size hb1; try simp only [World.size_alloc, World.size_setCell, World.size_drew] at z1
  obtain ⟨c1_0, f1_0⟩ := Below.blk hb1 (b := w.heap.size) (by first | (simp; done) | omega | (simp; omega))
  have z1_0 : w.heap.size < w1.heap.size := (by first | (simp; done) | omega | (simp; omega))
  obtain ⟨c1_1, f1_1⟩ := Below.blk hb1 (b := w.heap.size + 1) (by first | (simp; done) | omega | (simp; omega))
  have z1_1 : w.heap.size + 1 < w1.heap.size := (by first | (simp; done) | omega | (simp; omega))
  rw [show min (max t 1) 64 = clip t from rfl]
  go_upto_region 6 with fail
  generalize hD : clip t - s / 8 = d at *
  have hd : -130 ≤ d ∧ d ≤ 64 := by omega
  replace hD := Lib.hid hD
  go_upto_region 8 with fail
  go_wp2_with fail
  exact bodyPost_ret (v := .agg #[.int .i64 (s + d), .int .i64 (v + (max d (-d) - v / 4)), .int .i64 0, .bool true]) (by simp [results, Try.results127, go_sem, c1_1]) rfl (Ret.mk rfl (by repeat (first | with_reducible exact Below.refl _ _ | (with_reducible refine Below.al ?_) | (with_reducible refine Below.drew ?_) | (with_reducible refine Below.set ?_ (by first | (simp; done) | omega | (simp; omega))) | (with_reducible refine Below.thru ?_ (by assumption)) | (with_reducible refine Below.chg ?_ (by assumption) (by first | (simp; done) | omega | (simp; omega))))))

/-- How long one waits: 8 ticks if nothing is known. -/
def wait (k : Bool) (s v : Int) (l : Nat) : Int := min (min (max (if k then s / 8 + max 1 v else 8) 4) 64 * 2 ^ l) 64

theorem pow_bd (l : Nat) (hl : l ≤ 6) : (1 : Int) ≤ 2 ^ l ∧ (2 : Int) ^ l ≤ 64 := by
  have h : ∀ l : Nat, l ≤ 6 → (1 : Int) ≤ 2 ^ l ∧ (2 : Int) ^ l ≤ 64 := by decide
  exact h l hl
theorem shl_bd (x : Int) (l : Nat) (hl : l ≤ 6) (h0 : 0 ≤ x) (h1 : x ≤ 64) : 0 ≤ x * 2 ^ l ∧ x * 2 ^ l ≤ 4096 := by
  obtain ⟨a, b⟩ := pow_bd l hl
  have c : x * 2 ^ l ≤ 64 * 64 := Int.mul_le_mul h1 b (by omega) (by omega)
  exact ⟨Int.mul_nonneg h0 (by omega), by omega⟩

theorem timeout_new (s v : Int) (l : Nat) (w : World) (hl : l ≤ 6) :
    Calls Try.prog 67 #[.agg #[.int .i64 s, .int .i64 v, .int .i64 l, .bool false]] w (Ret w (.int .i64 (wait false s v l))) := by
  have hb := shl_bd (min (max 8 4) 64) l hl (by omega) (by omega)
  go_enter Try.func67, Try.ntmps67
  go_wp2_with fail
  refine wp_region_near (by kernel_rfl) (by kernel_rfl) ?_
  intro hs
  repeat (go_big_quiet_step ((go_at_call 114; exact Calls.near (by simp) (held_any _ _ _ _))))
  refine wpQuiet_nil ?_
  clear hs
  intro w1 hb1
  go_wp2_with fail
  go_ret
  exact Ret.mk (by simp [wait]) (by repeat (first | with_reducible exact Below.refl _ _ | (with_reducible refine Below.al ?_) | (with_reducible refine Below.drew ?_) | (with_reducible refine Below.set ?_ (by first | (simp; done) | omega | (simp; omega))) | (with_reducible refine Below.thru ?_ (by assumption)) | (with_reducible refine Below.chg ?_ (by assumption) (by first | (simp; done) | omega | (simp; omega)))))

theorem timeout_old (s v : Int) (l : Nat) (w : World) (hl : l ≤ 6) (h0 : 0 ≤ s) (h1 : s ≤ 1000) (h2 : 0 ≤ v) (h3 : v ≤ 1000) :
    Calls Try.prog 67 #[.agg #[.int .i64 s, .int .i64 v, .int .i64 l, .bool true]] w (Ret w (.int .i64 (wait true s v l))) := by
  have hb := shl_bd (min (max (s / 8 + max 1 v) 4) 64) l hl (by omega) (by omega)
  go_enter Try.func67, Try.ntmps67
  go_wp2_with fail
  refine wp_region_near (by kernel_rfl) (by kernel_rfl) ?_
  intro hs
  repeat (go_big_quiet_step ((go_at_call 87; exact Calls.near (by simp) (smooth_any _ _ _ _ _ (by omega) (by omega)))))
  refine wpQuiet_nil ?_
  clear hs
  intro w1 hb1
  obtain ⟨c1, f1⟩ := Below.blk hb1 (b := w.heap.size) (by first | (simp; done) | omega | (simp; omega))
  have z1 : w.heap.size < w1.heap.size := by have := hb1.size; simp at this; omega
  go_wp2_with fail
  refine wp_region_near (by kernel_rfl) (by kernel_rfl) ?_
  intro hs
  repeat (go_big_quiet_step ((go_at_call 114; exact Calls.near (by simp) (held_any _ _ _ _))))
  refine wpQuiet_nil ?_
  clear hs
  intro w2 hb2
  go_wp2_with fail
  go_ret
  exact Ret.mk (by simp [wait]) (by repeat (first | with_reducible exact Below.refl _ _ | (with_reducible refine Below.al ?_) | (with_reducible refine Below.drew ?_) | (with_reducible refine Below.set ?_ (by first | (simp; done) | omega | (simp; omega))) | (with_reducible refine Below.thru ?_ (by assumption)) | (with_reducible refine Below.chg ?_ (by assumption) (by first | (simp; done) | omega | (simp; omega)))))
end Go.Proofs.Ytpajedpkdfacoaa.Rtt
