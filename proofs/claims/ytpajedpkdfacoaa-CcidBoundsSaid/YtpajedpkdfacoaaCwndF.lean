
/- The walks of the package cwnd. -/
import Derived.Test.YtpajedpkdfacoaaCircle
namespace Go.Proofs.Ytpajedpkdfacoaa.Cwnd
set_option linter.unusedSimpArgs false
set_option linter.unusedVariables false
open Go Go.RowKit Go.Proofs.Ytpajedpkdfacoaa Go.Proofs.Ytpajedpkdfacoaa.Circ
attribute [local irreducible] Calls

/-- A window: its size, its threshold, what is counted, whether and where a loss is marked. -/
structure Win where
  s : Int
  t : Int
  c : Int
  k : Bool
  m : Int
def Win.vs (x : Win) : List Value := [.int .i64 x.s, .int .i64 x.t, .int .i64 x.c, .bool x.k, .int .i64 x.m]
abbrev Win.new : Win := ⟨3, 16, 0, false, 0⟩
def Win.beg (x : Win) : Win := if x.s = 0 then Win.new else x
def Win.grow (x : Win) : Win := if 16 ≤ x.s then x else if x.s < x.t then ⟨x.s + 1, x.t, x.c, x.k, x.m⟩ else if x.s ≤ x.c + 1 then ⟨x.s + 1, x.t, 0, x.k, x.m⟩ else ⟨x.s, x.t, x.c + 1, x.k, x.m⟩
def Win.iter (x : Win) : Nat → Win
  | 0 => x
  | n + 1 => (x.iter n).grow
def manyF (n : Int) : Nat := (min (max n 0) 64).toNat
def Win.acked (x : Win) (many : Int) (full : Bool) : Win := if full then x.iter (manyF many) else x
def Win.shrunk (x : Win) (next : Int) : Win := ⟨max (x.s / 2) 2, max (x.s / 2) 2, 0, true, ofC next⟩
def Win.late (x : Win) (next : Int) : Win := ⟨1, max (x.s / 2) 2, 0, true, ofC next⟩
def Win.old (x : Win) (seq : Int) : Bool := x.k && lessC seq x.m
def Win.lost (x : Win) (seq next : Int) : Win := if x.old seq then x else x.shrunk next
def Win.Ok (x : Win) : Prop := 1 ≤ x.s ∧ x.s ≤ 16 ∧ 2 ≤ x.t ∧ x.t ≤ 16 ∧ 0 ≤ x.c ∧ x.c < x.s

theorem Win.new_ok : Win.Ok Win.new := by unfold Win.Ok; decide
theorem Win.Ok.beg {x : Win} (h : x.Ok) : x.beg = x := by unfold Win.beg; rw [if_neg (by have := h.1; omega)]
theorem Win.Ok.grow {x : Win} (h : x.Ok) : x.grow.Ok := by
  obtain ⟨h1, h2, h3, h4, h5, h6⟩ := h
  unfold Win.grow
  (repeat' split) <;> (unfold Win.Ok; (try simp only); omega)
theorem Win.Ok.iter {x : Win} (h : x.Ok) : ∀ n, (x.iter n).Ok
  | 0 => h
  | n + 1 => (h.iter n).grow
theorem Win.Ok.acked {x : Win} (h : x.Ok) (many : Int) (full : Bool) : (x.acked many full).Ok := by
  unfold Win.acked
  split
  · exact h.iter _
  · exact h
theorem Win.Ok.shrunk {x : Win} (h : x.Ok) (next : Int) : (x.shrunk next).Ok := by
  obtain ⟨h1, h2, h3, h4, h5, h6⟩ := h
  unfold Win.shrunk Win.Ok
  simp only
  omega
theorem Win.Ok.late {x : Win} (h : x.Ok) (next : Int) : (x.late next).Ok := by
  obtain ⟨h1, h2, h3, h4, h5, h6⟩ := h
  unfold Win.late Win.Ok
  simp only
  omega
theorem Win.Ok.lost {x : Win} (h : x.Ok) (seq next : Int) : (x.lost seq next).Ok := by
  unfold Win.lost
  split
  · exact h
  · exact h.shrunk next

theorem new_any (w : World) : Calls Try.prog 54 #[] w (Ret w (.agg #[.int .i64 3, .int .i64 16, .int .i64 0, .bool false, .int .i64 0])) := by
  go_enter Try.func54, Try.ntmps54
  go_wp2_with fail
  exact bodyPost_ret (v := .agg #[.int .i64 3, .int .i64 16, .int .i64 0, .bool false, .int .i64 0]) (by simp [results, Try.results54, go_sem]) rfl (Ret.mk rfl (by repeat (first | with_reducible exact Below.refl _ _ | (with_reducible refine Below.al ?_) | (with_reducible refine Below.drew ?_) | (with_reducible refine Below.set ?_ (by first | (simp; done) | omega | (simp; omega))) | (with_reducible refine Below.thru ?_ (by assumption)) | (with_reducible refine Below.chg ?_ (by assumption) (by first | (simp; done) | omega | (simp; omega))))))
theorem begun_any (x : Win) (w : World) : Calls Try.prog 113 #[.agg #[.int .i64 x.s, .int .i64 x.t, .int .i64 x.c, .bool x.k, .int .i64 x.m]] w
    (Ret w (.agg #[.int .i64 x.beg.s, .int .i64 x.beg.t, .int .i64 x.beg.c, .bool x.beg.k, .int .i64 x.beg.m])) := by
  obtain ⟨s, t, c, k, m⟩ := x
  by_cases h : s = 0
  · subst h
    rw [show Win.beg ⟨0, t, c, k, m⟩ = Win.new from rfl]
    go_enter Try.func113, Try.ntmps113
    go_wp2_with fail
    refine Calls.mono (new_any _) ?_
    rintro e w1 ⟨rfl, hb1⟩
    have z1 := Below.size hb1; try simp only [World.size_alloc, World.size_setCell, World.size_drew] at z1
    obtain ⟨c1_0, f1_0⟩ := Below.blk hb1 (b := w.heap.size) (by first | (simp; done) | omega | (simp; omega))
    have z1_0 : w.heap.size < w1.heap.size := (by first | (simp; done) | omega | (simp; omega))
    obtain ⟨c1_1, f1_1⟩ := Below.blk hb1 (b := w.heap.size + 1) (by first | (simp; done) | omega | (simp; omega))
    have z1_1 : w.heap.size + 1 < w1.heap.size := (by first | (simp; done) | omega | (simp; omega))
    go_wp2_with fail
    exact bodyPost_ret (v := .agg #[.int .i64 3, .int .i64 16, .int .i64 0, .bool false, .int .i64 0]) (by simp [results, Try.results113, go_sem, c1_0, c1_1]) rfl (Ret.mk rfl (by repeat (first | with_reducible exact Below.refl _ _ | (with_reducible refine Below.al ?_) | (with_reducible refine Below.drew ?_) | (with_reducible refine Below.set ?_ (by first | (simp; done) | omega | (simp; omega))) | (with_reducible refine Below.thru ?_ (by assumption)) | (with_reducible refine Below.chg ?_ (by assumption) (by first | (simp; done) | omega | (simp; omega))))))
  · rw [show Win.beg ⟨s, t, c, k, m⟩ = ⟨s, t, c, k, m⟩ from if_neg h]
    have q : (s == 0) = false := by simpa using h
    go_enter Try.func113, Try.ntmps113
    go_wp2_with fail
    exact bodyPost_ret (v := .agg #[.int .i64 s, .int .i64 t, .int .i64 c, .bool k, .int .i64 m]) (by simp [results, Try.results113, go_sem]) rfl (Ret.mk rfl (by repeat (first | with_reducible exact Below.refl _ _ | (with_reducible refine Below.al ?_) | (with_reducible refine Below.drew ?_) | (with_reducible refine Below.set ?_ (by first | (simp; done) | omega | (simp; omega))) | (with_reducible refine Below.thru ?_ (by assumption)) | (with_reducible refine Below.chg ?_ (by assumption) (by first | (simp; done) | omega | (simp; omega))))))
theorem begun_at (x : Win) {s t c : Int} {k : Bool} {m : Int} (h : x.beg = ⟨s, t, c, k, m⟩) (w : World) : Calls Try.prog 113 #[.agg #[.int .i64 x.s, .int .i64 x.t, .int .i64 x.c, .bool x.k, .int .i64 x.m]] w
    (Ret w (.agg #[.int .i64 s, .int .i64 t, .int .i64 c, .bool k, .int .i64 m])) := by
  have := begun_any x w
  rw [h] at this
  exact this
theorem win_f0 (w : World) (s t c : Int) (k : Bool) (m : Int) : (Instr.field 95 (.agg #[.int .i64 s, .int .i64 t, .int .i64 c, .bool k, .int .i64 m]) 0).run Try.prog w = .ok (.int .i64 s) w := by kernel_rfl
theorem win_f1 (w : World) (s t c : Int) (k : Bool) (m : Int) : (Instr.field 95 (.agg #[.int .i64 s, .int .i64 t, .int .i64 c, .bool k, .int .i64 m]) 1).run Try.prog w = .ok (.int .i64 t) w := by kernel_rfl
attribute [go_sem ↓] win_f0 win_f1
set_option maxRecDepth 100000 in
theorem size_any (x : Win) (w : World) : Calls Try.prog 63 #[.agg #[.int .i64 x.s, .int .i64 x.t, .int .i64 x.c, .bool x.k, .int .i64 x.m]] w (Ret w (.int .i64 x.beg.s)) := by
  obtain ⟨s0, t0, c0, k0, m0⟩ := x
  generalize hy : Win.beg ⟨s0, t0, c0, k0, m0⟩ = y
  obtain ⟨s, t, c, k, m⟩ := y
  replace hy := Lib.hid hy
  go_enter Try.func63, Try.ntmps63
  go_wp2_with fail
  refine Calls.mono (begun_at ⟨s0, t0, c0, k0, m0⟩ hy.out _) ?_
  rintro e w1 ⟨rfl, hb1⟩
  have z1 := Below.size hb1; try simp only [World.size_alloc, World.size_setCell, World.size_drew] at z1
  go_wp2_with fail
  go_ret
  exact Ret.mk rfl (by repeat (first | with_reducible exact Below.refl _ _ | (with_reducible refine Below.al ?_) | (with_reducible refine Below.drew ?_) | (with_reducible refine Below.set ?_ (by first | (simp; done) | omega | (simp; omega))) | (with_reducible refine Below.thru ?_ (by assumption)) | (with_reducible refine Below.chg ?_ (by assumption) (by first | (simp; done) | omega | (simp; omega)))))
set_option maxRecDepth 100000 in
theorem grown_any (x : Win) (h : x.Ok) (w : World) : Calls Try.prog 140 #[.agg #[.int .i64 x.s, .int .i64 x.t, .int .i64 x.c, .bool x.k, .int .i64 x.m]] w
    (Ret w (.agg #[.int .i64 x.grow.s, .int .i64 x.grow.t, .int .i64 x.grow.c, .bool x.grow.k, .int .i64 x.grow.m])) := by
  obtain ⟨s, t, c, k, m⟩ := x
  obtain ⟨h1, h2, h3, h4, h5, h6⟩ := h
  simp only at h1 h2 h3 h4 h5 h6
  by_cases a1 : 16 ≤ s
  · rw [show Win.grow ⟨s, t, c, k, m⟩ = ⟨s, t, c, k, m⟩ from if_pos a1]
    go_enter Try.func140, Try.ntmps140
    go_wp2_with fail
    exact bodyPost_ret (v := .agg #[.int .i64 (s), .int .i64 t, .int .i64 (c), .bool k, .int .i64 m]) (by simp [results, Try.results140, go_sem]) rfl (Ret.mk rfl (by repeat (first | with_reducible exact Below.refl _ _ | (with_reducible refine Below.al ?_) | (with_reducible refine Below.drew ?_) | (with_reducible refine Below.set ?_ (by first | (simp; done) | omega | (simp; omega))) | (with_reducible refine Below.thru ?_ (by assumption)) | (with_reducible refine Below.chg ?_ (by assumption) (by first | (simp; done) | omega | (simp; omega))))))
  · by_cases a2 : s < t
    · rw [show Win.grow ⟨s, t, c, k, m⟩ = ⟨s + 1, t, c, k, m⟩ from (if_neg a1).trans (if_pos a2)]
      go_enter Try.func140, Try.ntmps140
      go_wp2_with fail
      exact bodyPost_ret (v := .agg #[.int .i64 (s + 1), .int .i64 t, .int .i64 (c), .bool k, .int .i64 m]) (by simp [results, Try.results140, go_sem]) rfl (Ret.mk rfl (by repeat (first | with_reducible exact Below.refl _ _ | (with_reducible refine Below.al ?_) | (with_reducible refine Below.drew ?_) | (with_reducible refine Below.set ?_ (by first | (simp; done) | omega | (simp; omega))) | (with_reducible refine Below.thru ?_ (by assumption)) | (with_reducible refine Below.chg ?_ (by assumption) (by first | (simp; done) | omega | (simp; omega))))))
    · by_cases a3 : s ≤ c + 1
      · rw [show Win.grow ⟨s, t, c, k, m⟩ = ⟨s + 1, t, 0, k, m⟩ from ((if_neg a1).trans (if_neg a2)).trans (if_pos a3)]
        go_enter Try.func140, Try.ntmps140
        go_wp2_with fail
        exact bodyPost_ret (v := .agg #[.int .i64 (s + 1), .int .i64 t, .int .i64 (0), .bool k, .int .i64 m]) (by simp [results, Try.results140, go_sem]) rfl (Ret.mk rfl (by repeat (first | with_reducible exact Below.refl _ _ | (with_reducible refine Below.al ?_) | (with_reducible refine Below.drew ?_) | (with_reducible refine Below.set ?_ (by first | (simp; done) | omega | (simp; omega))) | (with_reducible refine Below.thru ?_ (by assumption)) | (with_reducible refine Below.chg ?_ (by assumption) (by first | (simp; done) | omega | (simp; omega))))))
      · rw [show Win.grow ⟨s, t, c, k, m⟩ = ⟨s, t, c + 1, k, m⟩ from ((if_neg a1).trans (if_neg a2)).trans (if_neg a3)]
        go_enter Try.func140, Try.ntmps140
        go_wp2_with fail
        exact bodyPost_ret (v := .agg #[.int .i64 (s), .int .i64 t, .int .i64 (c + 1), .bool k, .int .i64 m]) (by simp [results, Try.results140, go_sem]) rfl (Ret.mk rfl (by repeat (first | with_reducible exact Below.refl _ _ | (with_reducible refine Below.al ?_) | (with_reducible refine Below.drew ?_) | (with_reducible refine Below.set ?_ (by first | (simp; done) | omega | (simp; omega))) | (with_reducible refine Below.thru ?_ (by assumption)) | (with_reducible refine Below.chg ?_ (by assumption) (by first | (simp; done) | omega | (simp; omega))))))
end Go.Proofs.Ytpajedpkdfacoaa.Cwnd
