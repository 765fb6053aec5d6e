/- The walks of the package avec and of its answer: known, held, Many, Check; runs in memory. -/
import Derived.Test.YtfdijoaclpnccaaMore
import Derived.Deep.LoopGhost
namespace Go.Proofs.Ytfdijoaclpnccaa.Avec
set_option linter.unusedSimpArgs false
set_option linter.unusedVariables false
open Go Go.RowKit Go.Proofs.Ytfdijoaclpnccaa
attribute [local irreducible] Calls

structure Run where
  state : Int
  many : Int
def encR (r : Run) : List Value := [.int .i64 r.state, .int .i64 r.many]
def valR (r : Run) : Value := .agg #[.int .i64 r.state, .int .i64 r.many]
def runs (l : List Run) : List Value := l.flatMap encR
theorem encR_len (r : Run) : (encR r).length = 2 := rfl
theorem runs_len (l : List Run) : (runs l).length = l.length * 2 := flat_len encR_len l
theorem runs_app (l : List Run) (x : Run) : runs l ++ encR x = runs (l ++ [x]) := by simp [runs]
theorem runs_one (l : List Run) : ∀ u ∈ runs l, u.oneCell' = true := by
  intro u hu
  obtain ⟨x, _, h⟩ := List.mem_flatMap.1 hu
  have : ∀ u ∈ encR x, u.oneCell' = true := by simp [encR, Value.oneCell']
  exact this u h
theorem runs_at {w : World} {a : Option Addr} {l : List Run} (h : Rd w a (runs l)) {n : Nat} (hn : l.length = n) (h0 : 0 < n) :
    ∃ b off, a = some ⟨b, off, none⟩ ∧ b < w.heap.size ∧ ∀ i (hi : i < l.length), w.cell? ⟨b, off + i * 2, none⟩ = some (.int .i64 l[i].state) ∧ w.cell? ⟨b, off + i * 2 + 1, none⟩ = some (.int .i64 l[i].many) := by
  obtain ⟨b, off, e, hb, hc⟩ := Rd.rows encR_len (by omega) h hn h0
  exact ⟨b, off, e, hb, fun i hi => ⟨hc i hi 0 _ rfl, hc i hi 1 _ rfl⟩⟩
theorem run_info : (Try.prog.info? 115).map (fun i => (i.zero, i.size, i.bytes)) = some (some (.agg #[.int .i64 0, .int .i64 0]), 2, 16) := by kernel_rfl
theorem runs_in {w : World} {a : Option Addr} {len cap : Nat} (h : Fits w (.slice 2 (.cons 1 (.int .i64) (.cons 1 (.int .i64) .nil))) [.slice a len cap]) :
    len ≤ maxLen ∧ (a = none → len = 0) ∧ ∃ l : List Run, l.length = len ∧ (∀ r ∈ l, isI64 r.state ∧ isI64 r.many) ∧ Rd w a (runs l) :=
  rows_in (size := 2) encR (by omega) encR_len (fun cs hf _ => by
    obtain ⟨x, y, rfl, wx, wy⟩ := fits_ints2 hf
    exact ⟨⟨x, y⟩, rfl, bounds_i64 wx, bounds_i64 wy⟩) h

/-- A state that is one. -/
def knownB (s : Int) : Bool := s == 0 || s == 1 || s == 3
theorem known_any (s : Int) (w : World) : Calls Try.prog 88 #[.int .i64 s] w (Ret w (.bool (knownB s))) := by
  by_cases h : s = 0 ∨ s = 1 ∨ s = 2 ∨ s = 3
  · rcases h with rfl | rfl | rfl | rfl
    all_goals
      go_enter Try.func88, Try.ntmps88
      go_wp2_with fail
      go_ret
      exact Ret.mk rfl (by repeat (first | with_reducible exact Below.refl _ _ | (with_reducible refine Below.al ?_) | (with_reducible refine Below.drew ?_) | (with_reducible refine Below.set ?_ (by first | (simp; done) | omega | (simp; omega))) | (with_reducible refine Below.thru ?_ (by assumption)) | (with_reducible refine Below.chg ?_ (by assumption) (by first | (simp; done) | omega | (simp; omega)))))
  · have hk : knownB s = false := by simp [knownB]; omega
    rw [hk]
    by_cases h0 : 0 ≤ s
    · have q0 : decide (0 ≤ s) = true := decide_eq_true h0
      have q3 : decide (s ≤ 3) = false := decide_eq_false (by omega)
      clear hk h
      go_enter Try.func88, Try.ntmps88
      go_wp2_with fail
      go_ret
      exact Ret.mk rfl (by repeat (first | with_reducible exact Below.refl _ _ | (with_reducible refine Below.al ?_) | (with_reducible refine Below.drew ?_) | (with_reducible refine Below.set ?_ (by first | (simp; done) | omega | (simp; omega))) | (with_reducible refine Below.thru ?_ (by assumption)) | (with_reducible refine Below.chg ?_ (by assumption) (by first | (simp; done) | omega | (simp; omega)))))
    · have q0 : decide (0 ≤ s) = false := decide_eq_false h0
      clear hk h
      go_enter Try.func88, Try.ntmps88
      go_wp2_with fail
      go_ret
      exact Ret.mk rfl (by repeat (first | with_reducible exact Below.refl _ _ | (with_reducible refine Below.al ?_) | (with_reducible refine Below.drew ?_) | (with_reducible refine Below.set ?_ (by first | (simp; done) | omega | (simp; omega))) | (with_reducible refine Below.thru ?_ (by assumption)) | (with_reducible refine Below.chg ?_ (by assumption) (by first | (simp; done) | omega | (simp; omega)))))
theorem known_ref (s : Int) (w : World) : Calls Try.prog 90 #[.int .i64 s] w (Ret w (.bool (knownB s))) := by
  by_cases h : s = 0 ∨ s = 1 ∨ s = 3
  · rcases h with rfl | rfl | rfl
    all_goals
      go_enter Try.func90, Try.ntmps90
      go_wp2_with fail
      go_ret
      exact Ret.mk rfl (by repeat (first | with_reducible exact Below.refl _ _ | (with_reducible refine Below.al ?_) | (with_reducible refine Below.drew ?_) | (with_reducible refine Below.set ?_ (by first | (simp; done) | omega | (simp; omega))) | (with_reducible refine Below.thru ?_ (by assumption)) | (with_reducible refine Below.chg ?_ (by assumption) (by first | (simp; done) | omega | (simp; omega)))))
  · have hk : knownB s = false := by simp [knownB]; omega
    rw [hk]
    have q0 : (s == 0) = false := by simp; omega
    have q1 : (s == 1) = false := by simp; omega
    have q3 : (s == 3) = false := by simp; omega
    clear hk h
    go_enter Try.func90, Try.ntmps90
    go_wp2_with fail
    go_ret
    exact Ret.mk rfl (by repeat (first | with_reducible exact Below.refl _ _ | (with_reducible refine Below.al ?_) | (with_reducible refine Below.drew ?_) | (with_reducible refine Below.set ?_ (by first | (simp; done) | omega | (simp; omega))) | (with_reducible refine Below.thru ?_ (by assumption)) | (with_reducible refine Below.chg ?_ (by assumption) (by first | (simp; done) | omega | (simp; omega)))))

/-- How many packets a run tells. -/
def heldI (n : Int) : Int := min (max n 0) 64
theorem held_bd (n : Int) : 0 ≤ heldI n ∧ heldI n ≤ 64 := by unfold heldI; omega
theorem held_any (r : Run) (w : World) : Calls Try.prog 92 #[.agg #[.int .i64 r.state, .int .i64 r.many]] w (Ret w (.int .i64 (heldI r.many))) := by
  go_enter Try.func92, Try.ntmps92
  go_wp2_with fail
  go_ret
  exact Ret.mk rfl (by repeat (first | with_reducible exact Below.refl _ _ | (with_reducible refine Below.al ?_) | (with_reducible refine Below.drew ?_) | (with_reducible refine Below.set ?_ (by first | (simp; done) | omega | (simp; omega))) | (with_reducible refine Below.thru ?_ (by assumption)) | (with_reducible refine Below.chg ?_ (by assumption) (by first | (simp; done) | omega | (simp; omega)))))
theorem held_ref (n : Int) (w : World) : Calls Try.prog 89 #[.int .i64 n] w (Ret w (.int .i64 (heldI n))) := by
  go_enter Try.func89, Try.ntmps89
  go_wp2_with fail
  go_ret
  exact Ret.mk rfl (by repeat (first | with_reducible exact Below.refl _ _ | (with_reducible refine Below.al ?_) | (with_reducible refine Below.drew ?_) | (with_reducible refine Below.set ?_ (by first | (simp; done) | omega | (simp; omega))) | (with_reducible refine Below.thru ?_ (by assumption)) | (with_reducible refine Below.chg ?_ (by assumption) (by first | (simp; done) | omega | (simp; omega)))))
def manyL (l : List Run) : Int := l.foldl (fun n r => n + heldI r.many) 0
theorem many_bd (l : List Run) : 0 ≤ manyL l ∧ manyL l ≤ 64 * l.length := by
  have : ∀ (l : List Run) (z : Int), z ≤ l.foldl (fun n r => n + heldI r.many) z ∧ l.foldl (fun n r => n + heldI r.many) z ≤ z + 64 * l.length := by
    intro l
    induction l with
    | nil => intro z; simp
    | cons r l ih =>
      intro z
      have := ih (z + heldI r.many)
      have := held_bd r.many
      simp only [List.foldl_cons, List.length_cons]
      omega
  have := this l 0
  unfold manyL
  omega
set_option maxRecDepth 100000 in
theorem many_any (l : List Run) (n : Nat) (hl : l.length = n) (hn : n ≤ 100000000) (a : Option Addr) (cap : Nat) (w : World) (h : Rd w a (runs l)) :
    Calls Try.prog 66 #[.slice a n cap] w (Ret w (.int .i64 (manyL l))) := by
  replace h := Lib.hid h; replace hl := Lib.hid hl
  go_enter Try.func66, Try.ntmps66
  go_wp2_with fail
  go_loopg [3, 5, 8] n (fun g z _ i wr => ∃ (j : Nat) (m : Int), j ≤ n ∧ g = n - j ∧ i = .int .i64 j ∧ z = .int .i64 m ∧ Hid (m = manyL (l.take j)) ∧ 0 ≤ m ∧ m ≤ 64 * j ∧ Below w.heap.size w wr)
  case atStart => exact ⟨0, 0, by omega, by omega, rfl, rfl, rfl, by omega, by omega, (by repeat (first | with_reducible exact Below.refl _ _ | (with_reducible refine Below.al ?_) | (with_reducible refine Below.drew ?_) | (with_reducible refine Below.set ?_ (by first | (simp; done) | omega | (simp; omega))) | (with_reducible refine Below.thru ?_ (by assumption)) | (with_reducible refine Below.chg ?_ (by assumption) (by first | (simp; done) | omega | (simp; omega)))))⟩
  case round =>
    obtain ⟨j, m, hj, hg, rfl, rfl, hm, hm0, hm1, hbw⟩ := hrel
    by_cases hlt : j < n
    · have hjl : j < l.length := by have := hl.out; omega
      obtain ⟨b, off, rfl, hb, hc⟩ := runs_at (h.out.below hbw) hl.out (by omega)
      obtain ⟨e0, e1⟩ := hc j hjl
      have hnx : m + heldI l[j].many = manyL (l.take (j + 1)) := by rw [hm.out]; unfold manyL; rw [foldl_take _ _ _ _ hjl]
      have hbd := held_bd l[j].many
      have P1 := fun W => held_any l[j] W
      clear hc
      generalize l[j] = r at *
      replace hnx := Lib.hid hnx; replace P1 := Lib.hid P1
      go_wp2_with fail
      refine Calls.mono (P1.out _) ?_
      rintro e w1 ⟨rfl, hb1⟩
      have z1 := Below.size hb1; try simp only [World.size_alloc, World.size_setCell, World.size_drew] at z1
      clear P1
      go_wp2_with fail
      go_roundg (n - (j + 1))
      case measure => omega
      case rel => exact ⟨j + 1, m + heldI r.many, by omega, rfl, by go_num, rfl, hnx, by omega, by omega, (by repeat (first | with_reducible exact Below.refl _ _ | (with_reducible refine Below.al ?_) | (with_reducible refine Below.drew ?_) | (with_reducible refine Below.set ?_ (by first | (simp; done) | omega | (simp; omega))) | (with_reducible refine Below.thru ?_ (by assumption)) | (with_reducible refine Below.chg ?_ (by assumption) (by first | (simp; done) | omega | (simp; omega)))))⟩
    · obtain rfl : j = n := by omega
      have hf : m = manyL l := by rw [hm.out, List.take_of_length_le (by have := hl.out; omega)]
      replace hf := Lib.hid hf
      go_wp2_with fail
      go_ret
      exact Ret.mk (by rw [hf.out]; rfl) (by repeat (first | with_reducible exact Below.refl _ _ | (with_reducible refine Below.al ?_) | (with_reducible refine Below.drew ?_) | (with_reducible refine Below.set ?_ (by first | (simp; done) | omega | (simp; omega))) | (with_reducible refine Below.thru ?_ (by assumption)) | (with_reducible refine Below.chg ?_ (by assumption) (by first | (simp; done) | omega | (simp; omega)))))
end Go.Proofs.Ytfdijoaclpnccaa.Avec
