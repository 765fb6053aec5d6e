
/- The walks of the package avec and of its answer: known, held, Many, Check; runs in memory. -/
import Derived.Test.YtpajedpkdfacoaaMore
import Derived.Deep.LoopGhost
namespace Go.Proofs.Ytpajedpkdfacoaa.Avec
set_option linter.unusedSimpArgs false
set_option linter.unusedVariables false
open Go Go.RowKit Go.Proofs.Ytpajedpkdfacoaa
attribute [local irreducible] Calls

structure Run where
  state : Int
  many : Int
def encR (r : Run) : List Value := [.int .i64 r.state, .int .i64 r.many]
def valR (r : Run) : Value := .agg #[.int .i64 r.state, .int .i64 r.many]
def runs (l : List Run) : List Value := l.flatMap encR
theorem encR_len (r : Run) : (encR r).length = 2 := rfl
theorem runs_len (l : List Run) : (runs l).length = l.length * 2 := flat_len encR_len l
theorem runs_app (l : List Run) (x : Run) : runs l ++ encR x = runs (l ++ [x]) := by simp [runs]
theorem runs_one (l : List Run) : ∀ u ∈ runs l, u.oneCell' = true := by
  intro u hu
  obtain ⟨x, _, h⟩ := List.mem_flatMap.1 hu
  have : ∀ u ∈ encR x, u.oneCell' = true := by simp [encR, Value.oneCell']
  exact this u h
theorem runs_at {w : World} {a : Option Addr} {l : List Run} (h : Rd w a (runs l)) {n : Nat} (hn : l.length = n) (h0 : 0 < n) :
    ∃ b off, a = some ⟨b, off, none⟩ ∧ b < w.heap.size ∧ ∀ i (hi : i < l.length), w.cell? ⟨b, off + i * 2, none⟩ = some (.int .i64 l[i].state) ∧ w.cell? ⟨b, off + i * 2 + 1, none⟩ = some (.int .i64 l[i].many) := by
  obtain ⟨b, off, e, hb, hc⟩ := Rd.rows encR_len (by omega) h hn h0
  exact ⟨b, off, e, hb, fun i hi => ⟨hc i hi 0 _ rfl, hc i hi 1 _ rfl⟩⟩
theorem run_info : (Try.prog.info? 89).map (fun i => (i.zero, i.size, i.bytes)) = some (some (.agg #[.int .i64 0, .int .i64 0]), 2, 16) := by kernel_rfl
theorem runs_in {w : World} {a : Option Addr} {len cap : Nat} (h : Fits w (.slice 2 (.cons 1 (.int .i64) (.cons 1 (.int .i64) .nil))) [.slice a len cap]) :
    len ≤ maxLen ∧ (a = none → len = 0) ∧ ∃ l : List Run, l.length = len ∧ (∀ r ∈ l, isI64 r.state ∧ isI64 r.many) ∧ Rd w a (runs l) :=
  rows_in (size := 2) encR (by omega) encR_len (fun cs hf _ => by
    obtain ⟨x, y, rfl, wx, wy⟩ := fits_ints2 hf
    exact ⟨⟨x, y⟩, rfl, bounds_i64 wx, bounds_i64 wy⟩) h

/-- A state that is one. -/
def knownB (s : Int) : Bool := s == 0 || s == 1 || s == 3
/-- How many packets a run tells. -/
def heldI (n : Int) : Int := min (max n 0) 64
theorem held_bd (n : Int) : 0 ≤ heldI n ∧ heldI n ≤ 64 := by unfold heldI; omega
theorem held_any (r : Run) (w : World) : Calls Try.prog 145 #[.agg #[.int .i64 r.state, .int .i64 r.many]] w (Ret w (.int .i64 (heldI r.many))) := by
  go_enter Try.func145, Try.ntmps145
  go_wp2_with fail
  go_ret
  exact Ret.mk rfl (by repeat (first | with_reducible exact Below.refl _ _ | (with_reducible refine Below.al ?_) | (with_reducible refine Below.drew ?_) | (with_reducible refine Below.set ?_ (by first | (simp; done) | omega | (simp; omega))) | (with_reducible refine Below.thru ?_ (by assumption)) | (with_reducible refine Below.chg ?_ (by assumption) (by first | (simp; done) | omega | (simp; omega)))))
theorem held_ref (n : Int) (w : World) : Calls Try.prog 147 #[.int .i64 n] w (Ret w (.int .i64 (heldI n))) := by
  go_enter Try.func147, Try.ntmps147
  go_wp2_with fail
  go_ret
  exact Ret.mk rfl (by repeat (first | with_reducible exact Below.refl _ _ | (with_reducible refine Below.al ?_) | (with_reducible refine Below.drew ?_) | (with_reducible refine Below.set ?_ (by first | (simp; done) | omega | (simp; omega))) | (with_reducible refine Below.thru ?_ (by assumption)) | (with_reducible refine Below.chg ?_ (by assumption) (by first | (simp; done) | omega | (simp; omega)))))
def manyL (l : List Run) : Int := l.foldl (fun n r => n + heldI r.many) 0
theorem many_bd (l : List Run) : 0 ≤ manyL l ∧ manyL l ≤ 64 * l.length := by
  have : ∀ (l : List Run) (z : Int), z ≤ l.foldl (fun n r => n + heldI r.many) z ∧ l.foldl (fun n r => n + heldI r.many) z ≤ z + 64 * l.length := by
    intro l
    induction l with
    | nil => intro z; simp
    | cons r l ih =>
      intro z
      have := ih (z + heldI r.many)
      have := held_bd r.many
      simp only [List.foldl_cons, List.length_cons]
      omega
  have := this l 0
  unfold manyL
  omega
end Go.Proofs.Ytpajedpkdfacoaa.Avec
