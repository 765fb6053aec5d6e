/- How long one waits: the numbers. -/
import Derived.Test.YticcedempclapaaRd
namespace Go.Proofs.Yticcedempclapaa.Hold
open Go Go.RowKit Go.Proofs.Yticcedempclapaa

def clamp (n m : Int) : Int := min (max n 0) m
def mostF (l : List Int) : Int := l.foldl (fun m x => max m (clamp x 64)) 0
def leastF (l : List Int) : Int := l.foldl (fun m x => min m (clamp x 64)) (mostF l)
def apartF (l : List Int) : Int := mostF l - leastF l
def gapF (mode own : Int) (l : List Int) : Int := if mode = 1 then apartF l else if mode = 2 then max (mostF l - clamp own 64) 0 else 0
def forF (mode hold own : Int) (l : List Int) : Int := if mode < 0 ∨ 2 < mode then 0 else min (clamp hold 60 + (gapF mode own l + 1) / 2) 60

theorem clamp_bd (n : Int) : 0 ≤ clamp n 64 ∧ clamp n 64 ≤ 64 := by unfold clamp; omega
theorem fold_max_bd (l : List Int) : ∀ m : Int, 0 ≤ m → m ≤ 64 → m ≤ l.foldl (fun m x => max m (clamp x 64)) m ∧ l.foldl (fun m x => max m (clamp x 64)) m ≤ 64 := by
  induction l with
  | nil => intro m h0 h1; simp; omega
  | cons x l ih => intro m h0 h1; have := clamp_bd x; have := ih (max m (clamp x 64)) (by omega) (by omega); simp only [List.foldl_cons]; omega
theorem fold_min_bd (l : List Int) : ∀ m : Int, 0 ≤ m → 0 ≤ l.foldl (fun m x => min m (clamp x 64)) m ∧ l.foldl (fun m x => min m (clamp x 64)) m ≤ m := by
  induction l with
  | nil => intro m h0; simp; omega
  | cons x l ih => intro m h0; have := clamp_bd x; have := ih (min m (clamp x 64)) (by omega); simp only [List.foldl_cons]; omega
theorem most_bd (l : List Int) : 0 ≤ mostF l ∧ mostF l ≤ 64 := fold_max_bd l 0 (by omega) (by omega)
theorem least_bd (l : List Int) : 0 ≤ leastF l ∧ leastF l ≤ mostF l := fold_min_bd l _ (most_bd l).1
theorem apart_bd (l : List Int) : 0 ≤ apartF l ∧ apartF l ≤ 64 := by have := most_bd l; have := least_bd l; unfold apartF; omega

theorem clamp_fold_max (l : List Int) : ∀ x : Int, clamp (l.foldl max x) 64 = l.foldl (fun m x => max m (clamp x 64)) (clamp x 64) := by
  induction l with
  | nil => intro x; rfl
  | cons y l ih => intro x; simp only [List.foldl_cons]; rw [ih]; congr 1; unfold clamp; omega
theorem clamp_fold_min (l : List Int) : ∀ x : Int, clamp (l.foldl min x) 64 = l.foldl (fun m x => min m (clamp x 64)) (clamp x 64) := by
  induction l with
  | nil => intro x; rfl
  | cons y l ih => intro x; simp only [List.foldl_cons]; rw [ih]; congr 1; unfold clamp; omega
theorem most_cons (x : Int) (l : List Int) : clamp (l.foldl max x) 64 = mostF (x :: l) := by
  rw [clamp_fold_max]; unfold mostF; simp only [List.foldl_cons]; congr 1; have := clamp_bd x; omega
theorem least_cons (x : Int) (l : List Int) : clamp (l.foldl min x) 64 = leastF (x :: l) := by
  rw [clamp_fold_min]; unfold leastF; simp only [List.foldl_cons]; congr 1
  have h := most_cons x l
  rw [clamp_fold_max] at h
  have := clamp_bd x
  have := fold_max_bd l (clamp x 64) (by omega) (by omega)
  omega
end Go.Proofs.Yticcedempclapaa.Hold
