/- Small laws that all walks of this seat use: min and max of two integers as Lean's own, and what 'Below' gives. -/
import Derived.Test.YtpajedpkdfacoaaRows
import Derived.Test.YtpajedpkdfacoaaNear
import Derived.WalkKit
import Derived.ProofKit
import Derived.Below
import Derived.Lib.Hide
import Derived.BigQuiet
import Derived.Deep.QuietTactic
import Derived.Deep.RegionWith
namespace Go.Proofs.Ytpajedpkdfacoaa
set_option linter.unusedSimpArgs false
set_option linter.unusedVariables false
open Go.RowKit

theorem max_ints (ats : Array TypeId) (ty : TypeId) (k : IntKind) (a b : Int) :
    Builtin.max_ ats ty #[.int k a, .int k b] = pure (.int k (max a b)) := by
  have : (if b > a then b else a) = max a b := by split <;> omega
  simp [Builtin.max_, Builtin.max2, this]

theorem min_ints (ats : Array TypeId) (ty : TypeId) (k : IntKind) (a b : Int) :
    Builtin.min_ ats ty #[.int k a, .int k b] = pure (.int k (min a b)) := by
  have : (if b < a then b else a) = min a b := by split <;> omega
  simp [Builtin.min_, Builtin.min2, this]

attribute [go_sem ↓] max_ints min_ints

theorem ret_int {k : IntKind} {a b : Int} (h : a = b) : Ending.returned (.int k a) = .returned (.int k b) := by rw [h]

section
variable {B : Nat} {w W w1 : World}
/-- What a walk is told of one block in a world that is as W was. -/
theorem Below.blk (hb : Below W.heap.size W w1) {b : Nat} (h : b < W.heap.size) :
    (∀ o, w1.cell? ⟨b, o, none⟩ = W.cell? ⟨b, o, none⟩) ∧ (∀ o, w1.frozen? ⟨b, o, none⟩ = W.frozen? ⟨b, o, none⟩) :=
  ⟨fun o => hb.cell (p := ⟨b, o, none⟩) h, fun o => hb.frozen (p := ⟨b, o, none⟩) h⟩
theorem Below.thru (h : Below w.heap.size w W) (hb : Below W.heap.size W w1) : Below w.heap.size w w1 := h.trans (hb.mono h.size)
theorem Below.al (h : Below w.heap.size w W) {o : Obj} : Below w.heap.size w (W.alloc o) := h.alloc h.size o
theorem Below.set (h : Below w.heap.size w W) {p : Addr} {u : Value} (hp : w.heap.size ≤ p.block) : Below w.heap.size w (W.setCell p u) := h.setCell hp u
end

/-- A block of the call's own that is not frozen, and what its cells hold. -/
structure Box (w : World) (b : Nat) (vs : List Value) : Prop where
  lt : b < w.heap.size
  cells : ∀ o, w.cell? ⟨b, o, none⟩ = vs[o]?
  free : ∀ o, w.frozen? ⟨b, o, none⟩ = false

section
variable {w W w1 : World} {b : Nat} {vs : List Value}
theorem Box.below (h : Box W b vs) (hb : Below W.heap.size W w1) : Box w1 b vs :=
  ⟨Nat.lt_of_lt_of_le h.lt hb.size, fun o => ((Below.blk hb h.lt).1 o).trans (h.cells o), fun o => ((Below.blk hb h.lt).2 o).trans (h.free o)⟩
theorem Box.new (vs : List Value) (t : TypeId) : Box (w.alloc (.cells vs.toArray t)) w.heap.size vs := by
  refine ⟨by simp, fun o => ?_, fun o => ?_⟩
  · rw [World.cell?_alloc_new]; simp
  · exact World.frozen?_alloc_new _ _ _ _
theorem Box.alloc (h : Box w b vs) (o : Obj) : Box (w.alloc o) b vs := h.below ((Below.refl _ _).alloc (Nat.le_refl _) o)
theorem Box.drew (h : Box w b vs) : Box w.drew b vs := h.below (Below.refl _ _).drew
theorem Box.other (h : Box w b vs) {c : Addr} {v : Value} (hc : b ≠ c.block) : Box (w.setCell c v) b vs := by
  refine ⟨by simpa using h.lt, fun o => ?_, fun o => ?_⟩
  · rw [World.cell?_of_block (w := w) (Below.heap_setCell w c v b hc)]; exact h.cells o
  · simpa using h.free o
theorem Box.set (h : Box w b vs) (i : Nat) (v : Value) (hi : i < vs.length) : Box (w.setCell ⟨b, i, none⟩ v) b (vs.set i v) := by
  refine ⟨by simpa using h.lt, fun o => ?_, fun o => by simpa using h.free o⟩
  have hc := h.cells o
  by_cases e : i = o
  · subst e
    rw [World.cell?_setCell_same _ _ _ (u := vs[i]) (by rw [h.cells i]; simp [hi])]
    simp [hi]
  · rw [World.cell?_setCell_other _ _ _ _ (by simp [e]), hc]
    simp [List.getElem?_set_ne e]
theorem Box.al (h : Box w b vs) {o : Obj} : Box (w.alloc o) b vs := h.alloc o
theorem Box.oth (h : Box w b vs) {c : Addr} {v : Value} (hc : b ≠ c.block) : Box (w.setCell c v) b vs := h.other hc
theorem Box.new_at {v : List Value} {t : TypeId} {n : Nat} (hn : n = w.heap.size) : Box (w.alloc (.cells v.toArray t)) n v := hn ▸ Box.new v t
theorem Box.set0 {u v : Value} (h : Box w b (u :: vs)) : Box (w.setCell ⟨b, 0, none⟩ v) b (v :: vs) := h.set 0 v (by simp)
theorem Box.set1 {x0 : Value} {u v : Value} (h : Box w b (x0 :: u :: vs)) : Box (w.setCell ⟨b, 1, none⟩ v) b (x0 :: v :: vs) := h.set 1 v (by simp)
theorem Box.set2 {x0 x1 : Value} {u v : Value} (h : Box w b (x0 :: x1 :: u :: vs)) : Box (w.setCell ⟨b, 2, none⟩ v) b (x0 :: x1 :: v :: vs) := h.set 2 v (by simp)
theorem Box.set3 {x0 x1 x2 : Value} {u v : Value} (h : Box w b (x0 :: x1 :: x2 :: u :: vs)) : Box (w.setCell ⟨b, 3, none⟩ v) b (x0 :: x1 :: x2 :: v :: vs) := h.set 3 v (by simp)
theorem Box.set4 {x0 x1 x2 x3 : Value} {u v : Value} (h : Box w b (x0 :: x1 :: x2 :: x3 :: u :: vs)) : Box (w.setCell ⟨b, 4, none⟩ v) b (x0 :: x1 :: x2 :: x3 :: v :: vs) := h.set 4 v (by simp)
theorem Box.set5 {x0 x1 x2 x3 x4 : Value} {u v : Value} (h : Box w b (x0 :: x1 :: x2 :: x3 :: x4 :: u :: vs)) : Box (w.setCell ⟨b, 5, none⟩ v) b (x0 :: x1 :: x2 :: x3 :: x4 :: v :: vs) := h.set 5 v (by simp)
theorem Box.set6 {x0 x1 x2 x3 x4 x5 : Value} {u v : Value} (h : Box w b (x0 :: x1 :: x2 :: x3 :: x4 :: x5 :: u :: vs)) : Box (w.setCell ⟨b, 6, none⟩ v) b (x0 :: x1 :: x2 :: x3 :: x4 :: x5 :: v :: vs) := h.set 6 v (by simp)
theorem Box.set7 {x0 x1 x2 x3 x4 x5 x6 : Value} {u v : Value} (h : Box w b (x0 :: x1 :: x2 :: x3 :: x4 :: x5 :: x6 :: u :: vs)) : Box (w.setCell ⟨b, 7, none⟩ v) b (x0 :: x1 :: x2 :: x3 :: x4 :: x5 :: x6 :: v :: vs) := h.set 7 v (by simp)
theorem Box.set8 {x0 x1 x2 x3 x4 x5 x6 x7 : Value} {u v : Value} (h : Box w b (x0 :: x1 :: x2 :: x3 :: x4 :: x5 :: x6 :: x7 :: u :: vs)) : Box (w.setCell ⟨b, 8, none⟩ v) b (x0 :: x1 :: x2 :: x3 :: x4 :: x5 :: x6 :: x7 :: v :: vs) := h.set 8 v (by simp)
end

end Go.Proofs.Ytpajedpkdfacoaa
