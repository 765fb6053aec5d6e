/- works of law08; the walk of the statement AvecOf. -/
import Derived.Test.YtfdijoaclpnccaaAvecAt2
namespace Go.Proofs.Ytfdijoaclpnccaa.Avec
set_option linter.unusedSimpArgs false
set_option linter.unusedVariables false
open Go Go.RowKit Go.Proofs.Ytfdijoaclpnccaa Go.Proofs.Ytfdijoaclpnccaa.Circ
attribute [local irreducible] Calls

def worksR : List Run := [⟨0, 2⟩, ⟨3, 1⟩]
theorem works_of : ofL [0, 0, 3] = worksR := by rfl
theorem works_put : putL worksR = [1, 192] := by decide
theorem works_check : checkL worksR = 0 := by rfl
theorem works_many : manyL worksR = 3 := by rfl
theorem works_at0 : findV (eachL 1 worksR) (ofC 0) = 0 := by rfl
theorem works_at3 : findV (eachL 1 worksR) (ofC 281474976710655) = 3 := by rfl
set_option maxRecDepth 100000 in
set_option maxHeartbeats 400000 in
theorem works_law (w : World) : Calls Try.prog 44 #[] w (Ret w (.bool true)) := by
  have HB := Box.new (w := w) (i64s [0, 0, 3]) 3
  have P := of_any [0, 0, 3] 3 rfl (by omega) _ 3 _ HB.rd
  rw [works_of] at P
  clear HB
  replace P := Lib.hid P
  go_enter Try.func44, Try.ntmps44
  go_wp2_with fail
  refine Calls.mono P.out ?_
  rintro e w1 ⟨v, rfl, H1⟩
  obtain ⟨a, cap, rfl, _, _, R1⟩ := (H1.row 0 rfl).rd (by omega)
  have hb1 : Below w.heap.size w w1 := Below.thru ((Below.refl w.heap.size w).alloc (Nat.le_refl _) _) (H1.below)
  have P1 := put_ok worksR 2 rfl (by omega) a cap w1 R1 works_check
  rw [works_put] at P1
  clear P H1
  replace P1 := Lib.hid P1; replace R1 := Lib.hid R1
  go_wp2_with fail
  refine Calls.mono (P1.out) ?_
  rintro e w2 ⟨rfl, hb2⟩
  have z2 := Below.size hb2; try simp only [World.size_alloc, World.size_setCell, World.size_drew] at z2
  clear P1
  have P2 := many_any worksR 2 rfl (by omega) a cap w2 (R1.out.below hb2)
  rw [works_many] at P2
  replace P2 := Lib.hid P2
  go_wp2_with fail
  refine Calls.mono (P2.out) ?_
  rintro e w3 ⟨rfl, hb3⟩
  have z3 := Below.size hb3; try simp only [World.size_alloc, World.size_setCell, World.size_drew] at z3
  clear P2
  have R3 := (R1.out.below hb2).below hb3
  have P3 := at_any 1 0 worksR 2 cap rfl (by omega) a w3 R3
  rw [works_at0] at P3
  replace P3 := Lib.hid P3; replace R3 := Lib.hid R3
  go_wp2_with fail
  refine Calls.mono (P3.out) ?_
  rintro e w4 ⟨rfl, hb4⟩
  have z4 := Below.size hb4; try simp only [World.size_alloc, World.size_setCell, World.size_drew] at z4
  clear P3
  have P4 := at_any 1 281474976710655 worksR 2 cap rfl (by omega) a w4 (R3.out.below hb4)
  rw [works_at3] at P4
  replace P4 := Lib.hid P4
  go_wp2_with fail
  refine Calls.mono (P4.out) ?_
  rintro e w5 ⟨rfl, hb5⟩
  have z5 := Below.size hb5; try simp only [World.size_alloc, World.size_setCell, World.size_drew] at z5
  clear P4
  go_wp2_with fail
  go_ret
  exact Ret.mk rfl (by repeat (first | with_reducible exact Below.refl _ _ | (with_reducible refine Below.al ?_) | (with_reducible refine Below.drew ?_) | (with_reducible refine Below.set ?_ (by first | (simp; done) | omega | (simp; omega))) | (with_reducible refine Below.thru ?_ (by assumption)) | (with_reducible refine Below.chg ?_ (by assumption) (by first | (simp; done) | omega | (simp; omega)))))
end Go.Proofs.Ytfdijoaclpnccaa.Avec
