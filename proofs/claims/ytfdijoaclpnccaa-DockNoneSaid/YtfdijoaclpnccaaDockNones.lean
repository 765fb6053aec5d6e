/- The walk of the statement DockNone. -/
import Derived.Test.YtfdijoaclpnccaaDockNone
namespace Go.Proofs.Ytfdijoaclpnccaa.DockLaw
set_option linter.unusedSimpArgs false
set_option linter.unusedVariables false
open Go Go.RowKit Go.Proofs.Ytfdijoaclpnccaa Go.Proofs.Ytfdijoaclpnccaa.DelInt Go.Proofs.Ytfdijoaclpnccaa.DockSInt
attribute [local irreducible] Calls

set_option maxRecDepth 100000 in
set_option maxHeartbeats 1000000 in
theorem none_walk (x : Int) (wx : (Lit.int .i64 x).wf = true) (w : World) : Calls Try.prog 13 #[.int .i64 x] w (Ret w (.bool true)) := by
  have L1 := fun W => push_none x W
  have L2 := fun W => spill_none x W
  have L3 := fun W => first_none W
  have L4 := fun W => DockSInt.pull_none W
  unfold val at L1 L2 L3
  have i5 : isI64 5 := ⟨by omega, by omega⟩
  replace L1 := Lib.hid L1; replace L2 := Lib.hid L2; replace L3 := Lib.hid L3; replace L4 := Lib.hid L4
  go_enter Try.func13, Try.ntmps13
  go_wp2_with fail
  refine Calls.mono (works_law _) ?_
  rintro e w1 ⟨rfl, hb1⟩
  have z1 := Below.size hb1; try simp only [World.size_alloc, World.size_setCell, World.size_drew] at z1
  go_wp2_with fail
  refine Calls.mono (L4.out _) ?_
  rintro e w2 ⟨rfl, hb2⟩
  have z2 := Below.size hb2; try simp only [World.size_alloc, World.size_setCell, World.size_drew] at z2
  go_wp2_with fail
  refine Calls.mono (L3.out _) ?_
  rintro e w3 ⟨rfl, hb3⟩
  have z3 := Below.size hb3; try simp only [World.size_alloc, World.size_setCell, World.size_drew] at z3
  go_wp2_with fail
  refine Calls.mono (L2.out _) ?_
  rintro e w4 ⟨rfl, hb4⟩
  have z4 := Below.size hb4; try simp only [World.size_alloc, World.size_setCell, World.size_drew] at z4
  clear L2 L3 L4
  go_wp2_with fail
  refine Calls.mono (new_any 3 _) ?_
  rintro e w5 ⟨d, rfl, H5⟩
  have H0 := ((((St.zero w).thru hb1).thru hb2).thru hb3).thru hb4
  replace H5 : St w none0 w5 [dockA d 3 []] := H0.add H5
  obtain ⟨S5, hS5, _, c5⟩ := H5.at 0 rfl
  have P5 := push_any d 3 [] x w5 S5 hS5 (by simp)
  unfold val at P5
  simp only [List.length_nil, List.nil_append] at P5
  rw [if_pos (by decide), decide_eq_true (by decide)] at P5
  clear H0 H5 hS5 hb1 hb2 hb3 hb4
  replace c5 := Lib.hid c5; replace P5 := Lib.hid P5
  go_wp2_with fail
  refine Calls.mono P5.out ?_
  rintro e w6 ⟨rfl, H6⟩
  replace H6 : St w none0 w6 [dockA d 3 [x]] := c5.out _ _ H6
  clear c5 P5
  replace H6 := Lib.hid H6
  go_wp2_with fail
  refine Calls.mono (L1.out _) ?_
  rintro e w7 ⟨rfl, hb7⟩
  have z7 := Below.size hb7; try simp only [World.size_alloc, World.size_setCell, World.size_drew] at z7
  go_wp2_with fail
  refine Calls.mono (place_none x _) ?_
  rintro e w8 ⟨rfl, hb8⟩
  have z8 := Below.size hb8; try simp only [World.size_alloc, World.size_setCell, World.size_drew] at z8
  go_wp2_with fail
  refine Calls.mono (sweep_none _) ?_
  rintro e w9 ⟨rfl, hb9⟩
  have z9 := Below.size hb9; try simp only [World.size_alloc, World.size_setCell, World.size_drew] at z9
  go_wp2_with fail
  refine Calls.mono (len_none _) ?_
  rintro e w10 ⟨rfl, hb10⟩
  have z10 := Below.size hb10; try simp only [World.size_alloc, World.size_setCell, World.size_drew] at z10
  go_wp2_with fail
  refine Calls.mono (all_nil 5 i5 _) ?_
  rintro e w11 ⟨rfl, hb11⟩
  have z11 := Below.size hb11; try simp only [World.size_alloc, World.size_setCell, World.size_drew] at z11
  go_wp2_with fail
  refine Calls.mono (sweep_nilq d _) ?_
  rintro e w12 ⟨rfl, hb12⟩
  have z12 := Below.size hb12; try simp only [World.size_alloc, World.size_setCell, World.size_drew] at z12
  have H12 := (((((H6.out.thru hb7).thru hb8).thru hb9).thru hb10).thru hb11).thru hb12
  obtain ⟨S12, hS12, _, c12⟩ := H12.at 0 rfl
  have P12 := place_end d 3 [x] 0 w12 S12 hS12 (by simp) (by simp)
  clear H6 H12 hS12 hb7 hb8 hb9 hb10 hb11 hb12 L1
  replace c12 := Lib.hid c12; replace P12 := Lib.hid P12
  go_wp2_with fail
  refine Calls.mono P12.out ?_
  rintro e w13 ⟨rfl, H13⟩
  replace H13 : St w none0 w13 [dockA d 3 [x, 0]] := c12.out _ _ H13
  obtain ⟨S13, hS13, _, c13⟩ := H13.at 0 rfl
  have P13 := all_any d 3 5 i5 [x, 0] (by simp) w13 S13 hS13
  rw [show ([x, 0] : List Int).take (max (5 : Int) 1).toNat = [x, 0] from rfl] at P13
  clear c12 P12 H13 hS13
  replace c13 := Lib.hid c13; replace P13 := Lib.hid P13
  go_wp2_with fail
  refine Calls.mono P13.out ?_
  rintro e w14 ⟨v, rfl, H14⟩
  replace H14 : St w none0 w14 [rowA 1 v [x, 0].length (encs [x, 0]), dockA d 3 [x, 0]] := c13.out _ _ H14
  obtain ⟨a, cap, rfl, _, _, R14⟩ := (H14.row 0 rfl).rd (by omega)
  have H15 := H14.alloc [.int .i64 x, .int .i64 0] 3
  rw [encs_i64s] at R14
  have P15 := ints_any [x, 0] 2 rfl (by unfold maxLen; omega) a cap _ 2 _ (R14.below ((Below.refl _ _).alloc (Nat.le_refl _) _)) (H15.box 0 rfl).rd
  clear c13 P13 H14 R14
  replace H15 := Lib.hid H15; replace P15 := Lib.hid P15
  go_wp2_with fail
  refine Calls.mono P15.out ?_
  rintro e w16 ⟨rfl, hb16⟩
  have H16 := Lib.hid (H15.out.thru hb16)
  clear P15 H15
  go_wp2_with fail
  go_ret
  exact H16.out.ret rfl
end Go.Proofs.Ytfdijoaclpnccaa.DockLaw
