/- The walk of the statement WordsNumbers. -/
import Derived.Test.YtkphbgicffhceaaDoorWordWorks
import Derived.Test.YtkphbgicffhceaaDoorFits
namespace Go.Proofs.YtkphbgicffhceaaDoor.Words
set_option linter.unusedSimpArgs false
set_option linter.unusedVariables false
open Go Go.RowKit Go.Proofs.YtkphbgicffhceaaDoor
attribute [local irreducible] Calls

set_option maxRecDepth 100000 in
theorem numbers_walk (a0 : Int) (w0 : (Lit.int .i64 a0).wf = true) (a1 : ByteArray) (w1' : a1.size ≤ maxLen) (w : World) (htab : Lib.TabIs Tryd.prog w "internal/strconv.uint64pow10" .u64 Lib.pow10Tab) :
    Calls Tryd.prog 3 #[.int .i64 a0, .string a1] w (Ret w (.bool true)) := by
  have hn := bounds_i64 w0
  clear w0
  unfold maxLen at w1'
  replace htab := Lib.hid htab
  replace hn := Lib.hid hn
  go_enter Tryd.func3, Tryd.ntmps3
  go_wp2_with fail
  refine Calls.mono (works_law _) ?_
  rintro e w1 ⟨rfl, hb1⟩
  have z1 := Below.size hb1; try simp only [World.size_alloc, World.size_setCell, World.size_drew] at z1
  by_cases h1000 : 1000 < a1.size
  · have q : decide ((1000 : Int) < (a1.size : Int)) = true := decide_eq_true (by omega)
    go_wp2_with fail
    go_ret
    exact Ret.mk rfl (by repeat (first | with_reducible exact Below.refl _ _ | (with_reducible refine Below.al ?_) | (with_reducible refine Below.drew ?_) | (with_reducible refine Below.set ?_ (by first | (simp; done) | omega | (simp; omega))) | (with_reducible refine Below.thru ?_ (by assumption)) | (with_reducible refine Below.chg ?_ (by assumption) (by first | (simp; done) | omega | (simp; omega)))))
  · have q : decide ((1000 : Int) < (a1.size : Int)) = false := decide_eq_false (by omega)
    have P1 := fun w => num_any a1 w
    have P2 := fun w => rnum_any a1 w
    generalize numV a1.data.toList = v at *
    obtain ⟨x, ok⟩ := v
    simp only at P1 P2
    have kx : (x == x) = true := by simp
    have ko : (ok == ok) = true := by simp
    replace P1 := Lib.hid P1; replace P2 := Lib.hid P2
    go_wp2_with fail
    refine Calls.mono (P1.out _) ?_
    rintro e w2 ⟨rfl, hb2⟩
    have z2 := Below.size hb2; try simp only [World.size_alloc, World.size_setCell, World.size_drew] at z2
    go_wp2_with fail
    refine Calls.mono (P2.out _) ?_
    rintro e w3 ⟨rfl, hb3⟩
    have z3 := Below.size hb3; try simp only [World.size_alloc, World.size_setCell, World.size_drew] at z3
    have htab3 := tab_below htab.out (Below.thru (Below.thru hb1 hb2) hb3)
    have P3 := of_any a0 hn.out w3 htab3
    have P4 := fun w => rof_any a0 hn.out w
    generalize strL (Lib.itoa a0) = sa at *
    have ks : (sa.toList == sa.toList) = true := by simp
    have ks' : decide (sa = sa) = true := by simp
    clear P1 P2
    replace P3 := Lib.hid P3; replace P4 := Lib.hid P4; replace htab3 := Lib.hid htab3
    go_wp2_with fail
    refine Calls.mono (P3.out) ?_
    rintro e w4 ⟨rfl, hb4⟩
    have z4 := Below.size hb4; try simp only [World.size_alloc, World.size_setCell, World.size_drew] at z4
    go_wp2_with fail
    refine Calls.mono (P4.out _) ?_
    rintro e w5 ⟨rfl, hb5⟩
    have z5 := Below.size hb5; try simp only [World.size_alloc, World.size_setCell, World.size_drew] at z5
    go_wp2_with fail
    go_ret
    exact Ret.mk rfl (by repeat (first | with_reducible exact Below.refl _ _ | (with_reducible refine Below.al ?_) | (with_reducible refine Below.drew ?_) | (with_reducible refine Below.set ?_ (by first | (simp; done) | omega | (simp; omega))) | (with_reducible refine Below.thru ?_ (by assumption)) | (with_reducible refine Below.chg ?_ (by assumption) (by first | (simp; done) | omega | (simp; omega)))))
end Go.Proofs.YtkphbgicffhceaaDoor.Words
