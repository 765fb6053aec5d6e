/- The walk of works of the net's statements. -/
import Derived.Test.YtfdijoaclpnccaaNetFlip
namespace Go.Proofs.Ytfdijoaclpnccaa.Net
set_option linter.unusedSimpArgs false
set_option linter.unusedVariables false
open Go Go.RowKit Go.Proofs.Ytfdijoaclpnccaa Go.Proofs.Ytfdijoaclpnccaa.DelUn
attribute [local irreducible] Calls

def ua : Un := ⟨1, 0, 0, ⟨#[97]⟩⟩
def uc : Un := ⟨1, 0, 0, ⟨#[99]⟩⟩
set_option maxRecDepth 100000 in
theorem works_law (w : World) : Calls Try.prog 14 #[] w (Ret w (.bool true)) := by
  go_enter Try.func14, Try.ntmps14
  go_wp2_with fail
  refine Calls.mono (new_any _) ?_
  rintro e w1 ⟨d, rfl, H1⟩
  have H1' := H1.alloc [.int .i64 1, .int .i64 0, .int .i64 0, .string ⟨#[97]⟩] 31
  have P1 := Calls.st_at 1 H1' rfl fun S h => put_any d [] ua _ S h
  replace P1 := Lib.hid P1
  obtain ⟨z1, c1, f1⟩ := H1'.box 0 rfl
  clear H1'
  have hb := H1.below
  replace H1 := Lib.hid H1
  go_wp2_with fail
  refine Calls.mono P1.out ?_
  rintro e w2 ⟨rfl, H2⟩
  have H2' : St w none0 w2 [netA d [ua], cellA w1.heap.size [.int .i64 1, .int .i64 0, .int .i64 0, .string ⟨#[97]⟩]] := H2
  have P2 := Calls.st_at 0 H2' rfl fun S h => double_ok d [ua] 3 ua _ S h (by omega) (by decide) rfl
  obtain ⟨z2, c2, f2⟩ := H2'.box 1 rfl
  clear H2 H2'
  rw [show decide (([] : List Un).length < 200) = true from rfl]
  replace P2 := Lib.hid P2
  go_wp2_with fail
  refine Calls.mono P2.out ?_
  rintro e w3 ⟨rfl, H3⟩
  have H3' : St w none0 w3 [netA d [ua, ua], cellA w1.heap.size [.int .i64 1, .int .i64 0, .int .i64 0, .string ⟨#[97]⟩]] := H3
  have P3 := Calls.st_at 0 H3' rfl fun S h => flip_ok d [ua, ua] 1 1 ua _ S h (by omega) (by decide) rfl (by omega) (by decide) (by decide)
  rw [show decide ([ua].length < 200) = true from rfl]
  rw [show turnS ua.dat ((1 : Int).toNat % (8 * ua.dat.size)) = ⟨#[99]⟩ from by decide +kernel] at P3
  obtain ⟨z3, c3, f3⟩ := H3'.box 1 rfl
  clear H3 H3' P2
  replace P3 := Lib.hid P3
  go_wp2_with fail
  refine Calls.mono P3.out ?_
  rintro e w4 ⟨rfl, H4⟩
  have H4' : St w none0 w4 [netA d [ua, uc], cellA w1.heap.size [.int .i64 1, .int .i64 0, .int .i64 0, .string ⟨#[97]⟩]] := H4
  have P4 := Calls.rd_at 0 H4' rfl fun S h => at_ok d [ua, uc] 0 ua _ S h (by omega) (by decide) rfl
  rw [show valU ua = .agg #[.int .i64 1, .int .i64 0, .int .i64 0, .string ⟨#[97]⟩] from rfl] at P4
  obtain ⟨z4, c4, f4⟩ := H4'.box 1 rfl
  clear H4 P3
  replace P4 := Lib.hid P4; replace H4' := Lib.hid H4'
  go_wp2_with fail
  refine Calls.mono P4.out ?_
  rintro e w5 ⟨rfl, H5w⟩
  have H5 := H5w.alloc [.int .i64 1, .int .i64 0, .int .i64 0, .string ⟨#[97]⟩] 31
  have P5 := Calls.st_at 1 H5 rfl fun S h => take_ok d [ua, uc] 1 uc _ S h (by omega) (by decide) rfl
  rw [show valU uc = .agg #[.int .i64 1, .int .i64 0, .int .i64 0, .string ⟨#[99]⟩] from rfl] at P5
  obtain ⟨z5, c5, f5⟩ := H5w.box 1 rfl
  clear H5 P4 H5w
  replace P5 := Lib.hid P5
  go_wp2_with fail
  refine Calls.mono P5.out ?_
  rintro e w6 ⟨rfl, H6⟩
  have H6' : St w none0 w6 [netA d [ua], cellA w5.heap.size [.int .i64 1, .int .i64 0, .int .i64 0, .string ⟨#[97]⟩], cellA w1.heap.size [.int .i64 1, .int .i64 0, .int .i64 0, .string ⟨#[97]⟩]] := H6
  have H7 := H6'.alloc [.int .i64 1, .int .i64 0, .int .i64 0, .string ⟨#[99]⟩] 31
  have P7 := Calls.rd_at 1 H7 rfl fun S h => len_any d [ua] _ S h
  rw [show (([ua].length : Nat) : Int) = 1 from rfl] at P7
  obtain ⟨z6, c6, f6⟩ := H6'.box 1 rfl
  obtain ⟨z7, c7, f7⟩ := H6'.box 2 rfl
  have hb7 := H7.below
  clear H6 P5 H6' H7
  replace P7 := Lib.hid P7; replace hb7 := Lib.hid hb7
  go_wp2_with fail
  refine Calls.mono P7.out ?_
  rintro e w8 ⟨rfl, H8⟩
  replace H8 := Lib.hid H8
  go_wp2_with fail
  go_ret
  exact H8.out.ret rfl
end Go.Proofs.Ytfdijoaclpnccaa.Net
