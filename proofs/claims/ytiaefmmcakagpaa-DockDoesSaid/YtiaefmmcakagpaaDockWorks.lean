/- The walks of the dock's statements' own functions: all, works. -/
import Derived.Test.YtiaefmmcakagpaaDockLaw
namespace Go.Proofs.Ytiaefmmcakagpaa.DockLaw
set_option linter.unusedSimpArgs false
set_option linter.unusedVariables false
open Go Go.RowKit Go.Proofs.Ytiaefmmcakagpaa Go.Proofs.Ytiaefmmcakagpaa.DockSInt
attribute [local irreducible] Calls

set_option maxRecDepth 100000 in
theorem all_any (d : Nat) (most far : Int) (hfar : isI64 far) (l : List El) (hl2 : l.length ≤ 100000) (w : World) (S : Nat → Prop) (h : (dockA d most l).holds w S) :
    Calls Try.prog 18 #[.pointer (some ⟨d, 0, none⟩), .int .i64 far] w (fun e w' => ∃ v, e = .returned v ∧ St w S w' [rowA 1 v (l.take (max far 1).toNat).length (encs (l.take (max far 1).toNat)), dockA d most l]) := by
  have H0 := (((St.start (Sep.one h)).alloc [.int .i64 far] 3).row_nil (size := 1)).alloc [.slice none 0 0] 34
  simp only [World.size_alloc] at H0
  have nf := run_eql_func (P := Try.prog) 93 (by kernel_rfl)
  unfold isI64 at hfar
  clear h
  replace H0 := Lib.hid H0
  go_enter Try.func18, Try.ntmps18
  go_wp2_with fail
  refine Calls.mono (all_new d _) ?_
  rintro e w1 ⟨nb, rfl, HA⟩
  have H1 := (H0.out.add HA).arr [1, 2, 3, 0, 4] rfl
  have H2 : St w S w1 [gotA (w.heap.size + 1) w.heap.size far [], cellA nb [.pointer (some ⟨d, 0, none⟩)], dockA d most l] := got_shut (v := .slice none 0 0) H1
  have H3 := St.all (H2.arr [1, 2, 0] rfl)
  obtain ⟨S8, h8, _, hback⟩ := H3.at 0 rfl
  have P8 := each_any d nb (w.heap.size + 1) w.heap.size most far l hl2 _ S8 h8
  clear H0 HA H1 H2 H3 h8
  replace P8 := Lib.hid P8; replace hback := Lib.hid hback
  go_wp2_with fail
  refine Calls.mono P8.out ?_
  rintro e w2 ⟨⟨ve, rfl⟩, H9⟩
  have H10 := hback.out _ _ H9
  obtain ⟨v, H11⟩ := got_parts H10
  obtain ⟨z1, c1, f1⟩ := H11.box 0 rfl
  have H12 := (H11.arr [1, 4, 0, 2, 3] rfl).drops 2
  clear P8 hback H9 H10 H11
  replace H12 := Lib.hid H12
  go_wp2_with fail
  go_ret
  exact ⟨v, rfl, H12.out⟩
set_option maxRecDepth 100000 in
theorem all_nil (far : Int) (hfar : isI64 far) (w : World) :
    Calls Try.prog 18 #[.pointer none, .int .i64 far] w (Ret w (.slice none 0 0)) := by
  have H0 := ((St.zero w).alloc [.int .i64 far] 3).alloc [.slice none 0 0] 34
  simp only [World.size_alloc] at H0
  have nf := run_eql_func (P := Try.prog) 93 (by kernel_rfl)
  unfold isI64 at hfar
  replace H0 := Lib.hid H0
  go_enter Try.func18, Try.ntmps18
  go_wp2_with fail
  refine Calls.mono (all_none _) ?_
  rintro e w1 ⟨nb, rfl, HA⟩
  have H1 := H0.out.add HA
  obtain ⟨z1, c1, f1⟩ := H1.box 0 rfl
  clear H0 HA
  have P8 : Calls Try.prog 91 #[.func (.func 62) #[] #[.pointer (some ⟨w.heap.size + 1, 0, none⟩), .pointer (some ⟨w.heap.size, 0, none⟩)], .pointer (some ⟨nb, 0, none⟩)] w1 (fun e w' => (∃ v, e = .returned v) ∧ Below w1.heap.size w1 w') := by
    go_enter Try.func91, Try.ntmps91
    go_wp2_with fail
    refine bodyPost_ret (results_none rfl _ _ _) rfl ?_
    exact ⟨⟨_, rfl⟩, (by repeat (first | with_reducible exact Below.refl _ _ | (with_reducible refine Below.al ?_) | (with_reducible refine Below.drew ?_) | (with_reducible refine Below.set ?_ (by first | (simp; done) | omega | (simp; omega))) | (with_reducible refine Below.thru ?_ (by assumption)) | (with_reducible refine Below.chg ?_ (by assumption) (by first | (simp; done) | omega | (simp; omega)))))⟩
  replace H1 := Lib.hid H1; replace P8 := Lib.hid P8
  go_wp2_with fail
  refine Calls.mono P8.out ?_
  rintro e w2 ⟨⟨ve, rfl⟩, hb⟩
  have H2 := H1.out.thru hb
  obtain ⟨z2, c2, f2⟩ := H2.box 1 rfl
  clear P8 H1
  replace H2 := Lib.hid H2
  go_wp2_with fail
  go_ret
  exact H2.out.ret rfl
set_option maxRecDepth 100000 in
set_option maxHeartbeats 400000 in
theorem works_law (w : World) : Calls Try.prog 11 #[] w (Ret w (.bool true)) := by
  go_enter Try.func11, Try.ntmps11
  go_wp2_with fail
  refine Calls.mono (new_any 2 _) ?_
  rintro e w1 ⟨d, rfl, H1⟩
  have P1 := Calls.st_at 0 H1 rfl fun S h => push_any d 2 [] 1 _ S h (by simp)
  clear H1
  replace P1 := Lib.hid P1
  go_wp2_with fail
  refine Calls.mono P1.out ?_
  rintro e w2 ⟨rfl, H2⟩
  have H2' : St w none0 w2 [dockA d 2 [1]] := H2
  have P2 := Calls.st_at 0 H2' rfl fun S h => push_any d 2 [1] 2 _ S h (by simp)
  rw [show decide ((([] : List El).length : Int) < 2) = true from rfl]
  clear H2 H2' P1
  replace P2 := Lib.hid P2
  go_wp2_with fail
  refine Calls.mono P2.out ?_
  rintro e w3 ⟨rfl, H3⟩
  have H3' : St w none0 w3 [dockA d 2 [1, 2]] := H3
  have P3 := Calls.st_at 0 H3' rfl fun S h => spill_full d 2 1 [2] 3 _ S h (by simp) (by simp) (by omega)
  simp only [val] at P3
  rw [show decide ((([1] : List El).length : Int) < 2) = true from rfl]
  clear H3 H3' P2
  replace P3 := Lib.hid P3
  go_wp2_with fail
  refine Calls.mono P3.out ?_
  rintro e w4 ⟨rfl, H4⟩
  have H4' : St w none0 w4 [dockA d 2 [2, 3]] := H4
  obtain ⟨SA, hA, _, hback⟩ := H4'.at 0 rfl
  have P4 := all_any d 2 9 (by unfold isI64; omega) [2, 3] (by simp) _ SA hA
  clear H4 H4' P3 hA
  replace P4 := Lib.hid P4; replace hback := Lib.hid hback
  go_wp2_with fail
  refine Calls.mono P4.out ?_
  rintro e w5 ⟨v, rfl, h5⟩
  have H5 := hback.out _ _ h5
  have H5' : St w none0 w5 [rowA 1 v 2 (i64s [2, 3]), dockA d 2 [2, 3]] := H5
  clear hback P4 h5 H5
  obtain ⟨va, vc, rfl, _, _, _, hRv⟩ := St.slice (by omega) 0 H5' rfl
  have H6 := H5'.alloc [.int .i64 2, .int .i64 3] 3
  have P5 := ints_any [2, 3] 2 rfl (by unfold maxLen; omega) va vc (some ⟨w5.heap.size, 0, none⟩) 2 _ (St.rd (by omega) 1 H6 rfl) (H6.box 0 rfl).rd
  clear H5' hRv
  replace H6 := Lib.hid H6; replace P5 := Lib.hid P5
  go_wp2_with fail
  refine Calls.mono (P5.out) ?_
  rintro e w6 ⟨rfl, hb6⟩
  have z6 := Below.size hb6; try simp only [World.size_alloc, World.size_setCell, World.size_drew] at z6
  have H7 := H6.out.thru hb6
  have P6 := Calls.rd_at 2 H7 rfl fun S h => len_any d 2 [2, 3] _ S h
  rw [show ((([2, 3] : List El).length : Nat) : Int) = 2 from rfl] at P6
  clear H6 P5 H7
  replace P6 := Lib.hid P6
  go_wp2_with fail
  refine Calls.mono P6.out ?_
  rintro e w7 ⟨rfl, H8⟩
  replace H8 := Lib.hid H8
  go_wp2_with fail
  go_ret
  exact H8.out.ret rfl
end Go.Proofs.Ytiaefmmcakagpaa.DockLaw
