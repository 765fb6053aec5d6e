/- The walks of the package ccid: came, Took, Owes, as far as works goes. -/
import Derived.Test.YtibidmenpoiacaaCcidTook
namespace Go.Proofs.Ytibidmenpoiacaa.Ccid
set_option linter.unusedSimpArgs false
set_option linter.unusedVariables false
open Go Go.RowKit Go.Shelf Go.Proofs.Ytibidmenpoiacaa Go.Proofs.Ytibidmenpoiacaa.Circ
open Go.Proofs.Ytibidmenpoiacaa.Flight (Un flightA putU putOk timeV OkU newsV newsL hearA leftU lostU)
open Go.Proofs.Ytibidmenpoiacaa.Heard (Hd heardA gotH)
open Go.Proofs.Ytibidmenpoiacaa.Avec (Run runs findV eachL)
attribute [local irreducible] Calls

theorem trips_law (w : World) : Calls Try.prog 56 #[.agg #[.int .i64 0, .int .i64 0, .int .i64 0, .bool false], .int .i64 4] w (Ret w (.agg #[.int .i64 32, .int .i64 8, .int .i64 0, .bool true])) := Rtt.took_new 0 0 0 4 w
theorem acked_law (w : World) : Calls Try.prog 57 #[.agg #[.int .i64 3, .int .i64 16, .int .i64 0, .bool false, .int .i64 0], .int .i64 3, .bool true] w (Ret w (.agg #[.int .i64 6, .int .i64 16, .int .i64 0, .bool false, .int .i64 0])) :=
  Cwnd.acked_any ⟨3, 16, 0, false, 0⟩ ⟨3, 16, 0, false, 0⟩ 3 true rfl (by unfold Cwnd.Win.Ok; decide) w
theorem value_law (w : World) : Calls Try.prog 41 #[.agg #[.int .i64 0, .int .i64 0]] w (Ret w (.int .i64 1)) := Ratio.value_any 0 0 w (by omega) (by omega)
theorem size_law (w : World) : Calls Try.prog 32 #[.agg #[.int .i64 6, .int .i64 16, .int .i64 0, .bool false, .int .i64 0]] w (Ret w (.int .i64 6)) := Cwnd.size_any ⟨6, 16, 0, false, 0⟩ w
theorem lost_law (w : World) : Calls Try.prog 58 #[.agg #[.int .i64 0, .int .i64 0], .int .i64 6] w (Ret w (.agg #[.int .i64 1, .int .i64 0])) := Ratio.lost_any 0 0 6 w (by omega) (by omega)
theorem fit_law (w : World) : Calls Try.prog 31 #[.agg #[.int .i64 1, .int .i64 0], .int .i64 6] w (Ret w (.agg #[.int .i64 1, .int .i64 0])) := Ratio.fit_any 1 0 6 w (by omega) (by omega)
theorem time_law (w : World) : Calls Try.prog 26 #[.int .i64 4] w (Ret w (.int .i64 4)) := time_any 4 w
set_option maxRecDepth 100000 in
theorem came_st {W w : World} {S : Nat → Prop} {b p f : Nat} {r : List Asn} (nw : Int) (H : St W S w (cellA b (ccV p f x0) :: r)) :
    Calls Try.prog 29 #[.pointer (some ⟨b, 0, none⟩), .agg #[.int .i64 3, .int .i64 0, .int .i64 0, .int .i64 4, .int .i64 nw], .bool true, .int .i64 4] w (fun e w' => e = .returned (.tuple #[]) ∧ St W S w' (cellA b (ccV p f x1) :: r)) := by
  unfold ccV x0 at H
  have H1 := H.alloc [.int .i64 3, .int .i64 0, .int .i64 0, .int .i64 4, .int .i64 nw] 50
  have m1 : ¬ w.heap.size = b := H1.ne_cells 0 1 rfl rfl (by decide)
  have m1' : ¬ b = w.heap.size := fun e => m1 e.symm
  obtain ⟨zb, cb, fb⟩ := H.box 0 rfl
  clear H
  replace H1 := Lib.hid H1
  go_enter Try.func29, Try.ntmps29
  go_wp2_with fail
  refine wp_region_near_tail 10 (by kernel_rfl) (by kernel_rfl) ?_
  intro hs
  simp only [List.take_succ_cons, List.take_zero, List.drop_succ_cons, List.drop_zero]
  repeat (go_big_quiet_step ((first | (go_at_call 56; exact Calls.near (by simp) (trips_law _)))))
  refine wpQuiet_nil ?_
  clear hs
  intro w1 hb1
  have H2 := H1.out.thru hb1
  clear H1 zb cb fb
  obtain ⟨zb, cb, fb⟩ := H2.box 1 rfl
  have H3 := (((H2.set 1 rfl 9 (.int .i64 32) (by simp)).set 0 rfl 10 (.int .i64 8) (by simp)).set 0 rfl 11 (.int .i64 0) (by simp)).set 0 rfl 12 (.bool true) (by simp)
  replace H2 := Lib.hid H2; replace H3 := Lib.hid H3
  go_wp2_with fail
  refine Calls.mono (time_law _) ?_
  rintro e w2 ⟨rfl, hb2⟩
  have z2 := Below.size hb2; try simp only [World.size_alloc, World.size_setCell, World.size_drew] at z2
  have H4 := H3.out.thru hb2
  clear H2 H3 zb cb fb
  obtain ⟨zb, cb, fb⟩ := H4.box 0 rfl
  have H5 := (H4.set 0 rfl 13 (.int .i64 0) (by simp)).set 0 rfl 14 (.int .i64 4) (by simp)
  obtain ⟨z6, c6, f6⟩ := H4.box 1 rfl
  replace H4 := Lib.hid H4; replace H5 := Lib.hid H5
  go_wp2_with fail
  refine wp_region_near_tail 11 (by kernel_rfl) (by kernel_rfl) ?_
  intro hs
  simp only [List.take_succ_cons, List.take_zero, List.drop_succ_cons, List.drop_zero]
  repeat (go_big_quiet_step ((first | (go_at_call 57; exact Calls.near (by simp) (acked_law _)))))
  refine wpQuiet_nil ?_
  clear hs
  intro w3 hb3
  have H6 := H5.out.thru hb3
  clear H4 H5 zb cb fb z6 c6 f6
  obtain ⟨zb, cb, fb⟩ := H6.box 0 rfl
  obtain ⟨z6, c6, f6⟩ := H6.box 1 rfl
  have H7 := ((((H6.set 0 rfl 2 (.int .i64 6) (by simp)).set 0 rfl 3 (.int .i64 16) (by simp)).set 0 rfl 4 (.int .i64 0) (by simp)).set 0 rfl 5 (.bool false) (by simp)).set 0 rfl 6 (.int .i64 0) (by simp)
  replace H6 := Lib.hid H6; replace H7 := Lib.hid H7
  go_wp2_with fail
  refine wp_region_near (by kernel_rfl) (by kernel_rfl) ?_
  intro hs
  repeat (go_big_quiet_step ((first | (go_at_call 41; exact Calls.near (by simp) (value_law _)))))
  refine wpQuiet_nil ?_
  clear hs
  intro w4 hb4
  have H8 := H7.out.thru hb4
  clear H6 H7 zb cb fb z6 c6 f6
  obtain ⟨zb, cb, fb⟩ := H8.box 0 rfl
  obtain ⟨z6, c6, f6⟩ := H8.box 1 rfl
  replace H8 := Lib.hid H8
  go_wp2_with fail
  refine wp_region_near_tail 13 (by kernel_rfl) (by kernel_rfl) ?_
  intro hs
  simp only [List.take_succ_cons, List.take_zero, List.drop_succ_cons, List.drop_zero]
  repeat (go_big_quiet_step ((first | (go_at_call 32; exact Calls.near (by simp) (size_law _)) | (go_at_call 58; exact Calls.near (by simp) (lost_law _)))))
  refine wpQuiet_nil ?_
  clear hs
  intro w5 hb5
  have H9 := H8.out.thru hb5
  clear H8 zb cb fb z6 c6 f6
  obtain ⟨zb, cb, fb⟩ := H9.box 0 rfl
  have H10 := (H9.set 0 rfl 7 (.int .i64 1) (by simp)).set 0 rfl 8 (.int .i64 0) (by simp)
  replace H9 := Lib.hid H9; replace H10 := Lib.hid H10
  go_wp2_with fail
  go_end0
  exact ⟨rfl, H10.out.drop 1 rfl⟩
end Go.Proofs.Ytibidmenpoiacaa.Ccid
