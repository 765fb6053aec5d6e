/- The dock that is none; questions that are none. -/
import Derived.Test.YtfdijoaclpnccaaDockSweeps
import Derived.WalkSpells
namespace Go.Proofs.Ytfdijoaclpnccaa.DockSInt
set_option linter.unusedSimpArgs false
set_option linter.unusedVariables false
open Go Go.RowKit Go.Shelf Go.Proofs.Ytfdijoaclpnccaa Go.Proofs.Ytfdijoaclpnccaa.DelInt
attribute [local irreducible] Calls

set_option maxRecDepth 100000 in
set_option maxHeartbeats 400000 in
theorem insert_end (v : Value) (l : List El) (x : Int) (q : Nat) (w : World) (S : Nat → Prop) (h : (rowA 1 v l.length (encs l)).holds w S) (hq : Rd w (some ⟨q, 0, none⟩) [.int .i64 x]) (hsm : l.length ≤ 100000) :
    Calls Try.prog 108 #[v, .int .i64 l.length, .slice (some ⟨q, 0, none⟩) 1 1] w (fun e w' => ∃ v', e = .returned v' ∧ St w S w' [rowA 1 v' (l.length + 1) (encs l ++ [.int .i64 x])]) := by
  obtain ⟨i0, hi, hz, hz1, hz2⟩ := info_parts el_info
  have H := St.start (Sep.one h)
  obtain ⟨a, cap, rfl, hn, hcm, ha0, hR⟩ := St.slice (by omega) 0 H rfl
  clear h hR ha0
  replace H := Lib.hid H; replace hq := Lib.hid hq
  go_enter Try.func108, Try.ntmps108
  go_wp2_with (at_builtin; (refine wpList_appRd rfl (.tmp 23) (.tmp 24) _ rfl 3 i0 _ 1 8 Try.underlying71 hi hz hz1 hz2 rfl (by omega) 0 _ l.length (encs l) rfl H.out rfl _ 1 1 [.int .i64 x] rfl rfl hq.out (by simp) (by simp [Value.oneCell']) (by omega) (by omega) ?_; intro wv6 w6 HC; replace HC := Lib.hid HC))
  all_goals
    go_ret
    exact ⟨_, rfl, HC.out⟩
theorem place_none (x : Int) (w : World) : Calls Try.prog 73 #[.pointer none, .int .i64 x, .nilFunc] w (Ret w (.bool false)) := by
  go_enter Try.func73, Try.ntmps73
  go_wp2_with fail
  go_ret
  exact Ret.mk rfl (by repeat (first | with_reducible exact Below.refl _ _ | (with_reducible refine Below.al ?_) | (with_reducible refine Below.drew ?_) | (with_reducible refine Below.set ?_ (by first | (simp; done) | omega | (simp; omega))) | (with_reducible refine Below.thru ?_ (by assumption)) | (with_reducible refine Below.chg ?_ (by assumption) (by first | (simp; done) | omega | (simp; omega)))))
set_option maxRecDepth 100000 in
theorem place_end (d : Nat) (most : Int) (l : List El) (x : Int) (w : World) (S : Nat → Prop) (h : (dockA d most l).holds w S) (hsm : l.length ≤ 100000) (hlt : (l.length : Int) < most) :
    Calls Try.prog 73 #[.pointer (some ⟨d, 0, none⟩), .int .i64 x, .nilFunc] w (Fin w S (.bool true) [dockA d most (l ++ [x])]) := by
  have P1 := full_any d most l w S h
  rw [decide_eq_false (show ¬ most ≤ (l.length : Int) by omega)] at P1
  have nf := run_neq_nilf (P := Try.prog) 42 (by kernel_rfl)
  obtain ⟨v, H⟩ := dock_open h
  clear h
  obtain ⟨a, cap, rfl, hn, hcm, ha0, hR⟩ := St.slice (by omega) 1 H rfl
  clear hR ha0
  replace H := Lib.hid H; replace P1 := Lib.hid P1
  go_enter Try.func73, Try.ntmps73
  go_wp2_with fail
  refine Calls.mono P1.out ?_
  rintro e w1 ⟨rfl, hb1⟩
  have H1 := H.out.thru hb1
  obtain ⟨z1, k1, f1⟩ := H1.box 0 rfl
  have H2 := H1.alloc [.int .i64 x] 3
  obtain ⟨S2, hS2, _, c2⟩ := H2.at 2 rfl
  have P2 := insert_end _ l x _ _ S2 hS2 (H2.box 0 rfl).rd hsm
  clear H H1 P1 hS2
  replace H2 := Lib.hid H2; replace c2 := Lib.hid c2; replace P2 := Lib.hid P2
  go_wp2_with fail
  refine Calls.mono P2.out ?_
  rintro e w3 ⟨v', rfl, H3⟩
  have H4 := c2.out _ _ H3
  simp only [List.cons_append, List.nil_append, List.eraseIdx_cons_zero, List.eraseIdx_cons_succ] at H4
  obtain ⟨a', cap', rfl, _⟩ := St.slice (by omega) 0 H4 rfl
  obtain ⟨z4, k4, f4⟩ := H4.box 2 rfl
  have H5 := (H4.set 2 rfl 0 (.slice a' (l.length + 1) cap') (by simp)).drops 2
  simp only [List.take_succ_cons, List.take_zero, List.eraseIdx_cons_zero, List.eraseIdx_cons_succ] at H5
  clear H2 c2 P2 H3 H4
  replace H5 := Lib.hid H5
  go_wp2_with fail
  go_ret
  refine ⟨rfl, dock_shut (v := .slice a' (l.length + 1) cap') (r := []) ?_⟩
  rw [List.length_append, ← encs_app]
  exact H5.out

set_option maxRecDepth 100000 in
theorem sweep_none (w : World) : Calls Try.prog 55 #[.pointer none, .nilFunc] w (Ret w (.slice none 0 0)) := by
  have H := (St.zero w).alloc [.nilFunc] 42
  have nf := run_eql_nilf (P := Try.prog) 42 (by kernel_rfl)
  replace H := Lib.hid H
  refine callsIn_wide.1 (callsIn_of_wp_marks (n := 10) Try.func55 rfl trivial ?_ rfl)
  simp only [Try.ntmps55, List.size_toArray, List.length_cons, List.length_nil, Nat.reduceAdd, Nat.reduceSub, Array.replicate_succ, Array.replicate_zero, List.push_toArray, List.append_toArray, List.nil_append, List.cons_append]
  gi_wp2
  exact ⟨.slice none 0 0, by simp [results, Try.results55, go_sem], rfl, H.out.below⟩
set_option maxRecDepth 100000 in
theorem sweep_nilq (d : Nat) (w : World) : Calls Try.prog 55 #[.pointer (some ⟨d, 0, none⟩), .nilFunc] w (Ret w (.slice none 0 0)) := by
  have H := (St.zero w).alloc [.nilFunc] 42
  have nf := run_eql_nilf (P := Try.prog) 42 (by kernel_rfl)
  replace H := Lib.hid H
  refine callsIn_wide.1 (callsIn_of_wp_marks (n := 10) Try.func55 rfl trivial ?_ rfl)
  simp only [Try.ntmps55, List.size_toArray, List.length_cons, List.length_nil, Nat.reduceAdd, Nat.reduceSub, Array.replicate_succ, Array.replicate_zero, List.push_toArray, List.append_toArray, List.nil_append, List.cons_append]
  gi_wp2
  exact ⟨.slice none 0 0, by simp [results, Try.results55, go_sem], rfl, H.out.below⟩
end Go.Proofs.Ytfdijoaclpnccaa.DockSInt
