/- The walks of the control's Heard, and of the statement's works. -/
import Derived.Test.YtljgmephajocaaaControlPut
import Derived.Deep.LoopGhost
namespace Go.Proofs.Ytljgmephajocaaa.Ctl
set_option linter.unusedSimpArgs false
set_option linter.unusedVariables false
open Go Go.RowKit Go.Proofs.Ytljgmephajocaaa Go.Proofs.Ytljgmephajocaaa.DockCtl
attribute [local irreducible] Calls

theorem headV_cons (x : El) (l : List El) : headV (x :: l) = x := rfl
set_option maxRecDepth 100000 in
theorem hear_any (q : Nat) (s : Ln) (num : Int) (w : World) (S : Nat → Prop) (h : (lineA q s).holds w S) :
    Calls Try.prog 22 #[.pointer (some ⟨q, 0, none⟩), .int .i64 num] w (Fin w S (.bool (hearOk s num)) [lineA q (hearS s num)]) := by
  obtain ⟨l, next, since, heard⟩ := s
  have H0 : St w S w [lineA q ⟨l, next, since, heard⟩] := St.start (Sep.one h)
  have hq : q < w.heap.size := by
    obtain ⟨d', H3⟩ := line_parts H0
    exact (H3.box 0 rfl).lt
  have P := first_any q ⟨l, next, since, heard⟩ w S h
  unfold hearOk hearS hearOk
  simp only at P ⊢
  clear h
  cases l with
  | nil =>
    simp only [List.length_nil, Nat.lt_irrefl, decide_false, Bool.false_and, Bool.false_eq_true, if_false] at P ⊢
    generalize headV [] = x at P
    unfold val at P
    replace H0 := Lib.hid H0
    go_enter Try.func22, Try.ntmps22
    go_wp2_with fail
    refine Calls.mono P ?_
    rintro e w1 ⟨rfl, hb1⟩
    have z1 := hb1.size
    have n4 : ¬ q = w1.heap.size := by omega
    have n6 : ¬ w1.heap.size = q := by omega
    have H2 := Lib.hid (H0.out.thru hb1)
    clear P H0
    go_wp2_with fail
    go_ret
    exact ⟨rfl, H2.out.skip _⟩
  | cons x l =>
    have hpos : decide (0 < (x :: l).length) = true := by simp
    simp only [hpos, Bool.true_and, headV_cons, List.tail_cons] at P ⊢
    unfold val at P
    by_cases h1 : x.1 = num
    · simp only [h1, decide_true, if_true]
      have q0 : (x.1 != num) = false := by simp [h1]
      clear h1
      replace H0 := Lib.hid H0
      go_enter Try.func22, Try.ntmps22
      go_wp2_with fail
      refine Calls.mono P ?_
      rintro e w1 ⟨rfl, hb1⟩
      have z1 := hb1.size
      have n4 : ¬ q = w1.heap.size := by omega
      have n6 : ¬ w1.heap.size = q := by omega
      have H2 := Lib.hid (H0.out.thru hb1)
      clear P H0
      obtain ⟨d, H3⟩ := line_parts (H2.out.skip (.cells #[.int .i64 x.1, .int .i64 x.2.1, .int .i64 x.2.2.1, .int .i64 x.2.2.2] 29))
      have hp : Calls Try.prog 79 #[.pointer (some ⟨d, 0, none⟩)] _ (Fin w S (.tuple #[.agg #[.int .i64 x.1, .int .i64 x.2.1, .int .i64 x.2.2.1, .int .i64 x.2.2.2], .bool true]) [dockA d 8 l, cellA q [.pointer (some ⟨d, 0, none⟩), .int .i64 next, .int .i64 since, .int .i64 heard]]) :=
        Calls.st_at 1 H3 rfl (fun S hS => DockCtl.pull_cons d 8 x l _ S hS)
      obtain ⟨zq, cq, fq⟩ := H3.box 0 rfl
      simp only at cq
      clear H3 H2
      go_wp2_with fail
      refine Calls.mono hp ?_
      rintro e w2 ⟨rfl, h2⟩
      have h3 := h2.front 1 rfl
      obtain ⟨zq2, cq2, fq2⟩ := h3.box 0 rfl
      have H4 := line_shut (r := []) (h3.set 0 rfl 2 (.int .i64 (-1)) (by simp))
      clear hp h2 h3
      replace H4 := Lib.hid H4
      go_wp2_with fail
      go_ret
      exact ⟨rfl, H4.out⟩
    · simp only [h1, decide_false, Bool.false_eq_true, if_false]
      have q0 : (x.1 != num) = true := by simp [h1]
      replace H0 := Lib.hid H0
      go_enter Try.func22, Try.ntmps22
      go_wp2_with fail
      refine Calls.mono P ?_
      rintro e w1 ⟨rfl, hb1⟩
      have z1 := hb1.size
      have n4 : ¬ q = w1.heap.size := by omega
      have n6 : ¬ w1.heap.size = q := by omega
      have H2 := Lib.hid (H0.out.thru hb1)
      clear P H0
      go_wp2_with fail
      go_ret
      exact ⟨rfl, H2.out.skip _⟩

/-- '==' of two messages. -/
def eqC (a b c d a' b' c' d' : Int) : Bool := a == a' && b == b' && c == c' && d == d'
theorem eql_ct (w : World) (a b c d a' b' c' d' : Int) : (binOp .eql 29 (.agg #[.int .i64 a, .int .i64 b, .int .i64 c, .int .i64 d]) (.agg #[.int .i64 a', .int .i64 b', .int .i64 c', .int .i64 d'])).run Try.prog w = .ok (.bool (eqC a b c d a' b' c' d')) w := by
  have h1 : Try.prog.stoodInHeld 29 = false := by kernel_rfl
  rw [run_eql_struct]
  simp [go_sem, h1, eqC]
  by_cases e1 : a = a' <;> by_cases e2 : b = b' <;> by_cases e3 : c = c' <;> by_cases e4 : d = d' <;> simp [e1, e2, e3, e4]
theorem neq_ct (w : World) (a b c d a' b' c' d' : Int) : (binOp .neq 29 (.agg #[.int .i64 a, .int .i64 b, .int .i64 c, .int .i64 d]) (.agg #[.int .i64 a', .int .i64 b', .int .i64 c', .int .i64 d'])).run Try.prog w = .ok (.bool (!eqC a b c d a' b' c' d')) w := by
  have h1 : Try.prog.stoodInHeld 29 = false := by kernel_rfl
  rw [run_neq_struct]
  simp [go_sem, h1, eqC]
  by_cases e1 : a = a' <;> by_cases e2 : b = b' <;> by_cases e3 : c = c' <;> by_cases e4 : d = d' <;> simp [e1, e2, e3, e4]
attribute [go_sem ↓] eql_ct neq_ct
theorem eqC_self (a b c d : Int) : eqC a b c d a b c d = true := by simp [eqC]

section
variable {q : Nat} {s : Ln} {w W : World} {S0 : Nat → Prop} {r : List Asn}
theorem len_st (H : St W S0 w (lineA q s :: r)) : Calls Try.prog 28 #[.pointer (some ⟨q, 0, none⟩)] w (Ret w (.int .i64 s.l.length)) := by
  obtain ⟨_, hS⟩ := H.held 0 rfl; exact len_any q s w _ hS
theorem put_st (c : El) (hl : s.l.length ≤ 8) (h0 : 0 ≤ s.next) (h1 : s.next ≤ 1000000) (H : St W S0 w (lineA q s :: r)) :
    Calls Try.prog 18 #[.pointer (some ⟨q, 0, none⟩), val c] w (Fin W S0 (.tuple #[.int .i64 (putN s c), .int .i64 (putE s c)]) (lineA q (putS s c) :: r)) :=
  Calls.st_at 0 H rfl fun S hS => put_any q s c w S hS hl h0 h1
theorem due_st (H : St W S0 w (lineA q s :: r)) :
    Calls Try.prog 20 #[.pointer (some ⟨q, 0, none⟩)] w (Fin W S0 (.tuple #[val (dueC s), .bool (dueOk s)]) (lineA q (dueS s) :: r)) :=
  Calls.st_at 0 H rfl fun S hS => due_any q s w S hS
theorem hear_st (num : Int) (H : St W S0 w (lineA q s :: r)) :
    Calls Try.prog 22 #[.pointer (some ⟨q, 0, none⟩), .int .i64 num] w (Fin W S0 (.bool (hearOk s num)) (lineA q (hearS s num) :: r)) :=
  Calls.st_at 0 H rfl fun S hS => hear_any q s num w S hS
theorem take_st (c : El) (hs0 : 0 ≤ s.heard) (hs : s.heard ≤ 1000000) (hc : isI64 c.1) (H : St W S0 w (lineA q s :: r)) :
    Calls Try.prog 24 #[.pointer (some ⟨q, 0, none⟩), val c] w (Fin W S0 (.tuple #[.bool (fresh s c.1), .bool (conf s c.1)]) (lineA q (takeS s c.1) :: r)) :=
  Calls.st_at 0 H rfl fun S hS => take_any q s c w S hS hs0 hs hc
theorem tick_st (hs : s.since ≤ 1000000) (H : St W S0 w (lineA q s :: r)) :
    Calls Try.prog 26 #[.pointer (some ⟨q, 0, none⟩)] w (Fin W S0 (.tuple #[]) (lineA q (tickS s) :: r)) :=
  Calls.st_at 0 H rfl fun S hS => tick_any q s w S hS hs
theorem rput_st (c : El) (hl : s.l.length ≤ 8) (h0 : 0 ≤ s.next) (h1 : s.next ≤ 1000000) (H : St W S0 w (refA q s :: r)) :
    Calls Try.prog 19 #[.pointer (some ⟨q, 0, none⟩), val c] w (Fin W S0 (.tuple #[.int .i64 (putN s c), .int .i64 (putE s c)]) (refA q (putS s c) :: r)) :=
  Calls.st_at 0 H rfl fun S hS => rput_any q s c w S hS hl h0 h1
theorem rdue_st (H : St W S0 w (refA q s :: r)) :
    Calls Try.prog 21 #[.pointer (some ⟨q, 0, none⟩)] w (Fin W S0 (.tuple #[val (dueC s), .bool (dueOk s)]) (refA q (dueS s) :: r)) :=
  Calls.st_at 0 H rfl fun S hS => rdue_any q s w S hS
theorem rhear_st (num : Int) (H : St W S0 w (refA q s :: r)) :
    Calls Try.prog 23 #[.pointer (some ⟨q, 0, none⟩), .int .i64 num] w (Fin W S0 (.bool (hearOk s num)) (refA q (hearS s num) :: r)) :=
  Calls.st_at 0 H rfl fun S hS => rhear_any q s num w S hS
theorem rtake_st (c : El) (hs0 : 0 ≤ s.heard) (hs : s.heard ≤ 1000000) (hc : isI64 c.1) (H : St W S0 w (refA q s :: r)) :
    Calls Try.prog 25 #[.pointer (some ⟨q, 0, none⟩), val c] w (Fin W S0 (.tuple #[.bool (fresh s c.1), .bool (conf s c.1)]) (refA q (takeS s c.1) :: r)) :=
  Calls.st_at 0 H rfl fun S hS => rtake_any q s c w S hS hs0 hs hc
theorem rtick_st (hs : s.since ≤ 1000000) (H : St W S0 w (refA q s :: r)) :
    Calls Try.prog 27 #[.pointer (some ⟨q, 0, none⟩)] w (Fin W S0 (.tuple #[]) (refA q (tickS s) :: r)) :=
  Calls.st_at 0 H rfl fun S hS => rtick_any q s w S hS hs
end

set_option maxRecDepth 100000 in
set_option maxHeartbeats 800000 in
theorem works_law (w : World) : Calls Try.prog 15 #[] w (Ret w (.bool true)) := by
  have ex : eqC 1 1 3 0 1 1 3 0 = true := eqC_self _ _ _ _
  go_enter Try.func15, Try.ntmps15
  go_wp2_with fail
  refine Calls.mono (new_any _) ?_
  rintro e w1 ⟨q, rfl, H1⟩
  have P1 : Calls Try.prog 18 #[.pointer (some ⟨q, 0, none⟩), .agg #[.int .i64 0, .int .i64 1, .int .i64 3, .int .i64 0]] w1 (Fin w none0 (.tuple #[.int .i64 1, .int .i64 0]) [lineA q ⟨[(1, 1, 3, 0)], 2, -1, 0⟩]) := put_st (0, 1, 3, 0) (by decide) (by decide) (by decide) H1
  clear H1
  go_wp2_with fail
  refine Calls.mono P1 ?_
  rintro e w2 ⟨rfl, H2⟩
  have P2 : Calls Try.prog 20 #[.pointer (some ⟨q, 0, none⟩)] w2 (Fin w none0 (.tuple #[.agg #[.int .i64 1, .int .i64 1, .int .i64 3, .int .i64 0], .bool true]) [lineA q ⟨[(1, 1, 3, 0)], 2, 0, 0⟩]) := due_st H2
  clear P1 H2
  go_wp2_with fail
  refine Calls.mono P2 ?_
  rintro e w3 ⟨rfl, H3⟩
  have H3' := H3.alloc [.int .i64 1, .int .i64 1, .int .i64 3, .int .i64 0] 29
  have P3 : Calls Try.prog 20 #[.pointer (some ⟨q, 0, none⟩)] _ (Fin w none0 (.tuple #[.agg #[.int .i64 0, .int .i64 0, .int .i64 0, .int .i64 0], .bool false]) [lineA q ⟨[(1, 1, 3, 0)], 2, 0, 0⟩, _]) := due_st (H3'.front 1 rfl)
  clear P2 H3 H3'
  go_wp2_with fail
  refine Calls.mono P3 ?_
  rintro e w4 ⟨rfl, H4⟩
  have H4' := H4.skip (.cells #[.int .i64 0, .int .i64 0, .int .i64 0, .int .i64 0] 29)
  have P4 : Calls Try.prog 24 #[.pointer (some ⟨q, 0, none⟩), .agg #[.int .i64 1, .int .i64 4, .int .i64 0, .int .i64 0]] _ (Fin w none0 (.tuple #[.bool true, .bool true]) [lineA q ⟨[(1, 1, 3, 0)], 2, 0, 1⟩, _]) := take_st (1, 4, 0, 0) (by decide) (by decide) (by unfold isI64; decide) H4'
  clear P3 H4 H4'
  go_wp2_with fail
  refine Calls.mono P4 ?_
  rintro e w5 ⟨rfl, H5⟩
  obtain ⟨zk, ck, fk⟩ := H5.box 1 rfl
  have P5 : Calls Try.prog 22 #[.pointer (some ⟨q, 0, none⟩), .int .i64 1] _ (Fin w none0 (.bool true) [lineA q ⟨[], 2, -1, 1⟩, _]) := hear_st 1 H5
  clear P4 H5
  go_wp2_with fail
  refine Calls.mono P5 ?_
  rintro e w6 ⟨rfl, H6⟩
  have P6 : Calls Try.prog 28 #[.pointer (some ⟨q, 0, none⟩)] w6 (Ret w6 (.int .i64 0)) := len_st H6
  clear P5
  replace H6 := Lib.hid H6
  go_wp2_with fail
  refine Calls.mono P6 ?_
  rintro e w7 ⟨rfl, hb7⟩
  have H7 := Lib.hid (H6.out.thru hb7)
  go_wp2_with fail
  go_ret
  exact H7.out.ret rfl
end Go.Proofs.Ytljgmephajocaaa.Ctl
