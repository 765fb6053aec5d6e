/- The walk of step of the dock's statement: one step of both. -/
import Derived.Test.YtiaefmmcakagpaaDockStepA
import Derived.Deep.CutBlock
import Derived.Deep.DeepCutAuto
namespace Go.Proofs.Ytiaefmmcakagpaa.DockLaw
set_option linter.unusedSimpArgs false
set_option linter.unusedVariables false
open Go Go.RowKit Go.Proofs.Ytiaefmmcakagpaa Go.Proofs.Ytiaefmmcakagpaa.DockSInt Go.Proofs.Ytiaefmmcakagpaa.DockRef
attribute [local irreducible] Calls

/-- What a step leaves. -/
def stepD (most k x n : Int) (l : List Int) : List Int :=
  if k = 0 ∨ k = 1 then (if (l.length : Int) < most then l ++ [x] else l)
  else if k = 2 then (spillD most x l).2
  else if k = 3 then l.drop 1
  else if k = 4 then (if (l.length : Int) < most then placed (fun y => decide (n < y)) x l else l)
  else if k = 5 then l.filter fun y => !decide (y < n)
  else l
theorem stepD_len (most k x n : Int) (l : List Int) (hlm : (l.length : Int) ≤ most) : ((stepD most k x n l).length : Int) ≤ most := by
  unfold stepD
  split
  · split
    · rw [List.length_append, List.length_singleton]; omega
    · exact hlm
  · split
    · unfold spillD
      split
      · exact hlm
      · split
        · rw [List.length_append, List.length_singleton]; omega
        · rw [List.length_append, List.length_singleton, List.length_drop]; omega
    · split
      · rw [List.length_drop]; omega
      · split
        · split
          · have := List.findIdx_le_length (xs := l) (p := fun y => decide (n < y))
            unfold placed
            simp only [List.length_append, List.length_take, List.length_cons, List.length_drop]
            omega
          · exact hlm
        · split
          · have := List.length_filter_le (fun y => !decide (y < n)) l
            omega
          · exact hlm
set_option maxRecDepth 100000 in
set_option maxHeartbeats 1000000 in
theorem step_any {W w : World} {S0 : Nat → Prop} {r : List Asn} (d t : Nat) (most k x n : Int) (l : List Int) (hl : l.length ≤ 100000) (hm : 0 ≤ most) (hlm : (l.length : Int) ≤ most) (H : St W S0 w (dockA d most l :: refD t most l :: r)) :
    Calls Try.prog 14 #[.pointer (some ⟨d, 0, none⟩), .pointer (some ⟨t, 0, none⟩), .agg #[.int .i64 k, .int .i64 x, .int .i64 n]] w
      (fun e w' => e = .returned (.bool true) ∧ St W S0 w' (dockA d most (stepD most k x n l) :: refD t most (stepD most k x n l) :: r)) := by
  have H1 : St W S0 _ (cellA w.heap.size [.int .i64 k, .int .i64 x, .int .i64 n] :: dockA d most l :: refD t most l :: r) := H.alloc [.int .i64 k, .int .i64 x, .int .i64 n] 30
  have HC : St W S0 _ [cellA w.heap.size [.int .i64 k, .int .i64 x, .int .i64 n]] := H1.drops 1
  have hcl : ∀ (s' : Cls W S0 [cellA w.heap.size [.int .i64 k, .int .i64 x, .int .i64 n]]) (i : Nat), s'.it.cell? ⟨w.heap.size, i, none⟩ = [Value.int .i64 k, .int .i64 x, .int .i64 n][i]? := fun s' => (s'.st.box 0 rfl).cells
  obtain ⟨z1, k1, f1⟩ := H1.box 0 rfl
  have HA : St W S0 _ (dockA d most l :: refD t most l :: cellA w.heap.size [.int .i64 k, .int .i64 x, .int .i64 n] :: r) := H1.arrN [1, 2, 0] rfl
  have hi := hl
  clear H H1
  by_cases hk : k = 0 ∨ k = 1
  · rcases hk with rfl | rfl
    · have hk := True
      have hs : stepD most 0 x n l = if (l.length : Int) < most then l ++ [x] else l := rfl
      have P := Calls.st_at 0 HA.drew rfl fun S h => push_any d most l x _ S h hl
      simp only [val] at P
      have P2 := fun w' r' (h : St W S0 w' (refD t most l :: r')) => rpush_st t most x l hl h
      rw [← hs] at P P2
      generalize stepD most 0 x n l = l' at *
      generalize decide ((l.length : Int) < most) = ok at *
      have eE : (ok == ok) = true := by simp
      clear HA hs hk
      replace P := Lib.hid P; replace P2 := Lib.hid P2; replace HC := Lib.hid HC
      go_enter Try.func14, Try.ntmps14
      go_wp2_with fail
      haveI := St.ne HC.out
      refine wp_region_madeC HC.out [0, 1, 2, 4, 5, 6] [true, true, true, false, true, true, true, false, false, false] 4 #[true, true, true, false, true, true, true, false, false, false] (by kernel_rfl) rfl (by kernel_rfl) (by kernel_rfl) rfl (by kernel_rfl) (by kernel_rfl) (by intro c a a' w e h; obtain ⟨t, d⟩ := a; obtain ⟨t', d'⟩ := a'; obtain rfl : d = d' := e; exact h) ?_
      simp only [pickB]
      repeat (go_big_quiet_step (fail))
      refine wpQuiet_nil ?_
      refine held_one (i := 3) (by kernel_rfl) fun K hK => ?_
      simp only [List.drop_succ_cons, List.drop_zero, List.take_succ_cons, List.take_zero]
      go_wp2_with fail
      refine Calls.mono P.out ?_
      rintro e w4 ⟨rfl, H4'⟩
      have H4 : St W S0 w4 (refD t most l :: dockA d most l' :: cellA w.heap.size [.int .i64 0, .int .i64 x, .int .i64 n] :: r) := H4'.arrN [1, 0] rfl
      have HC4 : St W S0 w4 [cellA w.heap.size [.int .i64 0, .int .i64 x, .int .i64 n]] := (H4.arrN [2, 0, 1] rfl).drops 1
      replace P2 := P2.out _ _ H4
      clear P H4 H4' HC
      replace P2 := Lib.hid P2; replace HC4 := Lib.hid HC4
      go_wp2_with fail
      refine hK _ _ HC4.out ?_
      clear hK K
      refine held_one (i := 7) (by kernel_rfl) fun K hK => ?_
      simp only [List.drop_succ_cons, List.drop_zero, List.take_succ_cons, List.take_zero]
      go_wp2_with fail
      refine Calls.mono P2.out ?_
      rintro e w5 ⟨rfl, HF⟩
      have HC5 : St W S0 w5 [cellA w.heap.size [.int .i64 0, .int .i64 x, .int .i64 n]] := (HF.arrN [2, 0, 1] rfl).drops 1
      clear P2 HC4
      replace HF := Lib.hid HF; replace HC5 := Lib.hid HC5
      go_wp2_with fail
      refine hK _ _ HC5.out ?_
      clear hK K
      haveI := St.ne HC5.out
      refine calmC HC5.out [8, 9] [false, false, false, false, false, false, false, false, true, true] 0 2 #[true, true, true, true, true, true, true, true, false, false] #[true, true, true, true, true, true, true, true, true, true] rfl (by kernel_rfl) (by kernel_rfl) rfl (by kernel_rfl) (by kernel_rfl) (by intro c a a' w e h; obtain ⟨t, d⟩ := a; obtain ⟨t', d'⟩ := a'; obtain rfl : d = d' := e; exact h) ?_
      simp only [pickB]
      repeat (go_big_quiet_step (fail))
      refine wpQuiet_nil ?_
      refine held_done (by kernel_rfl) ?_
      go_wp2_with fail
      go_ret
      exact ⟨rfl, (HF.out.arrN [1, 0] rfl).drop 2 rfl⟩
    · have hk := True
      have hs : stepD most 1 x n l = if (l.length : Int) < most then l ++ [x] else l := rfl
      have P := Calls.st_at 0 HA.drew rfl fun S h => push_any d most l x _ S h hl
      simp only [val] at P
      have P2 := fun w' r' (h : St W S0 w' (refD t most l :: r')) => rpush_st t most x l hl h
      rw [← hs] at P P2
      generalize stepD most 1 x n l = l' at *
      generalize decide ((l.length : Int) < most) = ok at *
      have eE : (ok == ok) = true := by simp
      clear HA hs hk
      replace P := Lib.hid P; replace P2 := Lib.hid P2; replace HC := Lib.hid HC
      go_enter Try.func14, Try.ntmps14
      go_wp2_with fail
      haveI := St.ne HC.out
      refine wp_region_madeC HC.out [0, 1, 2, 4, 5, 6] [true, true, true, false, true, true, true, false, false, false] 4 #[true, true, true, false, true, true, true, false, false, false] (by kernel_rfl) rfl (by kernel_rfl) (by kernel_rfl) rfl (by kernel_rfl) (by kernel_rfl) (by intro c a a' w e h; obtain ⟨t, d⟩ := a; obtain ⟨t', d'⟩ := a'; obtain rfl : d = d' := e; exact h) ?_
      simp only [pickB]
      repeat (go_big_quiet_step (fail))
      refine wpQuiet_nil ?_
      refine held_one (i := 3) (by kernel_rfl) fun K hK => ?_
      simp only [List.drop_succ_cons, List.drop_zero, List.take_succ_cons, List.take_zero]
      go_wp2_with fail
      refine Calls.mono P.out ?_
      rintro e w4 ⟨rfl, H4'⟩
      have H4 : St W S0 w4 (refD t most l :: dockA d most l' :: cellA w.heap.size [.int .i64 1, .int .i64 x, .int .i64 n] :: r) := H4'.arrN [1, 0] rfl
      have HC4 : St W S0 w4 [cellA w.heap.size [.int .i64 1, .int .i64 x, .int .i64 n]] := (H4.arrN [2, 0, 1] rfl).drops 1
      replace P2 := P2.out _ _ H4
      clear P H4 H4' HC
      replace P2 := Lib.hid P2; replace HC4 := Lib.hid HC4
      go_wp2_with fail
      refine hK _ _ HC4.out ?_
      clear hK K
      refine held_one (i := 7) (by kernel_rfl) fun K hK => ?_
      simp only [List.drop_succ_cons, List.drop_zero, List.take_succ_cons, List.take_zero]
      go_wp2_with fail
      refine Calls.mono P2.out ?_
      rintro e w5 ⟨rfl, HF⟩
      have HC5 : St W S0 w5 [cellA w.heap.size [.int .i64 1, .int .i64 x, .int .i64 n]] := (HF.arrN [2, 0, 1] rfl).drops 1
      clear P2 HC4
      replace HF := Lib.hid HF; replace HC5 := Lib.hid HC5
      go_wp2_with fail
      refine hK _ _ HC5.out ?_
      clear hK K
      haveI := St.ne HC5.out
      refine calmC HC5.out [8, 9] [false, false, false, false, false, false, false, false, true, true] 0 2 #[true, true, true, true, true, true, true, true, false, false] #[true, true, true, true, true, true, true, true, true, true] rfl (by kernel_rfl) (by kernel_rfl) rfl (by kernel_rfl) (by kernel_rfl) (by intro c a a' w e h; obtain ⟨t, d⟩ := a; obtain ⟨t', d'⟩ := a'; obtain rfl : d = d' := e; exact h) ?_
      simp only [pickB]
      repeat (go_big_quiet_step (fail))
      refine wpQuiet_nil ?_
      refine held_done (by kernel_rfl) ?_
      go_wp2_with fail
      go_ret
      exact ⟨rfl, (HF.out.arrN [1, 0] rfl).drop 2 rfl⟩
  · obtain ⟨hk0, hk1⟩ := not_or.1 hk
    have q0 : (k == 0) = false := by simpa using hk0
    have q1 : (k == 1) = false := by simpa using hk1
    have q0' : decide (k = 0) = false := decide_eq_false hk0
    have q1' : decide (k = 1) = false := decide_eq_false hk1
    by_cases hk2 : k = 2
    · subst hk2
      have hs : stepD most 2 x n l = (spillD most x l).2 := rfl
      rw [hs]
      have P := spill_st d most x l hl hlm HA
      have P2 := fun w' r' (h : St W S0 w' (refD t most l :: r')) => rspill_st t most x l hm hl hlm h
      clear hk hk0 hk1 q0 q1 q0' q1' HC hcl HA hs
      generalize spillD most x l = e at *
      obtain ⟨⟨e1, e2⟩, L⟩ := e
      have y0 : (e1 == e1) = true := by simp
      have y1 : (e2 == e2) = true := by simp
      simp only at *
      replace P := Lib.hid P; replace P2 := Lib.hid P2
      go_enter Try.func14, Try.ntmps14
      go_wp2_with fail
      refine Calls.mono P.out ?_
      rintro e w4 ⟨rfl, H4'⟩
      have H4 := H4'.arrN [1, 0] rfl
      obtain ⟨z4, k4, f4⟩ := H4.box 2 rfl
      replace P2 := P2.out _ _ H4
      clear P H4 H4'
      replace P2 := Lib.hid P2
      go_wp2_with fail
      refine Calls.mono P2.out ?_
      rintro e w5 ⟨rfl, HF⟩
      clear P2
      replace HF := Lib.hid HF
      go_wp2_with fail
      go_ret
      exact ⟨rfl, (HF.out.arrN [1, 0] rfl).drop 2 rfl⟩
    · have q2 : (k == 2) = false := by simpa using hk2
      have q2' : decide (k = 2) = false := decide_eq_false hk2
      by_cases hk3 : k = 3
      · subst hk3
        have hs : stepD most 3 x n l = l.drop 1 := rfl
        rw [hs]
        have P := pull_st d most l HA
        have P2 := fun w' r' (h : St W S0 w' (refD t most l :: r')) => rpull_st t most l hl h
        clear hk hk0 hk1 q0 q1 q0' q1' HC hcl HA hs hk2 q2 q2'
        generalize pullD l = e at *
        generalize l.drop 1 = L at *
        obtain ⟨e1, e2⟩ := e
        have y0 : (e1 == e1) = true := by simp
        have y1 : (e2 == e2) = true := by simp
        simp only at *
        replace P := Lib.hid P; replace P2 := Lib.hid P2
        go_enter Try.func14, Try.ntmps14
        go_wp2_with fail
        refine Calls.mono P.out ?_
        rintro e w4 ⟨rfl, H4'⟩
        have H4 := H4'.arrN [1, 0] rfl
        obtain ⟨z4, k4, f4⟩ := H4.box 2 rfl
        replace P2 := P2.out _ _ H4
        clear P H4 H4'
        replace P2 := Lib.hid P2
        go_wp2_with fail
        refine Calls.mono P2.out ?_
        rintro e w5 ⟨rfl, HF⟩
        clear P2
        replace HF := Lib.hid HF
        go_wp2_with fail
        go_ret
        exact ⟨rfl, (HF.out.arrN [1, 0] rfl).drop 2 rfl⟩
      · have q3 : (k == 3) = false := by simpa using hk3
        have q3' : decide (k = 3) = false := decide_eq_false hk3
        by_cases hk4 : k = 4
        · subst hk4
          have hs : stepD most 4 x n l = if (l.length : Int) < most then placed (fun y => decide (n < y)) x l else l := rfl
          have P := place_st d w.heap.size most 4 x x n l hl (HA.drew.arrN [0, 2, 1] rfl)
          have P2 := fun w' r' (h : St W S0 w' (refD t most l :: r')) => rplace_st t most x n l hl h
          rw [← hs] at P P2
          generalize stepD most 4 x n l = l' at *
          generalize decide ((l.length : Int) < most) = ok at *
          have eE : (ok == ok) = true := by simp
          clear HA hs hk hk0 hk1 q0 q1 q0' q1' hk2 q2 q2' hk3 q3 q3'
          replace P := Lib.hid P; replace P2 := Lib.hid P2; replace HC := Lib.hid HC
          go_enter Try.func14, Try.ntmps14
          go_wp2_with fail
          haveI := St.ne HC.out
          refine wp_region_madeC HC.out [0, 1, 2, 5, 6, 7, 8, 9] [true, true, true, false, false, true, true, true, true, true, false, false, false] 5 #[true, true, true, false, false, true, true, true, true, true, false, false, false] (by kernel_rfl) rfl (by kernel_rfl) (by kernel_rfl) rfl (by kernel_rfl) (by kernel_rfl) (by intro c a a' w e h; obtain ⟨t, d⟩ := a; obtain ⟨t', d'⟩ := a'; obtain rfl : d = d' := e; exact h) ?_
          simp only [pickB]
          repeat (go_big_quiet_step (fail))
          refine wpQuiet_nil ?_
          refine held_one (i := 3) (by kernel_rfl) fun K hK => ?_
          simp only [List.drop_succ_cons, List.drop_zero, List.take_succ_cons, List.take_zero]
          go_wp2_with fail
          refine hK _ _ HC.out.drew ?_
          clear hK K
          refine held_one (i := 4) (by kernel_rfl) fun K hK => ?_
          simp only [List.drop_succ_cons, List.drop_zero, List.take_succ_cons, List.take_zero]
          go_wp2_with fail
          refine Calls.mono P.out ?_
          rintro e w4 ⟨rfl, H4'⟩
          have H4 : St W S0 w4 (refD t most l :: dockA d most l' :: cellA w.heap.size [.int .i64 4, .int .i64 x, .int .i64 n] :: r) := H4'.arrN [2, 0, 1] rfl
          have HC4 : St W S0 w4 [cellA w.heap.size [.int .i64 4, .int .i64 x, .int .i64 n]] := (H4.arrN [2, 0, 1] rfl).drops 1
          replace P2 := P2.out _ _ H4
          clear P H4 H4' HC
          replace P2 := Lib.hid P2; replace HC4 := Lib.hid HC4
          go_wp2_with fail
          refine hK _ _ HC4.out ?_
          clear hK K
          refine held_one (i := 10) (by kernel_rfl) fun K hK => ?_
          simp only [List.drop_succ_cons, List.drop_zero, List.take_succ_cons, List.take_zero]
          go_wp2_with fail
          refine Calls.mono P2.out ?_
          rintro e w5 ⟨rfl, HF⟩
          have HC5 : St W S0 w5 [cellA w.heap.size [.int .i64 4, .int .i64 x, .int .i64 n]] := (HF.arrN [2, 0, 1] rfl).drops 1
          clear P2 HC4
          replace HF := Lib.hid HF; replace HC5 := Lib.hid HC5
          go_wp2_with fail
          refine hK _ _ HC5.out ?_
          clear hK K
          haveI := St.ne HC5.out
          refine calmC HC5.out [11, 12] [false, false, false, false, false, false, false, false, false, false, false, true, true] 0 2 #[true, true, true, true, true, true, true, true, true, true, true, false, false] #[true, true, true, true, true, true, true, true, true, true, true, true, true] rfl (by kernel_rfl) (by kernel_rfl) rfl (by kernel_rfl) (by kernel_rfl) (by intro c a a' w e h; obtain ⟨t, d⟩ := a; obtain ⟨t', d'⟩ := a'; obtain rfl : d = d' := e; exact h) ?_
          simp only [pickB]
          repeat (go_big_quiet_step (fail))
          refine wpQuiet_nil ?_
          refine held_done (by kernel_rfl) ?_
          go_wp2_with fail
          go_ret
          exact ⟨rfl, (HF.out.arrN [1, 0] rfl).drop 2 rfl⟩
        · have q4 : (k == 4) = false := by simpa using hk4
          have q4' : decide (k = 4) = false := decide_eq_false hk4
          by_cases hk5 : k = 5
          · subst hk5
            have hs : stepD most 5 x n l = l.filter fun y => !decide (y < n) := rfl
            have P := sweep_st d w.heap.size most 5 x n l hl (HA.drew.arrN [0, 2, 1] rfl)
            have P2 := fun w' r' (h : St W S0 w' (refD t most l :: r')) => rsweep_st t most n l hl h
            rw [← hs] at P P2
            have hO : (l.filter fun y => decide (y < n)).length ≤ 100000 := Nat.le_trans (List.length_filter_le _ _) hl
            generalize stepD most 5 x n l = l' at *
            generalize (l.filter fun y => decide (y < n)) = O at *
            clear HA hs hk hk0 hk1 q0 q1 q0' q1' hk2 q2 q2' hk3 q3 q3' hk4 q4 q4'
            replace P := Lib.hid P; replace P2 := Lib.hid P2; replace HC := Lib.hid HC
            go_enter Try.func14, Try.ntmps14
            go_wp2_with fail
            haveI := St.ne HC.out
            refine wp_region_madeC HC.out [0, 3, 4, 5] [true, false, false, true, true, true, false, false, false] 5 #[true, false, false, true, true, true, false, false, false] (by kernel_rfl) rfl (by kernel_rfl) (by kernel_rfl) rfl (by kernel_rfl) (by kernel_rfl) (by intro c a a' w e h; obtain ⟨t, d⟩ := a; obtain ⟨t', d'⟩ := a'; obtain rfl : d = d' := e; exact h) ?_
            simp only [pickB]
            repeat (go_big_quiet_step (fail))
            refine wpQuiet_nil ?_
            refine held_one (i := 1) (by kernel_rfl) fun K hK => ?_
            simp only [List.drop_succ_cons, List.drop_zero, List.take_succ_cons, List.take_zero]
            go_wp2_with fail
            refine hK _ _ HC.out.drew ?_
            clear hK K
            refine held_one (i := 2) (by kernel_rfl) fun K hK => ?_
            simp only [List.drop_succ_cons, List.drop_zero, List.take_succ_cons, List.take_zero]
            go_wp2_with fail
            refine Calls.mono P.out ?_
            rintro e w4 ⟨v4, rfl, H4'⟩
            have H4 : St W S0 w4 (refD t most l :: dockA d most l' :: cellA w.heap.size [.int .i64 5, .int .i64 x, .int .i64 n] :: rowA 1 v4 O.length (i64s O) :: r) := H4'.arrN [3, 1, 2, 0] rfl
            have HC4 : St W S0 w4 [cellA w.heap.size [.int .i64 5, .int .i64 x, .int .i64 n]] := (H4.arrN [2, 0, 1] rfl).drops 1
            replace P2 := P2.out _ _ H4
            clear P H4 H4' HC
            replace P2 := Lib.hid P2; replace HC4 := Lib.hid HC4
            go_wp2_with fail
            refine hK _ _ HC4.out ?_
            clear hK K
            refine held_one (i := 6) (by kernel_rfl) fun K hK => ?_
            simp only [List.drop_succ_cons, List.drop_zero, List.take_succ_cons, List.take_zero]
            go_wp2_with fail
            refine Calls.mono P2.out ?_
            rintro e w5 ⟨v5, rfl, HF⟩
            have HC5 : St W S0 w5 [cellA w.heap.size [.int .i64 5, .int .i64 x, .int .i64 n]] := (HF.arrN [3, 0, 1, 2] rfl).drops 1
            obtain ⟨a5, c5, rfl, _⟩ := St.slice (by omega) 0 HF rfl
            obtain ⟨a4, c4, rfl, _⟩ := St.slice (by omega) 4 HF rfl
            have PI := ints_any O O.length rfl (by unfold maxLen; omega) a4 c4 a5 c5 w5 (St.rd (by omega) 4 HF rfl) (St.rd (by omega) 0 HF rfl)
            clear P2 HC4
            replace HF := Lib.hid HF; replace HC5 := Lib.hid HC5; replace PI := Lib.hid PI
            go_wp2_with fail
            refine hK _ _ HC5.out ?_
            clear hK K
            refine held_one (i := 7) (by kernel_rfl) fun K hK => ?_
            simp only [List.drop_succ_cons, List.drop_zero, List.take_succ_cons, List.take_zero]
            go_wp2_with fail
            refine Calls.mono PI.out ?_
            rintro e w6 ⟨rfl, hb6⟩
            have HG := HF.out.thru hb6
            have HC6 := HC5.out.thru hb6
            clear PI HF HC5
            replace HG := Lib.hid HG; replace HC6 := Lib.hid HC6
            go_wp2_with fail
            refine hK _ _ HC6.out ?_
            clear hK K
            haveI := St.ne HC6.out
            refine calmC HC6.out [8] [false, false, false, false, false, false, false, false, true] 0 1 #[true, true, true, true, true, true, true, true, false] #[true, true, true, true, true, true, true, true, true] rfl (by kernel_rfl) (by kernel_rfl) rfl (by kernel_rfl) (by kernel_rfl) (by intro c a a' w e h; obtain ⟨t, d⟩ := a; obtain ⟨t', d'⟩ := a'; obtain rfl : d = d' := e; exact h) ?_
            simp only [pickB]
            repeat (go_big_quiet_step (fail))
            refine wpQuiet_nil ?_
            refine held_done (by kernel_rfl) ?_
            go_wp2_with fail
            go_ret
            exact ⟨rfl, ((HG.out.arrN [2, 1, 0, 3, 4] rfl |>.drop 2 rfl).drop 2 rfl).drop 2 rfl⟩
          · have q5 : (k == 5) = false := by simpa using hk5
            have q5' : decide (k = 5) = false := decide_eq_false hk5
            have hs : stepD most k x n l = l := by
              unfold stepD
              rw [if_neg hk, if_neg hk2, if_neg hk3, if_neg hk4, if_neg hk5]
            rw [hs]
            clear hk hk0 hk1 hk2 hk3 hk4 hk5 HC hcl hs
            replace HA := Lib.hid HA
            go_enter Try.func14, Try.ntmps14
            go_wp2_with fail
            go_ret
            exact ⟨rfl, HA.out.drop 2 rfl⟩
end Go.Proofs.Ytiaefmmcakagpaa.DockLaw
