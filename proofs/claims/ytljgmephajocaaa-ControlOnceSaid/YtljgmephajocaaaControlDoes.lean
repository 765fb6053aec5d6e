/- The walk of the statement ControlDoes. -/
import Derived.Test.YtljgmephajocaaaControlLaw
import Derived.Test.YtljgmephajocaaaFits
import Derived.Deep.CutBlock
import Derived.Deep.DeepCutAuto
namespace Go.Proofs.Ytljgmephajocaaa.Ctl
set_option linter.unusedSimpArgs false
set_option linter.unusedVariables false
open Go Go.RowKit Go.Proofs.Ytljgmephajocaaa Go.Proofs.Ytljgmephajocaaa.DockCtl
attribute [local irreducible] Calls

structure Cop where
  kind : Int
  c : El
def encO (o : Cop) : List Value := [.int .i64 o.kind, .int .i64 o.c.1, .int .i64 o.c.2.1, .int .i64 o.c.2.2.1, .int .i64 o.c.2.2.2]
def cops (l : List Cop) : List Value := l.flatMap encO
theorem encO_len (o : Cop) : (encO o).length = 5 := rfl
theorem ctl_in {w : World} {cs : List Value} (h : Fits w (.cons 1 (.int .i64) (.cons 1 (.int .i64) (.cons 1 (.int .i64) (.cons 1 (.int .i64) .nil)))) cs) : ∃ c : El, cs = enc c ∧ isI64 c.1 := by
  obtain ⟨_, _, rfl, f0, r0⟩ := fits_cons1 h
  obtain ⟨_, _, rfl, f1, r1⟩ := fits_cons1 r0
  obtain ⟨_, _, rfl, f2, r2⟩ := fits_cons1 r1
  obtain ⟨_, _, rfl, f3, r3⟩ := fits_cons1 r2
  obtain ⟨n0, rfl, w0⟩ := fits_int f0
  obtain ⟨n1, rfl, _⟩ := fits_int f1
  obtain ⟨n2, rfl, _⟩ := fits_int f2
  obtain ⟨n3, rfl, _⟩ := fits_int f3
  obtain rfl : _ = [] := r3
  exact ⟨(n0, n1, n2, n3), rfl, bounds_i64 w0⟩
theorem cops_in {w : World} {a : Option Addr} {len cap : Nat} (h : Fits w (.slice 5 (.cons 1 (.int .i64) (.cons 4 (.cons 1 (.int .i64) (.cons 1 (.int .i64) (.cons 1 (.int .i64) (.cons 1 (.int .i64) .nil)))) .nil))) [.slice a len cap]) :
    len ≤ maxLen ∧ (a = none → len = 0) ∧ ∃ l : List Cop, l.length = len ∧ (∀ o ∈ l, isI64 o.c.1) ∧ Rd w a (cops l) :=
  rows_in (size := 5) encO (by omega) encO_len (fun cs hf _ => by
    obtain ⟨_, t, rfl, f0, r0⟩ := fits_cons1 hf
    obtain ⟨n0, rfl, _⟩ := fits_int f0
    obtain ⟨_, f1, r1⟩ := r0
    obtain ⟨c, hc, wc⟩ := ctl_in f1
    have ht : t = enc c := by
      have h0 : t.drop 4 = [] := r1
      rw [← List.take_append_drop 4 t, hc, h0, List.append_nil]
    exact ⟨⟨n0, c⟩, by rw [ht]; rfl, wc⟩) h
theorem cops_at {w : World} {a : Option Addr} {l : List Cop} (h : Rd w a (cops l)) {n : Nat} (hn : l.length = n) (h0 : 0 < n) :
    ∃ b off, a = some ⟨b, off, none⟩ ∧ b < w.heap.size ∧ ∀ i (hi : i < l.length), w.cell? ⟨b, off + i * 5, none⟩ = some (.int .i64 l[i].kind) ∧ w.cell? ⟨b, off + i * 5 + 1, none⟩ = some (.int .i64 l[i].c.1) ∧ w.cell? ⟨b, off + i * 5 + 2, none⟩ = some (.int .i64 l[i].c.2.1) ∧
      w.cell? ⟨b, off + i * 5 + 3, none⟩ = some (.int .i64 l[i].c.2.2.1) ∧ w.cell? ⟨b, off + i * 5 + 4, none⟩ = some (.int .i64 l[i].c.2.2.2) := by
  obtain ⟨b, off, e, hb, hc⟩ := Rd.rows encO_len (by omega) h hn h0
  exact ⟨b, off, e, hb, fun i hi => ⟨hc i hi 0 _ rfl, hc i hi 1 _ rfl, hc i hi 2 _ rfl, hc i hi 3 _ rfl, hc i hi 4 _ rfl⟩⟩

/-- A line behind so many steps. -/
def good (s : Ln) (j : Nat) : Prop := s.l.length ≤ 8 ∧ 1 ≤ s.next ∧ s.next ≤ (j : Int) + 1 ∧ -1 ≤ s.since ∧ s.since ≤ j ∧ 0 ≤ s.heard ∧ s.heard ≤ j
theorem good_0 (j : Nat) : good s0 j := by simp [good, s0]; omega
theorem good_up {s : Ln} {j : Nat} (h : good s j) : good s (j + 1) := by unfold good at *; omega
theorem good_put {s : Ln} {j : Nat} (c : El) (h : good s j) : good (putS s c) (j + 1) := by
  unfold putS
  split
  · rename_i he
    have hl : s.l.length < 8 := by
      unfold putE at he
      split at he
      · split at he
        · cases he
        · omega
      · rename_i hb
        exact absurd he hb
    unfold good at *
    simp only [List.length_append, List.length_cons, List.length_nil]
    omega
  · exact good_up h
theorem good_due {s : Ln} {j : Nat} (h : good s j) : good (dueS s) (j + 1) := by
  unfold dueS
  split
  · unfold good at *; simp only; omega
  · exact good_up h
theorem good_hear {s : Ln} {j : Nat} (n : Int) (h : good s j) : good (hearS s n) (j + 1) := by
  unfold hearS
  split
  · unfold good at *; simp only [List.length_tail]; omega
  · exact good_up h
theorem good_take {s : Ln} {j : Nat} (n : Int) (h : good s j) : good (takeS s n) (j + 1) := by
  unfold takeS fresh
  split
  · rename_i he
    simp at he
    unfold good at *; simp only; omega
  · exact good_up h
theorem good_tick {s : Ln} {j : Nat} (h : good s j) : good (tickS s) (j + 1) := by
  unfold tickS
  split
  · unfold good at *; simp only; omega
  · exact good_up h

set_option maxRecDepth 100000 in
set_option maxHeartbeats 4000000 in
theorem does_walk (a : Option Addr) (n cap : Nat) (w : World) (h0 : Fits w (.slice 5 (.cons 1 (.int .i64) (.cons 4 (.cons 1 (.int .i64) (.cons 1 (.int .i64) (.cons 1 (.int .i64) (.cons 1 (.int .i64) .nil)))) .nil))) [.slice a n cap]) :
    Calls Try.prog 3 #[.slice a n cap] w (Ret w (.bool true)) := by
  obtain ⟨hn, _, L, hl, hgood, hL⟩ := cops_in h0
  unfold maxLen at hn
  clear h0
  replace hl := Lib.hid hl; replace hL := Lib.hid hL; replace hgood := Lib.hid hgood
  go_enter Try.func3, Try.ntmps3
  go_wp2_with fail
  refine Calls.mono (works_law _) ?_
  rintro e w1 ⟨rfl, hb1⟩
  have z1 := Below.size hb1; try simp only [World.size_alloc, World.size_setCell, World.size_drew] at z1
  by_cases h300 : 300 < n
  · have q : decide ((300 : Int) < n) = true := decide_eq_true (by omega)
    go_wp2_with fail
    go_ret
    exact Ret.mk rfl (by repeat (first | with_reducible exact Below.refl _ _ | (with_reducible refine Below.al ?_) | (with_reducible refine Below.drew ?_) | (with_reducible refine Below.set ?_ (by first | (simp; done) | omega | (simp; omega))) | (with_reducible refine Below.thru ?_ (by assumption)) | (with_reducible refine Below.chg ?_ (by assumption) (by first | (simp; done) | omega | (simp; omega)))))
  · have qq : decide ((300 : Int) < n) = false := decide_eq_false (by omega)
    have q300 : n ≤ 300 := by omega
    go_wp2_with fail
    refine Calls.mono (new_any _) ?_
    rintro e w2 ⟨q, rfl, H2⟩
    have H2' : St w none0 w2 [lineA q s0] := ((St.zero w).thru hb1).add H2
    clear H2
    replace H2' := Lib.hid H2'
    go_wp2_with fail
    refine Calls.mono (rnew_any _) ?_
    rintro e w3 ⟨p, rfl, H3⟩
    have H3' : St w none0 w3 [lineA q s0, refA p s0] := (H2'.out.add H3).front 1 rfl
    clear H3 H2'
    replace H3' := Lib.hid H3'
    go_wp2_with fail
    go_loopg [6, 7, 8, 9, 10, 11, 12, 13, 14, 15, 16, 17, 18, 19, 20, 21, 22, 23, 24, 25, 26] n (fun g i _ _ _ _ _ _ _ _ _ _ _ _ _ _ _ _ _ _ _ _ wr => ∃ (j : Nat) (s : Ln), j ≤ n ∧ g = n - j ∧ i = .int .i64 j ∧ Hid (good s j) ∧ St w none0 wr [lineA q s, refA p s])
    case atStart => exact ⟨0, s0, by omega, by omega, rfl, good_0 0, H3'.out⟩
    case round =>
      obtain ⟨j, s, hj, hg, rfl, hgs, hst⟩ := hrel
      have zw := hst.size
      have hbw := hst.below
      by_cases hlt : j < n
      · have hjl : j < L.length := by have := hl.out; omega
        obtain ⟨b, off, rfl, hb, hc⟩ := cops_at (hL.out.below hbw) hl.out (by omega)
        obtain ⟨e0, e1, e2, e3, e4⟩ := hc j hjl
        have hgd := hgood.out L[j] (List.getElem_mem hjl)
        clear hc
        generalize L[j] = ob at *
        obtain ⟨kind, k, c0, c1, c2⟩ := ob
        simp only at e0 e1 e2 e3 e4 hgd
        have hst1 := (hst.alloc [.int .i64 kind, .int .i64 k, .int .i64 c0, .int .i64 c1, .int .i64 c2] 31)
        have hst2 : St w none0 _ [lineA q s, refA p s, cellA wr.heap.size [.int .i64 kind, .int .i64 k, .int .i64 c0, .int .i64 c1, .int .i64 c2]] := hst1.arr [1, 2, 0] rfl
        clear hst hst1 H3'
        obtain ⟨hg1, hg2, hg3, hg4, hg5, hg6, hg7⟩ := hgs.out
        replace hgs := hgs.out
        go_upto_block 2 with fail
        go_cut [8] (fun ok wx => ∃ (s' : Ln), ok = .bool true ∧ Hid (good s' (j + 1)) ∧ St w none0 wx [lineA q s', refA p s'])
        case first =>
          by_cases k01 : kind = 0 ∨ kind = 1
          · have P := put_st (k, c0, c1, c2) hg1 (by omega) (by omega) hst2
            clear hst2
            unfold val at P
            rcases k01 with rfl | rfl
            all_goals
              go_wp2_with fail
              refine Calls.mono P ?_
              rintro e w4 ⟨rfl, H4⟩
              obtain ⟨z4, k4, f4⟩ := H4.box 2 rfl
              have P2 := rput_st (k, c0, c1, c2) hg1 (by omega) (by omega) (H4.front 1 rfl)
              clear P H4
              unfold val at P2
              go_wp2_with fail
              refine Calls.mono P2 ?_
              rintro e w5 ⟨rfl, H5⟩
              obtain ⟨z5, k5, f5⟩ := H5.box 2 rfl
              have P3 := put_none (k, c0, c1, c2) w5
              unfold val at P3
              clear P2
              replace H5 := Lib.hid H5
              go_wp2_with fail
              refine Calls.mono P3 ?_
              rintro e w6 ⟨rfl, hb6⟩
              have H6 := H5.out.thru hb6
              clear P3 H5
              replace H6 := Lib.hid H6
              have eN : (putN s (k, c0, c1, c2) == putN s (k, c0, c1, c2)) = true := by simp
              have eE : (putE s (k, c0, c1, c2) == putE s (k, c0, c1, c2)) = true := by simp
              have g2 := good_put (k, c0, c1, c2) hgs
              go_wp2_with fail
              go_meet
              exact ⟨_, rfl, g2, (H6.out.front 1 rfl).drops 2⟩
          · have q0 : (kind == 0) = false := by simp; omega
            have q1 : (kind == 1) = false := by simp; omega
            by_cases k2 : kind = 2
            · subst k2
              clear q0 q1 k01
              have P := due_st hst2
              clear hst2
              obtain ⟨d, hd⟩ : ∃ d, dueC s = d := ⟨_, rfl⟩
              obtain ⟨ok, hok⟩ : ∃ ok, dueOk s = ok := ⟨_, rfl⟩
              rw [hd, hok] at P
              unfold val at P
              go_wp2_with fail
              refine Calls.mono P ?_
              rintro e w4 ⟨rfl, H4⟩
              have H4' := (H4.alloc [.int .i64 d.1, .int .i64 d.2.1, .int .i64 d.2.2.1, .int .i64 d.2.2.2] 29).arrN [2, 0, 1] rfl
              have P2 := rdue_st H4'
              rw [hd, hok] at P2
              unfold val at P2
              clear P H4
              go_wp2_with fail
              refine Calls.mono P2 ?_
              rintro e w5 ⟨rfl, H5⟩
              obtain ⟨z5, k5, f5⟩ := H5.box 1 rfl
              have H5' := H5.alloc [.int .i64 d.1, .int .i64 d.2.1, .int .i64 d.2.2.1, .int .i64 d.2.2.2] 29
              have P3 := due_none (w5.alloc (.cells #[.int .i64 d.1, .int .i64 d.2.1, .int .i64 d.2.2.1, .int .i64 d.2.2.2] 29))
              unfold val zero at P3
              clear P2 H5 H4'
              replace H5' := Lib.hid H5'
              go_wp2_with fail
              refine Calls.mono P3 ?_
              rintro e w6 ⟨rfl, hb6⟩
              have H6 := (H5'.out.thru hb6)
              obtain ⟨z6, k6, f6⟩ := H6.box 0 rfl
              obtain ⟨z7, k7, f7⟩ := H6.box 2 rfl
              have H7 := H6.skip (.cells #[.int .i64 0, .int .i64 0, .int .i64 0, .int .i64 0] 29)
              clear P3 H5'
              replace H7 := Lib.hid H7
              have eN : eqC d.1 d.2.1 d.2.2.1 d.2.2.2 d.1 d.2.1 d.2.2.1 d.2.2.2 = true := eqC_self _ _ _ _
              have eE : (ok == ok) = true := by simp
              have g2 := good_due hgs
              go_wp2_with fail
              go_meet
              exact ⟨_, rfl, g2, (H7.out.arrN [3, 1, 0, 2] rfl).drops 2⟩
            · by_cases k3 : kind = 3
              · subst k3
                clear q0 q1 k01 k2
                have HC := hst2.arr [2, 0, 1] rfl
                have HC1 : St w none0 _ [cellA wr.heap.size [.int .i64 3, .int .i64 k, .int .i64 c0, .int .i64 c1, .int .i64 c2]] := HC.drops 1
                have hcl : ∀ (s : Cls w none0 [cellA wr.heap.size [.int .i64 3, .int .i64 k, .int .i64 c0, .int .i64 c1, .int .i64 c2]]) (o : Nat), s.it.cell? ⟨wr.heap.size, o, none⟩ = [Value.int .i64 3, .int .i64 k, .int .i64 c0, .int .i64 c1, .int .i64 c2][o]? := fun s => (s.st.box 0 rfl).cells
                replace hst2 := Lib.hid hst2
                replace HC := Lib.hid HC
                replace HC1 := Lib.hid HC1
                replace hgs := Lib.hid hgs
                go_wp2_with fail
                have P := hear_st k hst2.out.drew
                obtain ⟨ok, hok⟩ : ∃ ok, hearOk s k = ok := ⟨_, rfl⟩
                rw [hok] at P
                haveI := St.ne HC1.out
                refine wp_region_madeC HC1.out [0, 1, 2, 3, 5, 6, 7, 8] [true, true, true, true, false, true, true, true, true, false, false, false, false, false, false, false, false, false, false, false] 12 #[true, true, true, true, false, true, true, true, true, false, false, false, false, false, false, false, false, false, false, false] (by kernel_rfl) rfl (by kernel_rfl) (by kernel_rfl) rfl (by kernel_rfl) (by kernel_rfl) (by intro c a a' w e h; obtain ⟨t, d⟩ := a; obtain ⟨t', d'⟩ := a'; obtain rfl : d = d' := e; exact h) ?_
                simp only [pickB]
                repeat (go_big_quiet_step (fail))
                refine wpQuiet_nil ?_
                refine held_one (i := 4) (by kernel_rfl) fun K hK => ?_
                simp only [List.drop_succ_cons, List.drop_zero, List.take_succ_cons, List.take_zero]
                go_wp2_with fail
                refine Calls.mono P ?_
                rintro e w4 ⟨rfl, H4⟩
                have HC4 := Lib.hid ((H4.arr [2, 0, 1] rfl).drops 1)
                replace H4 := Lib.hid H4
                go_wp2_with fail
                refine hK _ _ HC4.out ?_
                replace H4 := H4.out
                clear hK K
                have P2 := rhear_st k (H4.front 1 rfl)
                rw [hok] at P2
                clear P H4
                refine held_one (i := 9) (by kernel_rfl) fun K hK => ?_
                simp only [List.drop_succ_cons, List.drop_zero, List.take_succ_cons, List.take_zero]
                go_wp2_with fail
                refine Calls.mono P2 ?_
                rintro e w5 ⟨rfl, H5⟩
                have HC5 : St w none0 w5 [cellA wr.heap.size [Value.int .i64 3, .int .i64 k, .int .i64 c0, .int .i64 c1, .int .i64 c2]] := ((H5.arr [2, 0, 1] rfl).drops 1)
                replace H5 := Lib.hid H5
                replace HC5 := Lib.hid HC5
                go_wp2_with fail
                refine hK _ _ HC5.out ?_
                clear hK K P2
                have eE : (ok == ok) = true := by simp
                haveI := St.ne HC5.out
                refine calmC HC5.out [10, 11, 12, 13, 14, 15] [false, false, false, false, false, false, false, false, false, false, true, true, true, true, true, true, false, false, false, false] 4 10 #[true, true, true, true, true, true, true, true, true, true, false, false, false, false, false, false, false, false, false, false] #[true, true, true, true, true, true, true, true, true, true, true, true, true, true, true, true, false, false, false, false] rfl (by kernel_rfl) (by kernel_rfl) rfl (by kernel_rfl) (by kernel_rfl) (by intro c a a' w e h; obtain ⟨t, d⟩ := a; obtain ⟨t', d'⟩ := a'; obtain rfl : d = d' := e; exact h) ?_
                simp only [pickB]
                repeat (go_big_quiet_step (fail))
                refine wpQuiet_nil ?_
                refine held_one (i := 16) (by kernel_rfl) fun K hK => ?_
                simp only [List.drop_succ_cons, List.drop_zero, List.take_succ_cons, List.take_zero]
                go_wp2_with fail
                refine Calls.mono (hear_none k _) ?_
                rintro e w6 ⟨rfl, hb6⟩
                have H6 := Lib.hid (H5.out.thru hb6)
                have HC6 := Lib.hid (HC5.out.thru hb6)
                go_wp2_with fail
                refine hK _ _ HC6.out ?_
                clear hK K
                haveI := St.ne HC6.out
                refine calmC HC6.out [17, 18, 19] [false, false, false, false, false, false, false, false, false, false, false, false, false, false, false, false, false, true, true, true] 0 3 #[true, true, true, true, true, true, true, true, true, true, true, true, true, true, true, true, true, false, false, false] #[true, true, true, true, true, true, true, true, true, true, true, true, true, true, true, true, true, true, true, true] rfl (by kernel_rfl) (by kernel_rfl) rfl (by kernel_rfl) (by kernel_rfl) (by intro c a a' w e h; obtain ⟨t, d⟩ := a; obtain ⟨t', d'⟩ := a'; obtain rfl : d = d' := e; exact h) ?_
                simp only [pickB]
                repeat (go_big_quiet_step (fail))
                refine wpQuiet_nil ?_
                refine held_done (by kernel_rfl) ?_
                have g2 := good_hear k hgs.out
                go_wp2_with fail
                go_meet
                exact ⟨_, rfl, g2, (H6.out.arrN [1, 0] rfl).drops 2⟩
              · by_cases k4 : kind = 4
                · subst k4
                  clear q0 q1 k01 k2 k3
                  have P := take_st (k, c0, c1, c2) hg6 (by omega) hgd hst2
                  clear hst2
                  obtain ⟨fr, hfr⟩ : ∃ fr, fresh s k = fr := ⟨_, rfl⟩
                  obtain ⟨cf, hcf⟩ : ∃ cf, conf s k = cf := ⟨_, rfl⟩
                  simp only [hfr, hcf] at P
                  unfold val at P
                  go_wp2_with fail
                  refine Calls.mono P ?_
                  rintro e w4 ⟨rfl, H4⟩
                  obtain ⟨z4, k4, f4⟩ := H4.box 2 rfl
                  have P2 := rtake_st (k, c0, c1, c2) hg6 (by omega) hgd (H4.front 1 rfl)
                  simp only [hfr, hcf] at P2
                  clear P H4
                  unfold val at P2
                  go_wp2_with fail
                  refine Calls.mono P2 ?_
                  rintro e w5 ⟨rfl, H5⟩
                  obtain ⟨z5, k5, f5⟩ := H5.box 2 rfl
                  have P3 := take_none (k, c0, c1, c2) w5
                  unfold val at P3
                  clear P2
                  replace H5 := Lib.hid H5
                  go_wp2_with fail
                  refine Calls.mono P3 ?_
                  rintro e w6 ⟨rfl, hb6⟩
                  have H6 := H5.out.thru hb6
                  clear P3 H5
                  replace H6 := Lib.hid H6
                  have eN : (fr == fr) = true := by simp
                  have eE : (cf == cf) = true := by simp
                  have g2 := good_take k hgs
                  go_wp2_with fail
                  go_meet
                  exact ⟨_, rfl, g2, (H6.out.front 1 rfl).drops 2⟩
                · by_cases k5 : kind = 5
                  · subst k5
                    clear q0 q1 k01 k2 k3 k4
                    have P := tick_st (by omega) hst2
                    clear hst2
                    go_wp2_with fail
                    refine Calls.mono P ?_
                    rintro e w4 ⟨rfl, H4⟩
                    replace H4 := Lib.hid H4
                    clear P
                    go_wp2_with fail
                    refine Calls.mono (tick_none _) ?_
                    rintro e w5 ⟨rfl, hb5⟩
                    have P2 := rtick_st (by omega) ((H4.out.thru hb5).front 1 rfl)
                    clear H4
                    go_wp2_with fail
                    refine Calls.mono P2 ?_
                    rintro e w6 ⟨rfl, H6⟩
                    clear P2
                    replace H6 := Lib.hid H6
                    have g2 := good_tick hgs
                    go_wp2_with fail
                    go_meet
                    exact ⟨_, rfl, g2, (H6.out.front 1 rfl).drops 2⟩
                  · have q2 : (kind == 2) = false := by simp; omega
                    have q3 : (kind == 3) = false := by simp; omega
                    have q4 : (kind == 4) = false := by simp; omega
                    have q5 : (kind == 5) = false := by simp; omega
                    replace hst2 := Lib.hid hst2
                    have g2 := good_up hgs
                    clear k01 k2 k3 k4 k5
                    go_wp2_with fail
                    go_meet
                    exact ⟨_, rfl, g2, hst2.out.drops 2⟩
        case rest =>
          obtain ⟨s', rfl, hgs', HT⟩ := hcut
          clear hst2 hgs hg1 hg2 hg3 hg4 hg5 hg6 hg7 e0 e1 e2 e3 e4 hgd
          have zT := HT.size
          obtain ⟨ap, cp, HP⟩ := ref_parts (HT.front 1 rfl)
          obtain ⟨zp, kp, fp⟩ := HP.box 0 rfl
          have eL : ((s'.l.length : Int) != (s'.l.length : Int)) = false := by simp
          clear HP
          replace HT := Lib.hid HT
          go_wp2_with fail
          refine wp_region_near (by kernel_rfl) (by kernel_rfl) ?_
          intro hs
          repeat (go_big_quiet_step ((first | (go_at_call 28; exact Calls.near (by simp) (len_st (HT.out.thruB (by simp) (Near.near _)))) | (go_at_call 28; exact Calls.near (by simp) (len_none _)))))
          refine wpQuiet_nil ?_
          clear hs
          intro w9 hb9
          have H9 := Lib.hid (HT.out.thruB (by simp) hb9)
          clear HT
          go_wp2_with fail
          go_roundg (n - (j + 1))
          case measure => omega
          case rel => exact ⟨j + 1, s', by omega, rfl, by go_num, hgs', H9.out⟩
      · replace hst := Lib.hid hst
        go_wp2_with fail
        go_ret
        exact hst.out.ret rfl
end Go.Proofs.Ytljgmephajocaaa.Ctl
