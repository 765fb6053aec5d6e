/- The walk of the statement FlightDoes: any packets, vectors and drops come to what the chapter says; a flight that is none has none. -/
import Derived.Test.YtljgmephajocaaaFlightSame
import Derived.Deep.CutBlock
import Derived.Deep.DeepCutAuto
namespace Go.Proofs.Ytljgmephajocaaa.Flight
set_option linter.unusedSimpArgs false
set_option linter.unusedVariables false
open Go Go.RowKit Go.Shelf Go.Proofs.Ytljgmephajocaaa Go.Proofs.Ytljgmephajocaaa.DockSPtr Go.Proofs.Ytljgmephajocaaa.Circ Go.Proofs.Ytljgmephajocaaa.Avec
attribute [local irreducible] Calls

theorem dput_none (seq now : Int) (w : World) : Calls Try.prog 32 #[.pointer none, .int .i64 seq, .int .i64 now] w (Ret w (.bool false)) := put_none seq now w

set_option maxRecDepth 100000 in
set_option maxHeartbeats 4000000 in
theorem does_walk (a0 : Option Addr) (len0 cap0 : Nat) (w : World) (h0 : Fits w (.slice 4 (.cons 1 (.int .i64) (.cons 1 (.int .i64) (.cons 1 (.int .i64) (.cons 1 (.slice 2 (.cons 1 (.int .i64) (.cons 1 (.int .i64) .nil))) .nil))))) [.slice a0 len0 cap0]) :
    Calls Try.prog 8 #[.slice a0 len0 cap0] w (Ret w (.bool true)) := by
  obtain ⟨hmax, L, hL, hrun, hR⟩ := fos_in h0
  unfold maxLen at hmax
  clear h0
  replace hL := Lib.hid hL; replace hrun := Lib.hid hrun; replace hR := Lib.hid hR
  go_enter Try.func8, Try.ntmps8
  go_wp2_with fail
  refine Calls.mono (works_law _) ?_
  rintro e w1 ⟨rfl, hb1⟩
  have z1 := Below.size hb1; try simp only [World.size_alloc, World.size_setCell, World.size_drew] at z1
  have hR1 := hR.out.below hb1
  replace hR1 := Lib.hid hR1
  go_wp2_with fail
  refine Calls.mono (great_any L len0 hL.out (by unfold maxLen; omega) hrun.out a0 cap0 w1 hR1.out) ?_
  rintro e w2 ⟨rfl, hb2⟩
  have z2 := Below.size hb2; try simp only [World.size_alloc, World.size_setCell, World.size_drew] at z2
  by_cases hbig : bigO L = true
  · rw [hbig]
    go_wp2_with fail
    go_ret
    exact Ret.mk rfl (by repeat (first | with_reducible exact Below.refl _ _ | (with_reducible refine Below.al ?_) | (with_reducible refine Below.drew ?_) | (with_reducible refine Below.set ?_ (by first | (simp; done) | omega | (simp; omega))) | (with_reducible refine Below.thru ?_ (by assumption)) | (with_reducible refine Below.chg ?_ (by assumption) (by first | (simp; done) | omega | (simp; omega)))))
  · have hbf : bigO L = false := by simpa using hbig
    obtain ⟨hn, hr10⟩ := bigO_no hbf
    rw [hbf]
    clear hbig hbf hrun
    replace hr10 := Lib.hid hr10
    rw [hL.out] at hn
    go_wp2_with fail
    refine Calls.mono (new_any _) ?_
    rintro e w3 ⟨f, rfl, H1⟩
    have H2 : St w none0 _ [flightA f [], refF w3.heap.size []] := ((refF_shut (l := []) ((((St.zero w).thru (Below.thru hb1 hb2) |>.add H1).row_nil (size := 3)).alloc [.slice none 0 0] 79)).arr [1, 0] rfl)
    clear H1
    replace H2 := Lib.hid H2
    clear hR1 hb1 hb2
    go_wp2_with fail
    go_loopg [6] len0 (fun g i wr => ∃ (j : Nat) (l : List Un), j ≤ len0 ∧ Hid (g = len0 - j) ∧ i = .int .i64 j ∧ Hid (Fine l) ∧ Hid (St w none0 wr [flightA f l, refF w3.heap.size l]))
    case atStart => exact ⟨0, [], by omega, Lib.hid rfl, rfl, Lib.hid fine_nil, H2⟩
    case round =>
      clear H2
      obtain ⟨j, l, hj, hg, rfl, hF, HL⟩ := hrel
      generalize w3.heap.size = q at *
      by_cases hlt : j < len0
      · have hjl : j < L.length := by have := hL.out; omega
        obtain ⟨b, off, rfl, hb, e0, e1, e2, e3⟩ := fos_at (hR.out.below (St.below HL.out)) hjl
        have hruns : (L[j]).runs_.length ≤ 10 := hr10.out _ (List.getElem_mem hjl)
        have hrd : ∀ w', Below w.heap.size w w' → Rd w' (L[j]).a (runs (L[j]).runs_) := fun w' hb' => (hR.out.below hb').2 _ (List.getElem_mem hjl)
        generalize L[j] = x at *
        obtain ⟨kind, seq, now, R, ra, rc⟩ := x
        simp only at e0 e1 e2 e3 hruns hrd
        obtain ⟨n, hn'⟩ : ∃ n, n = R.length := ⟨_, rfl⟩
        rw [← hn'] at e3 hruns
        replace hn' := Lib.hid hn'
        replace hrd := Lib.hid hrd
        have H3 : St w none0 _ [flightA f l, refF q l, cellA wr.heap.size [.int .i64 kind, .int .i64 seq, .int .i64 now, .slice ra n rc]] := (HL.out.alloc [.int .i64 kind, .int .i64 seq, .int .i64 now, .slice ra n rc] 57).arr [1, 2, 0] rfl
        clear HL
        have HC1 : St w none0 _ [cellA wr.heap.size [.int .i64 kind, .int .i64 seq, .int .i64 now, .slice ra n rc]] := (H3.arr [2, 0, 1] rfl).drops 1
        have hcl : ∀ (s : Cls w none0 [cellA wr.heap.size [.int .i64 kind, .int .i64 seq, .int .i64 now, .slice ra n rc]]) (o : Nat), s.it.cell? ⟨wr.heap.size, o, none⟩ = [Value.int .i64 kind, .int .i64 seq, .int .i64 now, .slice ra n rc][o]? := fun s => (s.st.box 0 rfl).cells
        replace HC1 := Lib.hid HC1
        go_upto_block 2 with fail
        go_cut [8] (fun ok wx => ∃ l', ok = .bool true ∧ Hid (Fine l') ∧ Hid (St w none0 wx [flightA f l', refF q l']))
        case first =>
          by_cases k01 : kind = 0 ∨ kind = 1
          · rcases k01 with rfl | rfl
            · have P := put_st seq now hF.out H3.drew
              replace H3 := Lib.hid H3
              go_wp2_with fail
              haveI := St.ne HC1.out
              refine wp_region_madeC HC1.out [0, 1, 2, 3, 4, 6, 7, 8, 9, 10] [true, true, true, true, true, false, true, true, true, true, true, false, false, false, false, false, false, false, false, false, false, false, false] 13 #[true, true, true, true, true, false, true, true, true, true, true, false, false, false, false, false, false, false, false, false, false, false, false] (by kernel_rfl) rfl (by kernel_rfl) (by kernel_rfl) rfl (by kernel_rfl) (by kernel_rfl) (by intro c a a' w e h; obtain ⟨t, d⟩ := a; obtain ⟨t', d'⟩ := a'; obtain rfl : d = d' := e; exact h) ?_
              simp only [pickB]
              repeat (go_big_quiet_step (fail))
              refine wpQuiet_nil ?_
              refine held_one (i := 5) (by kernel_rfl) fun K hK => ?_
              simp only [List.drop_succ_cons, List.drop_zero, List.take_succ_cons, List.take_zero]
              go_wp2_with fail
              refine Calls.mono P ?_
              rintro e w4 ⟨bu, rfl, H4⟩
              have HC4 : St w none0 w4 [cellA wr.heap.size [.int .i64 0, .int .i64 seq, .int .i64 now, .slice ra n rc]] := (H4.arr [2, 0, 1] rfl).drops 1
              have P2 := rput_st seq now bu hF.out (H4.front 1 rfl)
              have hF2 := hF.out.put bu seq now
              obtain ⟨ok, hok⟩ : ∃ ok, putOk l = ok := ⟨_, rfl⟩
              rw [hok] at P2 ⊢
              obtain ⟨l', hl'⟩ : ∃ l', l' = putU l bu seq now := ⟨_, rfl⟩
              rw [← hl'] at P2 hF2
              clear P H4 H3 hok hF hl'
              replace HC4 := Lib.hid HC4; replace P2 := Lib.hid P2; replace hF2 := Lib.hid hF2
              go_wp2_with fail
              refine hK _ _ HC4.out ?_
              clear hK K
              refine held_one (i := 11) (by kernel_rfl) fun K hK => ?_
              simp only [List.drop_succ_cons, List.drop_zero, List.take_succ_cons, List.take_zero]
              go_wp2_with fail
              refine Calls.mono P2.out ?_
              rintro e w5 ⟨rfl, H5⟩
              have HC5 : St w none0 w5 [cellA wr.heap.size [.int .i64 0, .int .i64 seq, .int .i64 now, .slice ra n rc]] := ((H5.arr [2, 0, 1] rfl).drops 1)
              clear P2 HC4
              replace H5 := Lib.hid H5; replace HC5 := Lib.hid HC5
              go_wp2_with fail
              refine hK _ _ HC5.out ?_
              clear hK K
              have eE : (ok == ok) = true := by simp
              haveI := St.ne HC5.out
              refine calmC HC5.out [12, 13, 14, 15, 16, 17, 18] [false, false, false, false, false, false, false, false, false, false, false, false, true, true, true, true, true, true, true, false, false, false, false] 4 11 #[true, true, true, true, true, true, true, true, true, true, true, true, false, false, false, false, false, false, false, false, false, false, false] #[true, true, true, true, true, true, true, true, true, true, true, true, true, true, true, true, true, true, true, false, false, false, false] rfl (by kernel_rfl) (by kernel_rfl) rfl (by kernel_rfl) (by kernel_rfl) (by intro c a a' w e h; obtain ⟨t, d⟩ := a; obtain ⟨t', d'⟩ := a'; obtain rfl : d = d' := e; exact h) ?_
              simp only [pickB]
              repeat (go_big_quiet_step (fail))
              refine wpQuiet_nil ?_
              refine held_one (i := 19) (by kernel_rfl) fun K hK => ?_
              simp only [List.drop_succ_cons, List.drop_zero, List.take_succ_cons, List.take_zero]
              go_wp2_with fail
              refine Calls.mono (put_none seq now _) ?_
              rintro e w6 ⟨rfl, hb6⟩
              have H6 := Lib.hid (H5.out.thru hb6)
              have HC6 := Lib.hid (HC5.out.thru hb6)
              go_wp2_with fail
              refine hK _ _ HC6.out ?_
              clear hK K
              haveI := St.ne HC6.out
              refine calmC HC6.out [20, 21, 22] [false, false, false, false, false, false, false, false, false, false, false, false, false, false, false, false, false, false, false, false, true, true, true] 0 3 #[true, true, true, true, true, true, true, true, true, true, true, true, true, true, true, true, true, true, true, true, false, false, false] #[true, true, true, true, true, true, true, true, true, true, true, true, true, true, true, true, true, true, true, true, true, true, true] rfl (by kernel_rfl) (by kernel_rfl) rfl (by kernel_rfl) (by kernel_rfl) (by intro c a a' w e h; obtain ⟨t, d⟩ := a; obtain ⟨t', d'⟩ := a'; obtain rfl : d = d' := e; exact h) ?_
              simp only [pickB]
              repeat (go_big_quiet_step (fail))
              refine wpQuiet_nil ?_
              refine held_done (by kernel_rfl) ?_
              go_wp2_with fail
              go_meet
              exact ⟨l', rfl, hF2, Lib.hid ((H6.out.arrN [1, 0] rfl).drops 2)⟩
            · have P := put_st seq now hF.out H3.drew
              replace H3 := Lib.hid H3
              go_wp2_with fail
              haveI := St.ne HC1.out
              refine wp_region_madeC HC1.out [0, 1, 2, 3, 4, 6, 7, 8, 9, 10] [true, true, true, true, true, false, true, true, true, true, true, false, false, false, false, false, false, false, false, false, false, false, false] 13 #[true, true, true, true, true, false, true, true, true, true, true, false, false, false, false, false, false, false, false, false, false, false, false] (by kernel_rfl) rfl (by kernel_rfl) (by kernel_rfl) rfl (by kernel_rfl) (by kernel_rfl) (by intro c a a' w e h; obtain ⟨t, d⟩ := a; obtain ⟨t', d'⟩ := a'; obtain rfl : d = d' := e; exact h) ?_
              simp only [pickB]
              repeat (go_big_quiet_step (fail))
              refine wpQuiet_nil ?_
              refine held_one (i := 5) (by kernel_rfl) fun K hK => ?_
              simp only [List.drop_succ_cons, List.drop_zero, List.take_succ_cons, List.take_zero]
              go_wp2_with fail
              refine Calls.mono P ?_
              rintro e w4 ⟨bu, rfl, H4⟩
              have HC4 : St w none0 w4 [cellA wr.heap.size [.int .i64 1, .int .i64 seq, .int .i64 now, .slice ra n rc]] := (H4.arr [2, 0, 1] rfl).drops 1
              have P2 := rput_st seq now bu hF.out (H4.front 1 rfl)
              have hF2 := hF.out.put bu seq now
              obtain ⟨ok, hok⟩ : ∃ ok, putOk l = ok := ⟨_, rfl⟩
              rw [hok] at P2 ⊢
              obtain ⟨l', hl'⟩ : ∃ l', l' = putU l bu seq now := ⟨_, rfl⟩
              rw [← hl'] at P2 hF2
              clear P H4 H3 hok hF hl'
              replace HC4 := Lib.hid HC4; replace P2 := Lib.hid P2; replace hF2 := Lib.hid hF2
              go_wp2_with fail
              refine hK _ _ HC4.out ?_
              clear hK K
              refine held_one (i := 11) (by kernel_rfl) fun K hK => ?_
              simp only [List.drop_succ_cons, List.drop_zero, List.take_succ_cons, List.take_zero]
              go_wp2_with fail
              refine Calls.mono P2.out ?_
              rintro e w5 ⟨rfl, H5⟩
              have HC5 : St w none0 w5 [cellA wr.heap.size [.int .i64 1, .int .i64 seq, .int .i64 now, .slice ra n rc]] := ((H5.arr [2, 0, 1] rfl).drops 1)
              clear P2 HC4
              replace H5 := Lib.hid H5; replace HC5 := Lib.hid HC5
              go_wp2_with fail
              refine hK _ _ HC5.out ?_
              clear hK K
              have eE : (ok == ok) = true := by simp
              haveI := St.ne HC5.out
              refine calmC HC5.out [12, 13, 14, 15, 16, 17, 18] [false, false, false, false, false, false, false, false, false, false, false, false, true, true, true, true, true, true, true, false, false, false, false] 4 11 #[true, true, true, true, true, true, true, true, true, true, true, true, false, false, false, false, false, false, false, false, false, false, false] #[true, true, true, true, true, true, true, true, true, true, true, true, true, true, true, true, true, true, true, false, false, false, false] rfl (by kernel_rfl) (by kernel_rfl) rfl (by kernel_rfl) (by kernel_rfl) (by intro c a a' w e h; obtain ⟨t, d⟩ := a; obtain ⟨t', d'⟩ := a'; obtain rfl : d = d' := e; exact h) ?_
              simp only [pickB]
              repeat (go_big_quiet_step (fail))
              refine wpQuiet_nil ?_
              refine held_one (i := 19) (by kernel_rfl) fun K hK => ?_
              simp only [List.drop_succ_cons, List.drop_zero, List.take_succ_cons, List.take_zero]
              go_wp2_with fail
              refine Calls.mono (put_none seq now _) ?_
              rintro e w6 ⟨rfl, hb6⟩
              have H6 := Lib.hid (H5.out.thru hb6)
              have HC6 := Lib.hid (HC5.out.thru hb6)
              go_wp2_with fail
              refine hK _ _ HC6.out ?_
              clear hK K
              haveI := St.ne HC6.out
              refine calmC HC6.out [20, 21, 22] [false, false, false, false, false, false, false, false, false, false, false, false, false, false, false, false, false, false, false, false, true, true, true] 0 3 #[true, true, true, true, true, true, true, true, true, true, true, true, true, true, true, true, true, true, true, true, false, false, false] #[true, true, true, true, true, true, true, true, true, true, true, true, true, true, true, true, true, true, true, true, true, true, true] rfl (by kernel_rfl) (by kernel_rfl) rfl (by kernel_rfl) (by kernel_rfl) (by intro c a a' w e h; obtain ⟨t, d⟩ := a; obtain ⟨t', d'⟩ := a'; obtain rfl : d = d' := e; exact h) ?_
              simp only [pickB]
              repeat (go_big_quiet_step (fail))
              refine wpQuiet_nil ?_
              refine held_done (by kernel_rfl) ?_
              go_wp2_with fail
              go_meet
              exact ⟨l', rfl, hF2, Lib.hid ((H6.out.arrN [1, 0] rfl).drops 2)⟩
          · have q0 : (kind == 0) = false := by simp; omega
            have q1 : (kind == 1) = false := by simp; omega
            by_cases k2 : kind = 2
            · subst k2
              clear q0 q1 k01
              have P := took_st seq now R n rc hn'.out.symm (by omega) ra hF.out hrd.out H3.drew
              have hF2 := hF.out.took (fun s => findV (eachL seq R) (ofC s)) (timeV now)
              obtain ⟨A, hA⟩ : ∃ A, A = hearA (fun s => findV (eachL seq R) (ofC s)) (timeV now) l := ⟨_, rfl⟩
              rw [← hA] at P hF2
              replace H3 := Lib.hid H3
              replace hA := Lib.hid hA
              go_wp2_with fail
              haveI := St.ne HC1.out
              refine wp_region_madeC HC1.out [0, 1, 2, 3, 4, 5, 6, 8, 9, 10, 11, 12, 13, 14] [true, true, true, true, true, true, true, false, true, true, true, true, true, true, true, false, false, false, false, false, false, false, false, false, false, false, false, false, false, false] 16 #[true, true, true, true, true, true, true, false, true, true, true, true, true, true, true, false, false, false, false, false, false, false, false, false, false, false, false, false, false, false] (by kernel_rfl) rfl (by kernel_rfl) (by kernel_rfl) rfl (by kernel_rfl) (by kernel_rfl) (by intro c a a' w e h; obtain ⟨t, d⟩ := a; obtain ⟨t', d'⟩ := a'; obtain rfl : d = d' := e; exact h) ?_
              simp only [pickB]
              repeat (go_big_quiet_step (fail))
              refine wpQuiet_nil ?_
              refine held_one (i := 7) (by kernel_rfl) fun K hK => ?_
              simp only [List.drop_succ_cons, List.drop_zero, List.take_succ_cons, List.take_zero]
              go_wp2_with fail
              refine Calls.mono P ?_
              rintro e w4 ⟨rfl, H4⟩
              have HC4 : St w none0 w4 [cellA wr.heap.size [.int .i64 2, .int .i64 seq, .int .i64 now, .slice ra n rc]] := (H4.arr [2, 0, 1] rfl).drops 1
              have P2 := rtook_st seq now R n rc hn'.out.symm (by omega) ra hF.out hrd.out (H4.front 1 rfl)
              rw [← hA.out] at P2
              have P3 := fun w => same_any A.ack (lostU A.ahead).length A.mark A.trip (newestU (lostU A.ahead)) w
              obtain ⟨l', hl'⟩ : ∃ l', l' = leftU A.ahead := ⟨_, rfl⟩
              rw [← hl'] at P2 hF2
              unfold newsV newsL at *
              simp only [List.toArray] at P2 ⊢
              generalize newestU (lostU A.ahead) = nw at *
              generalize (lostU A.ahead).length = lo at *
              obtain ⟨A1, A2, A3, A4⟩ := A
              simp only at P2 P3 ⊢
              clear P H4 H3 hF hl' hA
              replace HC4 := Lib.hid HC4; replace P2 := Lib.hid P2; replace hF2 := Lib.hid hF2; replace P3 := Lib.hid P3
              go_wp2_with fail
              refine hK _ _ HC4.out ?_
              clear hK K
              refine held_one (i := 15) (by kernel_rfl) fun K hK => ?_
              simp only [List.drop_succ_cons, List.drop_zero, List.take_succ_cons, List.take_zero]
              go_wp2_with fail
              refine Calls.mono P2.out ?_
              rintro e w5 ⟨rfl, H5⟩
              have HC5 : St w none0 w5 [cellA wr.heap.size [.int .i64 2, .int .i64 seq, .int .i64 now, .slice ra n rc]] := ((H5.arr [2, 0, 1] rfl).drops 1)
              clear P2 HC4
              replace H5 := Lib.hid H5; replace HC5 := Lib.hid HC5
              go_wp2_with fail
              refine hK _ _ HC5.out ?_
              clear hK K
              refine held_one (i := 16) (by kernel_rfl) fun K hK => ?_
              simp only [List.drop_succ_cons, List.drop_zero, List.take_succ_cons, List.take_zero]
              go_wp2_with fail
              refine Calls.mono (P3.out _) ?_
              rintro e w6 ⟨rfl, hb6⟩
              have H6 := Lib.hid (H5.out.thru hb6)
              have HC6 := Lib.hid (HC5.out.thru hb6)
              clear P3
              go_wp2_with fail
              refine hK _ _ HC6.out ?_
              clear hK K
              haveI := St.ne HC6.out
              refine calmC HC6.out [17, 18, 19, 20, 21, 22, 23, 24, 26] [false, false, false, false, false, false, false, false, false, false, false, false, false, false, false, false, false, true, true, true, true, true, true, true, true, false, true, false, false, false] 4 13 #[true, true, true, true, true, true, true, true, true, true, true, true, true, true, true, true, true, false, false, false, false, false, false, false, false, false, false, false, false, false] #[true, true, true, true, true, true, true, true, true, true, true, true, true, true, true, true, true, true, true, true, true, true, true, true, true, false, true, false, false, false] rfl (by kernel_rfl) (by kernel_rfl) rfl (by kernel_rfl) (by kernel_rfl) (by intro c a a' w e h; obtain ⟨t, d⟩ := a; obtain ⟨t', d'⟩ := a'; obtain rfl : d = d' := e; exact h) ?_
              simp only [pickB]
              repeat (go_big_quiet_step (fail))
              refine wpQuiet_nil ?_
              refine held_one (i := 25) (by kernel_rfl) fun K hK => ?_
              simp only [List.drop_succ_cons, List.drop_zero, List.take_succ_cons, List.take_zero]
              go_wp2_with fail
              refine Calls.mono (took_none seq now ra n rc _) ?_
              rintro e w7 ⟨rfl, hb7⟩
              have H7 := Lib.hid (H6.out.thru hb7)
              have HC7 := Lib.hid (HC6.out.thru hb7)
              go_wp2_with fail
              refine hK _ _ HC7.out ?_
              clear hK K
              refine held_one (i := 27) (by kernel_rfl) fun K hK => ?_
              simp only [List.drop_succ_cons, List.drop_zero, List.take_succ_cons, List.take_zero]
              go_wp2_with fail
              refine Calls.mono (same_any 0 0 0 0 0 _) ?_
              rintro e w8 ⟨rfl, hb8⟩
              have H8 := Lib.hid (H7.out.thru hb8)
              have HC8 := Lib.hid (HC7.out.thru hb8)
              go_wp2_with fail
              refine hK _ _ HC8.out ?_
              clear hK K
              haveI := St.ne HC8.out
              refine calmC HC8.out [28, 29] [false, false, false, false, false, false, false, false, false, false, false, false, false, false, false, false, false, false, false, false, false, false, false, false, false, false, false, false, true, true] 0 2 #[true, true, true, true, true, true, true, true, true, true, true, true, true, true, true, true, true, true, true, true, true, true, true, true, true, true, true, true, false, false] #[true, true, true, true, true, true, true, true, true, true, true, true, true, true, true, true, true, true, true, true, true, true, true, true, true, true, true, true, true, true] rfl (by kernel_rfl) (by kernel_rfl) rfl (by kernel_rfl) (by kernel_rfl) (by intro c a a' w e h; obtain ⟨t, d⟩ := a; obtain ⟨t', d'⟩ := a'; obtain rfl : d = d' := e; exact h) ?_
              simp only [pickB]
              repeat (go_big_quiet_step (fail))
              refine wpQuiet_nil ?_
              refine held_done (by kernel_rfl) ?_
              go_wp2_with fail
              go_meet
              exact ⟨l', rfl, hF2, Lib.hid ((H8.out.arrN [1, 0] rfl).drops 2)⟩
            · by_cases k3 : kind = 3
              · subst k3
                clear q0 q1 k01 k2
                clear HC1 hcl
                obtain ⟨qa, qc, HP⟩ := refF_parts (H3.front 1 rfl)
                have HP2 : St w none0 _ [flightA f l, cellA q [.slice qa l.length qc], rowA 3 (.slice qa l.length qc) l.length (encUs l)] := (HP.arrN [2, 0, 1] rfl).drops 3
                have HC1 : St w none0 _ [cellA q [.slice qa l.length qc]] := HP.drops 1
                have hcl : ∀ (s : Cls w none0 [cellA q [.slice qa l.length qc]]) (o : Nat), s.it.cell? ⟨q, o, none⟩ = [Value.slice qa l.length qc][o]? := fun s => (s.st.box 0 rfl).cells
                have P := drop_st hF.out HP2.drew
                clear H3 HP
                replace HP2 := Lib.hid HP2; replace HC1 := Lib.hid HC1
                go_wp2_with fail
                haveI := St.ne HC1.out
                refine wp_region_madeC HC1.out [0, 2, 3, 4, 5, 6] [true, false, true, true, true, true, true, false, false, false, false, false, false, false] 8 #[true, false, true, true, true, true, true, false, false, false, false, false, false, false] (by kernel_rfl) rfl (by kernel_rfl) (by kernel_rfl) rfl (by kernel_rfl) (by kernel_rfl) (by intro c a a' w e h; obtain ⟨t, d⟩ := a; obtain ⟨t', d'⟩ := a'; obtain rfl : d = d' := e; exact h) ?_
                simp only [pickB]
                repeat (go_big_quiet_step (fail))
                refine wpQuiet_nil ?_
                refine held_one (i := 1) (by kernel_rfl) fun K hK => ?_
                simp only [List.drop_succ_cons, List.drop_zero, List.take_succ_cons, List.take_zero]
                go_wp2_with fail
                refine Calls.mono P ?_
                rintro e w4 ⟨rfl, H4⟩
                have HC4 : St w none0 w4 [cellA q [.slice qa l.length qc]] := (H4.arr [1, 0, 2] rfl).drops 1
                clear P
                replace HC4 := Lib.hid HC4; replace H4 := Lib.hid H4
                go_wp2_with fail
                refine hK _ _ HC4.out ?_
                clear hK K
                have eL : ((l.length : Int) == (l.length : Int)) = true := by simp
                haveI := St.ne HC4.out
                refine calmC HC4.out [7, 8, 9] [false, false, false, false, false, false, false, true, true, true, false, false, false, false] 4 7 #[true, true, true, true, true, true, true, false, false, false, false, false, false, false] #[true, true, true, true, true, true, true, true, true, true, false, false, false, false] rfl (by kernel_rfl) (by kernel_rfl) rfl (by kernel_rfl) (by kernel_rfl) (by intro c a a' w e h; obtain ⟨t, d⟩ := a; obtain ⟨t', d'⟩ := a'; obtain rfl : d = d' := e; exact h) ?_
                simp only [pickB]
                repeat (go_big_quiet_step (fail))
                refine wpQuiet_nil ?_
                refine held_one (i := 10) (by kernel_rfl) fun K hK => ?_
                simp only [List.drop_succ_cons, List.drop_zero, List.take_succ_cons, List.take_zero]
                go_wp2_with fail
                refine Calls.mono (drop_none _) ?_
                rintro e w5 ⟨rfl, hb5⟩
                have H5 := H4.out.thru hb5
                have HC5 := Lib.hid (HC4.out.thru hb5)
                go_wp2_with fail
                refine hK _ _ HC5.out ?_
                clear hK K
                haveI := St.ne HC5.out
                refine calmC HC5.out [11, 12, 13] [false, false, false, false, false, false, false, false, false, false, false, true, true, true] 0 3 #[true, true, true, true, true, true, true, true, true, true, true, false, false, false] #[true, true, true, true, true, true, true, true, true, true, true, true, true, true] rfl (by kernel_rfl) (by kernel_rfl) rfl (by kernel_rfl) (by kernel_rfl) (by intro c a a' w e h; obtain ⟨t, d⟩ := a; obtain ⟨t', d'⟩ := a'; obtain rfl : d = d' := e; exact h) ?_
                simp only [pickB]
                repeat (go_big_quiet_step (fail))
                refine wpQuiet_nil ?_
                refine held_done (by kernel_rfl) ?_
                obtain ⟨zq, cq, fq⟩ := H5.box 1 rfl
                have H6 := (H5.set 1 rfl 0 (.slice none 0 0) (by simp)).row_nil (size := 3)
                replace H5 := Lib.hid H5
                replace H6 := Lib.hid H6
                go_wp2_with fail
                go_meet
                exact ⟨[], rfl, Lib.hid fine_nil, Lib.hid (((refF_shut (l := []) (H6.out.arrN [1, 0, 2, 3] rfl)).arrN [1, 0] rfl).drops 2)⟩
              · have q2 : (kind == 2) = false := by simp; omega
                have q3 : (kind == 3) = false := by simp; omega
                replace H3 := Lib.hid H3
                clear k01 k2 k3
                go_wp2_with fail
                go_meet
                exact ⟨l, rfl, hF, Lib.hid (H3.out.drops 2)⟩
        case rest =>
          obtain ⟨l', rfl, hF', HT⟩ := hcut
          clear H3 HC1 hcl hF e0 e1 e2 e3 hrd hruns
          cases l' with
          | nil =>
            have P := old_st HT.out
            unfold oldV at P
            simp only [List.head?_nil, List.head?_cons, Option.map_none, Option.map_some, Option.getD_none, Option.getD_some, List.isEmpty_nil, List.isEmpty_cons, Bool.not_true, Bool.not_false] at P
            replace P := Lib.hid P
            go_wp2_with fail
            refine Calls.mono P.out ?_
            rintro e w4 ⟨rfl, hb4⟩
            have H4 := Lib.hid (HT.out.thru hb4)
            clear P HT
            go_wp2_with fail
            refine Calls.mono (old_none _) ?_
            rintro e w5 ⟨rfl, hb5⟩
            have H5 := Lib.hid (H4.out.thru hb5)
            clear H4
            obtain ⟨qa, qc, HP⟩ := refF_parts (H5.out.front 1 rfl)
            obtain ⟨zq, cq, fq⟩ := HP.box 0 rfl
            have PP := fun (s : Near w5.heap.size w5) => pipe_st (H5.out.thruB (by simp) (Near.near s))
            simp only [List.length_nil] at cq PP
            clear HP
            replace PP := Lib.hid PP
            go_wp2_with fail
            refine wp_region_near (by kernel_rfl) (by kernel_rfl) ?_
            intro hs
            repeat (go_big_quiet_step ((first | (go_at_call 35; exact Calls.near (by simp) (PP.out _)) | (go_at_call 35; exact Calls.near (by simp) (pipe_none _)))))
            refine wpQuiet_nil ?_
            clear hs
            intro w9 hb9
            have H9 := Lib.hid (H5.out.thruB (by simp) hb9)
            clear H5 PP
            go_wp2_with fail
            go_roundg (len0 - (j + 1))
            case measure => have := hg.out; omega
            case rel => exact ⟨j + 1, [], by omega, Lib.hid rfl, by go_num, hF', H9.out⟩
          | cons u lt =>
            have P := old_st HT.out
            unfold oldV at P
            simp only [List.head?_nil, List.head?_cons, Option.map_none, Option.map_some, Option.getD_none, Option.getD_some, List.isEmpty_nil, List.isEmpty_cons, Bool.not_true, Bool.not_false] at P
            replace P := Lib.hid P
            go_wp2_with fail
            refine Calls.mono P.out ?_
            rintro e w4 ⟨rfl, hb4⟩
            have H4 := Lib.hid (HT.out.thru hb4)
            clear P HT
            go_wp2_with fail
            refine Calls.mono (old_none _) ?_
            rintro e w5 ⟨rfl, hb5⟩
            have H5 := Lib.hid (H4.out.thru hb5)
            clear H4
            obtain ⟨qa, qc, HP⟩ := refF_parts (H5.out.front 1 rfl)
            obtain ⟨zq, cq, fq⟩ := HP.box 0 rfl
            have PP := fun (s : Near w5.heap.size w5) => pipe_st (H5.out.thruB (by simp) (Near.near s))
            obtain ⟨g3, o3, rfl, hg3, _, e1, _, _⟩ := un_row HP (k := 1) rfl (j := 0) (by simp)
            simp only [Nat.zero_mul, Nat.add_zero, List.getElem_cons_zero] at e1
            obtain ⟨m, hm⟩ : ∃ m, m = (u :: lt).length := ⟨_, rfl⟩
            have hm0 : 0 < m := by rw [hm]; simp
            rw [← hm] at cq PP
            have qp : decide ((0 : Int) < (m : Int)) = true := decide_eq_true (by omega)
            have eL : ((m : Int) != (m : Int)) = false := by simp
            have eA : (u.at_ != u.at_) = false := by simp
            clear HP
            replace hm := Lib.hid hm
            replace PP := Lib.hid PP
            go_wp2_with fail
            refine wp_region_near (by kernel_rfl) (by kernel_rfl) ?_
            intro hs
            repeat (go_big_quiet_step ((first | (go_at_call 35; exact Calls.near (by simp) (PP.out _)) | (go_at_call 35; exact Calls.near (by simp) (pipe_none _)))))
            refine wpQuiet_nil ?_
            clear hs
            intro w9 hb9
            have H9 := Lib.hid (H5.out.thruB (by simp) hb9)
            clear H5 PP
            go_wp2_with fail
            go_roundg (len0 - (j + 1))
            case measure => have := hg.out; omega
            case rel => exact ⟨j + 1, u :: lt, by omega, Lib.hid rfl, by go_num, hF', H9.out⟩
      · replace HL := Lib.hid HL
        go_wp2_with fail
        go_ret
        exact Ret.mk rfl (St.below HL.out.out)
end Go.Proofs.Ytljgmephajocaaa.Flight
