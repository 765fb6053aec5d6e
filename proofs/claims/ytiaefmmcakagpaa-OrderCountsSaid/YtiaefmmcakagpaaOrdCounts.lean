/- The walk of OrderCounts: nothing is lost uncounted. -/
import Derived.Test.YtiaefmmcakagpaaOrdDoes
namespace Go.Proofs.Ytiaefmmcakagpaa.Ord
set_option linter.unusedSimpArgs false
set_option linter.unusedVariables false
open Go Go.RowKit Go.Shelf Go.Proofs.Ytiaefmmcakagpaa Go.Proofs.Ytiaefmmcakagpaa.Sift Go.Proofs.Ytiaefmmcakagpaa.Hold
open Go.Proofs.Ytiaefmmcakagpaa.DockWait (El enc val encs placed headV)
attribute [local irreducible] Calls

set_option maxRecDepth 200000 in
set_option maxHeartbeats 4000000 in
theorem counts_walk (a0 : Int) (w0 : (Lit.int .u8 a0).wf = true) (a1 : Option Addr) (len1 cap1 : Nat) (w : World) (h1 : Fits w (.slice 7 (.cons 1 (.int .i64) (.cons 1 (.int .i64) (.cons 2 (.cons 1 (.int .i64) (.cons 1 .str .nil)) (.cons 1 (.slice 1 (.int .i64)) (.cons 2 (.cons 1 (.int .i64) (.cons 1 (.int .i64) .nil)) .nil)))))) [.slice a1 len1 cap1]) :
    Calls Try.prog 7 #[.int .u8 a0, .slice a1 len1 cap1] w (Ret w (.bool true)) := by
  obtain ⟨hu0, hu1⟩ := bounds_u8 w0
  obtain ⟨hmax, L, hL, hgood, hR⟩ := oos_in h1
  have PG := fun w' (hb : Below w.heap.size w w') => great_any L len1 hL hmax hgood a1 cap1 w' (hR.below hb)
  have hch : checkF (a0 % 3) (a0 % 61) = 0 := by unfold checkF; rw [if_neg (by omega), if_neg (by omega)]
  have PO := fun w' => new_ok (a0 % 3) (a0 % 61) hch w'
  obtain ⟨m, hm⟩ : ∃ m, m = a0 % 3 := ⟨_, rfl⟩
  obtain ⟨h, hh⟩ : ∃ h, h = a0 % 61 := ⟨_, rfl⟩
  clear h1 w0 hch
  replace hL := Lib.hid hL; replace hgood := Lib.hid hgood; replace hR := Lib.hid hR; replace PG := Lib.hid PG; replace PO := Lib.hid PO; replace hm := Lib.hid hm; replace hh := Lib.hid hh
  go_enter Try.func7, Try.ntmps7
  go_wp2_with fail
  refine Calls.mono (works_law _) ?_
  rintro e w1 ⟨rfl, hb1⟩
  have z1 := Below.size hb1; try simp only [World.size_alloc, World.size_setCell, World.size_drew] at z1
  go_wp2_with fail
  refine Calls.mono (PG.out w1 hb1) ?_
  rintro e w2 ⟨gb, rfl, hb2, hgn⟩
  clear PG
  cases gb with
  | true =>
    clear hgn
    go_wp2_with fail
    go_ret
    exact Ret.mk rfl (Below.thru hb1 hb2)
  | false =>
    obtain ⟨hn150, htr⟩ := hgn rfl
    have H2 := ((St.zero w).thru hb1).thru hb2
    clear hgn hb1 hb2
    replace H2 := Lib.hid H2; replace htr := Lib.hid htr
    go_wp2_with fail
    refine Calls.mono (PO.out _) ?_
    rintro e w3 ⟨o, rfl, H3⟩
    obtain ⟨s, k, H4⟩ := order_P (H2.out.add H3)
    have H5 : St w none0 w3 [orderP o s k (new0 (a0 % 3) (a0 % 61))] := H4
    clear PO H2 H3 H4
    replace H5 := Lib.hid H5
    go_wp2_with fail
    go_loopg [7, 8, 9, 10, 11, 12] len1 (fun g v7 v8 _ _ _ _ wr => ∃ (i : Nat) (x : Or) (last : Int), i ≤ len1 ∧ Hid (g = len1 - i) ∧ v8 = .int .i64 i ∧ v7 = .int .i64 last ∧ 0 ≤ last ∧ Hid (Good x i last) ∧ Hid (St w none0 wr [orderP o s k x]))
    case atStart => exact ⟨0, _, 0, by omega, Lib.hid rfl, rfl, rfl, Int.le_refl _, Lib.hid (good_new (a0 % 3) (a0 % 61)), H5⟩
    case round =>
      obtain ⟨i, x, last, hi, hg, rfl, rfl, hl0, hgx, hst⟩ := hrel
      clear H5
      by_cases hlt : i < len1
      · have hil : i < L.length := by have := hL.out; omega
        obtain ⟨b, off, rfl, hb, hc⟩ := oos_at (hR.out.below (St.below hst.out)) hil
        have hp := hgood.out L[i] (List.getElem_mem hil)
        have hp20 := htr.out L[i] (List.getElem_mem hil)
        have hpR : ∀ w' l', St w none0 w' l' → RdT w' L[i] := fun w' l' hw' => (hR.out.below (St.below hw')).2 _ (List.getElem_mem hil)
        generalize L[i] = p at *
        have g0 := hc 0 _ rfl
        have g1 := hc 1 _ rfl
        have g2 := hc 2 _ rfl
        have g3 := hc 3 _ rfl
        have g4 := hc 4 _ rfl
        have g5 := hc 5 _ rfl
        have g6 := hc 6 _ rfl
        obtain ⟨kind, own, num, dat, trips, a, cap, mode, hold⟩ := p
        simp only [Nat.add_zero] at g0 g1 g2 g3 g4 g5 g6
        have H1 : St w none0 _ [orderP o s k x, cellA wr.heap.size [.int .i64 kind, .int .i64 own, .int .i64 num, .string dat, .slice a trips.length cap, .int .i64 mode, .int .i64 hold]] := (hst.out.alloc [.int .i64 kind, .int .i64 own, .int .i64 num, .string dat, .slice a trips.length cap, .int .i64 mode, .int .i64 hold] 70).arr [1, 0] rfl
        have hq1 : (i : Int) < len1 := by omega
        clear hc hst
        replace H1 := Lib.hid H1; replace hp := Lib.hid hp; replace hpR := Lib.hid hpR
        go_upto_if 42 with fail
        go_cut [7, 10, 11] (fun v7 _ _ wx => ∃ (X : Or) (last' : Int), v7 = .int .i64 last' ∧ 0 ≤ last' ∧ Hid (Good X (i + 1) last') ∧ Hid (St w none0 wx [orderP o s k X]))
        case first =>
          by_cases h5 : kind = 5
          · subst h5
            have P := recv_st o s k x hgx.out (by omega) H1.out
            have hgr := hgx.out.recv.more (k' := i + 1) (by omega)
            have hll := fun d t (e : x.rdy = d :: t) => hgx.out.recv_last e
            have hgl := fun d t (e : x.rdy = d :: t) => hgx.out.rc d (by rw [e]; simp)
            clear H1
            cases hx : x.rdy with
            | nil =>
              rw [hx, show recvD x = (0, ⟨#[]⟩) from by unfold recvD; rw [hx]] at P
              generalize recvS x = X at *
              clear hll hgl hx
              replace P := Lib.hid P; replace hgr := Lib.hid hgr
              go_wp2_with fail
              refine Calls.mono P.out ?_
              rintro e w5 ⟨rfl, H6⟩
              have H7 := (H6.skip (.cells #[.int .i64 0, .string ⟨#[]⟩] 45)).drops 1
              have hmx : max last 0 = last := by omega
              clear P H6
              replace H7 := Lib.hid H7
              go_wp2_with fail
              go_meet
              exact ⟨X, _, rfl, by omega, hgr, H7⟩
            | cons d t =>
              rw [hx, show recvD x = d from by unfold recvD; rw [hx]] at P
              have hg1 := (hll d t hx).more (k' := i + 1) (by omega)
              have hg2 := (hgl d t hx).1
              generalize recvS x = X at *
              clear hll hgl hx hgr
              obtain ⟨d1, d2⟩ := d
              simp only at P hg1 hg2
              have q0 : decide (d1 ≤ last) = false := decide_eq_false (by omega)
              replace P := Lib.hid P; replace hg1 := Lib.hid hg1
              go_wp2_with fail
              refine Calls.mono P.out ?_
              rintro e w5 ⟨rfl, H6⟩
              have H7 := (H6.skip (.cells #[.int .i64 d1, .string d2] 45)).drops 1
              have hmx : max last d1 = d1 := by omega
              clear P H6
              replace H7 := Lib.hid H7
              go_wp2_with fail
              go_meet
              exact ⟨X, _, rfl, by omega, hg1, H7⟩
          · have q5 : (kind == 5) = false := by simpa using h5
            have q5' : decide (kind = 5) = false := decide_eq_false h5
            have HC : St w none0 _ [cellA wr.heap.size [.int .i64 kind, .int .i64 own, .int .i64 num, .string dat, .slice a trips.length cap, .int .i64 mode, .int .i64 hold]] := (H1.out.arr [1, 0] rfl).drops 1
            have hcl : ∀ (s' : Cls w none0 [cellA wr.heap.size [.int .i64 kind, .int .i64 own, .int .i64 num, .string dat, .slice a trips.length cap, .int .i64 mode, .int .i64 hold]]) (i : Nat), s'.it.cell? ⟨wr.heap.size, i, none⟩ = [Value.int .i64 kind, .int .i64 own, .int .i64 num, .string dat, .slice a trips.length cap, .int .i64 mode, .int .i64 hold][i]? := fun s' => (s'.st.box 0 rfl).cells
            have H1' := H1.out.drew
            clear H1
            replace HC := Lib.hid HC; replace H1' := Lib.hid H1'
            go_wp2_with fail
            haveI := St.ne HC.out
            refine wp_region_madeC HC.out [0, 1, 3] [true, true, false, true, false] 2 #[true, true, false, true, false] (by kernel_rfl) rfl (by kernel_rfl) (by kernel_rfl) rfl (by kernel_rfl) (by kernel_rfl) (by intro c a a' w e h; obtain ⟨t, d⟩ := a; obtain ⟨t', d'⟩ := a'; obtain rfl : d = d' := e; exact h) ?_
            simp only [pickB]
            repeat (go_big_quiet_step (fail))
            refine wpQuiet_nil ?_
            refine held_one (i := 2) (by kernel_rfl) fun K hK => ?_
            simp only [List.drop_succ_cons, List.drop_zero, List.take_succ_cons, List.take_zero]
            go_wp2_with fail
            refine Calls.mono (rnew_any 0 0 _) ?_
            rintro e w4 ⟨q, t, rfl, H4⟩
            have H5 : St w none0 w4 [orderP o s k x, rordP q t (new0 0 0), cellA wr.heap.size [.int .i64 kind, .int .i64 own, .int .i64 num, .string dat, .slice a trips.length cap, .int .i64 mode, .int .i64 hold]] := (H1'.out.add H4).arr [1, 0, 2] rfl
            have HC5 := (H5.arr [2, 0, 1] rfl).drops 1
            have P := step_st o s k q t x (new0 0 0) ⟨kind, own, num, dat, trips, a, cap, mode, hold⟩ hgx.out (good_new 0 0) (by omega) (by omega) hp.out hp20 (fun w' h => hpR.out w' _ h) H5
            have hgX := hgx.out.step ⟨kind, own, num, dat, trips, a, cap, mode, hold⟩
            generalize stepS x ⟨kind, own, num, dat, trips, a, cap, mode, hold⟩ = X at *
            simp only at P
            clear H1' H4 H5
            replace P := Lib.hid P; replace hgX := Lib.hid hgX; replace HC5 := Lib.hid HC5
            go_wp2_with fail
            refine hK _ _ HC5.out ?_
            clear hK K
            refine held_one (i := 4) (by kernel_rfl) fun K hK => ?_
            simp only [List.drop_succ_cons, List.drop_zero, List.take_succ_cons, List.take_zero]
            go_wp2_with fail
            refine Calls.mono P.out ?_
            rintro e w5 ⟨bb, rfl, _, H6⟩
            have HC6 := (H6.arr [2, 0, 1] rfl).drops 1
            have H7 := H6.drops 1
            clear P H6
            replace H7 := Lib.hid H7; replace HC6 := Lib.hid HC6
            go_wp2_with fail
            refine hK _ _ HC6.out ?_
            clear hK K
            refine held_done (by kernel_rfl) ?_
            go_wp2_with fail
            go_meet
            exact ⟨X, last, rfl, by omega, hgX, H7⟩
        case rest =>
          obtain ⟨X, last', rfl, hl0', hgX, hst⟩ := hcut
          clear H1 g0 g1 g2 g3 g4 g5 g6 hp hpR hgx
          have P := counts_st hgX.out (by omega) hst.out
          have h2 := hgX.out.sum
          have h3 := hgX.out.cur
          have h4 := hgX.out.len
          have h5 := hgX.out.rlen
          have h6 := hgX.out.bds
          have h7 := hgX.out.ok.c1
          have h8 := hgX.out.ok.c0
          have h9 := hgX.out.s0
          have h10 := hgX.out.g0
          have h11 := hgX.out.r0
          unfold top at h7
          have hgX' : Hid (Good X (i + 1) last') := hgX
          unfold cntV at P
          have hstw : Hid (St w none0 wc [orderP o s k X]) := hst
          obtain ⟨X1, X2, X3, X4, X5, X6, X7, X8, X9, X10, X11⟩ := X
          simp only at h2 h3 h4 h5 h6 h7 h8 h9 h10 h11 P
          subst h2
          have q1 : decide (X9 - X4 < 0) = false := decide_eq_false (by omega)
          have q2 : decide ((32 : Int) < (X11.length : Int)) = false := decide_eq_false (by omega)
          have q3 : decide ((32 : Int) < (X10.length : Int)) = false := decide_eq_false (by omega)
          clear hgX
          replace P := Lib.hid P
          go_wp2_with fail
          refine Calls.mono (P.out) ?_
          rintro e w5 ⟨rfl, hb5⟩
          have z5 := Below.size hb5; try simp only [World.size_alloc, World.size_setCell, World.size_drew] at z5
          have H6 := (hst.out.thru hb5).skip (.cells #[.int .i64 (X6 + X8 + X7 + X11.length + X10.length), .int .i64 X6, .int .i64 X7, .int .i64 X8, .int .i64 (X9 - X4)] 75)
          have PW := fun (s' : Near (w5.alloc (.cells #[.int .i64 (X6 + X8 + X7 + X11.length + X10.length), .int .i64 X6, .int .i64 X7, .int .i64 X8, .int .i64 (X9 - X4)] 75)).heap.size (w5.alloc (.cells #[.int .i64 (X6 + X8 + X7 + X11.length + X10.length), .int .i64 X6, .int .i64 X7, .int .i64 X8, .int .i64 (X9 - X4)] 75))) => waits_st (H6.thruB (by simp) (Near.near s'))
          have PR := fun (s' : Near (w5.alloc (.cells #[.int .i64 (X6 + X8 + X7 + X11.length + X10.length), .int .i64 X6, .int .i64 X7, .int .i64 X8, .int .i64 (X9 - X4)] 75)).heap.size (w5.alloc (.cells #[.int .i64 (X6 + X8 + X7 + X11.length + X10.length), .int .i64 X6, .int .i64 X7, .int .i64 X8, .int .i64 (X9 - X4)] 75))) => ready_st (H6.thruB (by simp) (Near.near s'))
          simp only at PW PR
          clear P hst hstw
          replace PW := Lib.hid PW; replace PR := Lib.hid PR; replace H6 := Lib.hid H6
          go_wp2_with fail
          refine wp_region_near (by kernel_rfl) (by kernel_rfl) ?_
          intro hs
          repeat (go_big_quiet_step ((first | (go_at_call 35; exact Calls.near (by simp) (PW.out _)) | (go_at_call 40; exact Calls.near (by simp) (PR.out _)))))
          refine wpQuiet_nil ?_
          clear hs
          intro w6 hb6
          have H7 := H6.out.thru hb6
          clear PW PR H6
          replace H7 := Lib.hid H7
          go_wp2_with fail
          go_roundg (len1 - (i + 1))
          case measure => have := hg.out; omega
          case rel => exact ⟨i + 1, _, last', by omega, Lib.hid rfl, by go_num, rfl, by omega, hgX', H7⟩
      · go_wp2_with fail
        go_ret
        exact hst.out.ret rfl
end Go.Proofs.Ytiaefmmcakagpaa.Ord
