/- The walk of OrderHeld: nothing waits longer than MaxHold ticks. -/
import Derived.Test.YtiaefmmcakagpaaOrdDoes
import Derived.Test.YtiaefmmcakagpaaOrdPlain
namespace Go.Proofs.Ytiaefmmcakagpaa.Ord
set_option linter.unusedSimpArgs false
set_option linter.unusedVariables false
open Go Go.RowKit Go.Shelf Go.Proofs.Ytiaefmmcakagpaa Go.Proofs.Ytiaefmmcakagpaa.Sift Go.Proofs.Ytiaefmmcakagpaa.Hold
open Go.Proofs.Ytiaefmmcakagpaa.DockWait (El enc val encs placed headV)
attribute [local irreducible] Calls

set_option maxRecDepth 200000 in
set_option maxHeartbeats 4000000 in
theorem held_walk (a0 : Int) (w0 : (Lit.int .u8 a0).wf = true) (a1 : Bool) (a2 : Option Addr) (len2 cap2 : Nat) (w : World) (h2 : Fits w (.slice 7 (.cons 1 (.int .i64) (.cons 1 (.int .i64) (.cons 2 (.cons 1 (.int .i64) (.cons 1 .str .nil)) (.cons 1 (.slice 1 (.int .i64)) (.cons 2 (.cons 1 (.int .i64) (.cons 1 (.int .i64) .nil)) .nil)))))) [.slice a2 len2 cap2]) :
    Calls Try.prog 9 #[.int .u8 a0, .bool a1, .slice a2 len2 cap2] w (Ret w (.bool true)) := by
  obtain ⟨hu0, hu1⟩ := bounds_u8 w0
  obtain ⟨hmax, L, hL, hgood, hR⟩ := oos_in h2
  have PG := fun w' (hb : Below w.heap.size w w') => great_any L len2 hL hmax hgood a2 cap2 w' (hR.below hb)
  have hch : checkF (a0 % 3) (a0 % 61) = 0 := by unfold checkF; rw [if_neg (by omega), if_neg (by omega)]
  have PO := fun w' => new_ok (a0 % 3) (a0 % 61) hch w'
  clear h2 w0 hch
  replace hL := Lib.hid hL; replace hgood := Lib.hid hgood; replace hR := Lib.hid hR; replace PG := Lib.hid PG; replace PO := Lib.hid PO
  go_enter Try.func9, Try.ntmps9
  go_wp2_with fail
  refine Calls.mono (works_law _) ?_
  rintro e w1 ⟨rfl, hb1⟩
  have z1 := Below.size hb1; try simp only [World.size_alloc, World.size_setCell, World.size_drew] at z1
  go_wp2_with fail
  refine Calls.mono (PG.out w1 hb1) ?_
  rintro e w2 ⟨gb, rfl, hb2, hgn⟩
  clear PG
  cases gb with
  | true =>
    clear hgn
    go_wp2_with fail
    go_ret
    exact Ret.mk rfl (Below.thru hb1 hb2)
  | false =>
    obtain ⟨hn150, htr⟩ := hgn rfl
    have H2 := ((St.zero w).thru hb1).thru hb2
    clear hgn hb1 hb2
    replace H2 := Lib.hid H2; replace htr := Lib.hid htr
    go_wp2_with fail
    refine Calls.mono (PO.out _) ?_
    rintro e w3 ⟨o, rfl, H3⟩
    obtain ⟨s, k, H4⟩ := order_P (H2.out.add H3)
    have H5 : St w none0 w3 [orderP o s k (new0 (a0 % 3) (a0 % 61))] := H4
    clear PO H2 H3 H4
    replace H5 := Lib.hid H5
    go_wp2_with fail
    go_loopg [9] len2 (fun g v9 wr => ∃ (i : Nat) (x : Or), i ≤ len2 ∧ Hid (g = len2 - i) ∧ v9 = .int .i64 i ∧ Hid (Good x i 0) ∧ Hid (Fresh x i) ∧ Hid (St w none0 wr [orderP o s k x]))
    case atStart => exact ⟨0, _, by omega, Lib.hid rfl, rfl, Lib.hid (good_new (a0 % 3) (a0 % 61)), Lib.hid (fresh_new _ _), H5⟩
    case round =>
      obtain ⟨i, x, hi, hg, rfl, hgx, hfx, hst⟩ := hrel
      clear H5
      by_cases hlt : i < len2
      · have hil : i < L.length := by have := hL.out; omega
        have hRR := fun (s' : Cls w none0 []) => oos_at (hR.out.below (St.below s'.st)) hil
        obtain ⟨b, off, e, _⟩ := oos_at (hR.out.below (St.below hst.out)) hil
        have hcl : ∀ (s' : Cls w none0 []) (j : Nat) v, (encO L[i])[j]? = some v → s'.it.cell? ⟨b, off + i * 7 + j, none⟩ = some v := fun s' j v hv => by
          obtain ⟨b', off', e', _, hc'⟩ := hRR s'
          rw [e] at e'
          cases e'
          exact hc' j v hv
        subst e
        have hp := hgood.out L[i] (List.getElem_mem hil)
        have hp20 := htr.out L[i] (List.getElem_mem hil)
        have hpR : ∀ w' l', St w none0 w' l' → RdT w' L[i] := fun w' l' hw' => (hR.out.below (St.below hw')).2 _ (List.getElem_mem hil)
        clear hRR
        generalize L[i] = p at *
        have hgX := hgx.out.step p
        have hfX := hfx.out.step hgx.out p
        have PS := fun (q t : Nat) w' (h : St w none0 w' [orderP o s k x, rordP q t (new0 0 0)]) => step_st o s k q t x (new0 0 0) p hgx.out (good_new 0 0) (by omega) (by omega) hp hp20 (fun w' h => hpR w' _ h) h
        generalize stepS x p = X at *
        obtain ⟨kind, own, num, dat, trips, a, cap, mode, hold⟩ := p
        have g0 := fun s' => hcl s' 0 _ rfl
        have g1 := fun s' => hcl s' 1 _ rfl
        have g2 := fun s' => hcl s' 2 _ rfl
        have g3 := fun s' => hcl s' 3 _ rfl
        have g4 := fun s' => hcl s' 4 _ rfl
        have g5 := fun s' => hcl s' 5 _ rfl
        have g6 := fun s' => hcl s' 6 _ rfl
        simp only [Nat.add_zero] at g0 g1 g2 g3 g4 g5 g6 PS
        have HC : St w none0 wr [] := hst.out.drops 0
        have Hd := hst.out.drew
        have hq1 : (i : Int) < len2 := by omega
        clear hcl hp hpR hst
        replace PS := Lib.hid PS; replace HC := Lib.hid HC; replace hgX := Lib.hid hgX; replace hfX := Lib.hid hfX; replace Hd := Lib.hid Hd
        go_wp2_with fail
        haveI := St.ne HC.out
        refine wp_region_madeC HC.out [0, 1, 3, 4, 5, 6] [true, true, false, true, true, true, true, false] 2 #[true, true, false, true, true, true, true, false] (by kernel_rfl) rfl (by kernel_rfl) (by kernel_rfl) rfl (by kernel_rfl) (by kernel_rfl) (by intro c a a' w e h; obtain ⟨t, d⟩ := a; obtain ⟨t', d'⟩ := a'; obtain rfl : d = d' := e; exact h) ?_
        simp only [pickB]
        repeat (go_big_quiet_step (fail))
        refine wpQuiet_nil ?_
        refine held_one (i := 2) (by kernel_rfl) fun K hK => ?_
        simp only [List.drop_succ_cons, List.drop_zero, List.take_succ_cons, List.take_zero]
        go_wp2_with fail
        refine Calls.mono (rnew_any 0 0 _) ?_
        rintro e w4 ⟨q, t, rfl, H4⟩
        have H5 : St w none0 w4 [orderP o s k x, rordP q t (new0 0 0)] := (Hd.out.add H4).arr [1, 0] rfl
        have HC5 := H5.drops 0
        have P := PS.out q t w4 H5
        clear Hd H4 H5 PS
        replace P := Lib.hid P; replace HC5 := Lib.hid HC5
        go_wp2_with fail
        refine hK _ _ HC5.out ?_
        clear hK K
        refine held_one (i := 7) (by kernel_rfl) fun K hK => ?_
        simp only [List.drop_succ_cons, List.drop_zero, List.take_succ_cons, List.take_zero]
        go_wp2_with fail
        refine Calls.mono P.out ?_
        rintro e w5 ⟨bb, rfl, _, H6⟩
        have HC6 := H6.drops 0
        have H7 := H6.drops 1
        clear P H6
        replace H7 := Lib.hid H7; replace HC6 := Lib.hid HC6
        go_wp2_with fail
        refine hK _ _ HC6.out ?_
        clear hK K
        refine held_done (by kernel_rfl) ?_
        go_wp2_with fail
        go_roundg (len2 - (i + 1))
        case measure => have := hg.out; omega
        case rel => exact ⟨i + 1, X, by omega, Lib.hid rfl, by go_num, hgX, hfX, H7⟩
      · obtain rfl : i = len2 := by omega
        have P := waits_st hst.out
        replace P := Lib.hid P
        go_wp2_with fail
        refine Calls.mono (P.out) ?_
        rintro e w4 ⟨rfl, hb4⟩
        have z4 := Below.size hb4; try simp only [World.size_alloc, World.size_setCell, World.size_drew] at z4
        have H4 := hst.out.thru hb4
        clear P hst
        cases a1 with
        | true =>
          have P := flush_st o s k x hgx.out (by omega) H4
          obtain ⟨hyl, hfl2⟩ := flush_all hgx.out
          rw [hfl2] at P
          generalize flushS x = y at *
          have hwl := hgx.out.len
          generalize x.l.length = nw at *
          clear H4 hfl2
          replace P := Lib.hid P; replace hyl := Lib.hid hyl
          go_wp2_with fail
          refine Calls.mono P.out ?_
          rintro e w5 ⟨rfl, H5⟩
          clear P
          replace H5 := Lib.hid H5
          go_wp2_with fail
          go_loopg [11, 12] 0 (fun g v11 v12 wr => g = 0 ∧ v12 = .int .i64 0 ∧ v11 = .int .i64 nw ∧ Hid (St w none0 wr [orderP o s k y]))
          case atStart => exact ⟨rfl, rfl, rfl, H5⟩
          case round =>
            obtain ⟨_, rfl, rfl, H4⟩ := hrel
            clear H5
            go_wp2_with fail
            refine Calls.mono (recv_none _) ?_
            rintro e w5 ⟨rfl, hb5⟩
            have z5 := Below.size hb5; try simp only [World.size_alloc, World.size_setCell, World.size_drew] at z5
            have H5 := (H4.out.thru hb5).skip (.cells #[.int .i64 0, .string ⟨#[]⟩] 45)
            clear H4
            replace H5 := Lib.hid H5
            go_wp2_with fail
            refine Calls.mono (take_none (1, ⟨#[]⟩) 0 (.slice none 0 0) _) ?_
            rintro e w6 ⟨rfl, hb6⟩
            have z6 := Below.size hb6; try simp only [World.size_alloc, World.size_setCell, World.size_drew] at z6
            have H6 := H5.out.thru hb6
            clear H5
            replace H6 := Lib.hid H6
            go_wp2_with fail
            refine Calls.mono (set_none 0 0 _) ?_
            rintro e w7 ⟨rfl, hb7⟩
            have z7 := Below.size hb7; try simp only [World.size_alloc, World.size_setCell, World.size_drew] at z7
            have H7 := H6.out.thru hb7
            clear H6
            replace H7 := Lib.hid H7
            go_wp2_with fail
            refine Calls.mono (tick_none _) ?_
            rintro e w8 ⟨rfl, hb8⟩
            have z8 := Below.size hb8; try simp only [World.size_alloc, World.size_setCell, World.size_drew] at z8
            have H8 := H7.out.thru hb8
            clear H7
            replace H8 := Lib.hid H8
            go_wp2_with fail
            refine Calls.mono (flush_none _) ?_
            rintro e w9 ⟨rfl, hb9⟩
            have z9 := Below.size hb9; try simp only [World.size_alloc, World.size_setCell, World.size_drew] at z9
            have H9 := H8.out.thru hb9
            clear H8
            replace H9 := Lib.hid H9
            go_wp2_with fail
            refine Calls.mono (waits_none _) ?_
            rintro e w10 ⟨rfl, hb10⟩
            have z10 := Below.size hb10; try simp only [World.size_alloc, World.size_setCell, World.size_drew] at z10
            have H10 := H9.out.thru hb10
            clear H9
            replace H10 := Lib.hid H10
            go_wp2_with fail
            refine Calls.mono (ready_none _) ?_
            rintro e w11 ⟨rfl, hb11⟩
            have z11 := Below.size hb11; try simp only [World.size_alloc, World.size_setCell, World.size_drew] at z11
            have H11 := H10.out.thru hb11
            clear H10
            replace H11 := Lib.hid H11
            go_wp2_with fail
            refine Calls.mono (now_none _) ?_
            rintro e w12 ⟨rfl, hb12⟩
            have z12 := Below.size hb12; try simp only [World.size_alloc, World.size_setCell, World.size_drew] at z12
            have H12 := H11.out.thru hb12
            clear H11
            replace H12 := Lib.hid H12
            go_wp2_with fail
            refine Calls.mono (counts_none _) ?_
            rintro e w13 ⟨rfl, hb13⟩
            have z13 := Below.size hb13; try simp only [World.size_alloc, World.size_setCell, World.size_drew] at z13
            have H13 := H12.out.thru hb13
            clear H12
            have P9 := waits_st H13
            rw [hyl.out] at P9
            simp only [List.length_nil] at P9
            replace H13 := Lib.hid H13; replace P9 := Lib.hid P9
            go_wp2_with fail
            refine Calls.mono (P9.out) ?_
            rintro e w14 ⟨rfl, hb14⟩
            have z14 := Below.size hb14; try simp only [World.size_alloc, World.size_setCell, World.size_drew] at z14
            have H14 := H13.out.thru hb14
            replace H14 := Lib.hid H14
            go_wp2_with fail
            go_ret
            exact H14.out.ret rfl
        | false =>
          have hwl := hgx.out.len
          have hfx1 := hfx.out.1
          have hfx2 := hfx.out.2
          replace H4 := Lib.hid H4; replace hfx2 := Lib.hid hfx2
          go_wp2_with fail
          go_loopg [11, 12] 60 (fun g v11 v12 wr => ∃ (j : Nat) (y : Or) (out : Int), j ≤ 60 ∧ Hid (g = 60 - j) ∧ v12 = .int .i64 j ∧ v11 = .int .i64 out ∧ out + y.l.length = x.l.length ∧ 0 ≤ out ∧ y.now = x.now + j ∧ Hid (Good y i 0) ∧ Hid (∀ e ∈ y.l, e.2.2 ≤ x.now + 60) ∧ Hid (0 < j → ∀ e ∈ y.l, ¬ e.2.2 ≤ y.now) ∧ Hid (St w none0 wr [orderP o s k y]))
          case atStart => exact ⟨0, x, 0, by omega, Lib.hid rfl, rfl, rfl, by omega, Int.le_refl _, by simp, hgx, hfx2, Lib.hid (by omega), H4⟩
          case round =>
            obtain ⟨j, y, out, hj, hgj, rfl, rfl, hout, hout0, hnow, hgy, hy1, hy2, hst⟩ := hrel
            clear H4
            by_cases hj60 : j < 60
            · have P := tick_st o s k y hgy.out (by omega) hst.out
              have hgY := hgy.out.tick
              obtain ⟨d1, d2, d3⟩ := due_sub hgy.out.tickA (tickA y).now
              have hnY : (tickS y).now = x.now + (j + 1) := by
                show min (y.now + 1) 1099511627776 = _
                omega
              have hnA : (tickA y).now = (tickS y).now := rfl
              have hy1' : ∀ e ∈ (tickS y).l, e.2.2 ≤ x.now + 60 := fun e he => hy1.out e (d1 e he)
              have hy2' : ∀ e ∈ (tickS y).l, ¬ e.2.2 ≤ (tickS y).now := d3
              have hlen : dueK (tickA y) (tickA y).now + (tickS y).l.length = y.l.length := d2
              generalize dueK (tickA y) (tickA y).now = dk at *
              generalize tickS y = Y at *
              have hyl2 := hgy.out.len
              clear d1 d2 d3 hst hnA
              replace P := Lib.hid P; replace hgY := Lib.hid hgY; replace hy1' := Lib.hid hy1'; replace hy2' := Lib.hid hy2'
              go_wp2_with fail
              refine Calls.mono P.out ?_
              rintro e w5 ⟨rfl, H6⟩
              clear P
              replace H6 := Lib.hid H6
              go_wp2_with fail
              go_roundg (60 - (j + 1))
              case measure => have := hgj.out; omega
              case rel => exact ⟨j + 1, Y, out + dk, by omega, Lib.hid rfl, by go_num, by go_num, by omega, by omega, by omega, hgY, hy1', Lib.hid (fun _ => hy2'.out), H6⟩
            · have hj2 : j = 60 := by omega
              subst hj2
              have hyl : y.l = [] := by
                rcases hl : y.l with _ | ⟨e, t⟩
                · rfl
                · have h1 := hy1.out e (by rw [hl]; simp)
                  have h2 := hy2.out (by omega) e (by rw [hl]; simp)
                  omega
              rw [hyl] at hout
              simp only [List.length_nil] at hout
              obtain rfl : out = x.l.length := by omega
              have H4 := hst
              generalize x.l.length = nw at *
              clear hst hy1 hy2 hout
              replace hyl := Lib.hid hyl
              go_wp2_with fail
              refine Calls.mono (recv_none _) ?_
              rintro e w5 ⟨rfl, hb5⟩
              have z5 := Below.size hb5; try simp only [World.size_alloc, World.size_setCell, World.size_drew] at z5
              have H5 := (H4.out.thru hb5).skip (.cells #[.int .i64 0, .string ⟨#[]⟩] 45)
              clear H4
              replace H5 := Lib.hid H5
              go_wp2_with fail
              refine Calls.mono (take_none (1, ⟨#[]⟩) 0 (.slice none 0 0) _) ?_
              rintro e w6 ⟨rfl, hb6⟩
              have z6 := Below.size hb6; try simp only [World.size_alloc, World.size_setCell, World.size_drew] at z6
              have H6 := H5.out.thru hb6
              clear H5
              replace H6 := Lib.hid H6
              go_wp2_with fail
              refine Calls.mono (set_none 0 0 _) ?_
              rintro e w7 ⟨rfl, hb7⟩
              have z7 := Below.size hb7; try simp only [World.size_alloc, World.size_setCell, World.size_drew] at z7
              have H7 := H6.out.thru hb7
              clear H6
              replace H7 := Lib.hid H7
              go_wp2_with fail
              refine Calls.mono (tick_none _) ?_
              rintro e w8 ⟨rfl, hb8⟩
              have z8 := Below.size hb8; try simp only [World.size_alloc, World.size_setCell, World.size_drew] at z8
              have H8 := H7.out.thru hb8
              clear H7
              replace H8 := Lib.hid H8
              go_wp2_with fail
              refine Calls.mono (flush_none _) ?_
              rintro e w9 ⟨rfl, hb9⟩
              have z9 := Below.size hb9; try simp only [World.size_alloc, World.size_setCell, World.size_drew] at z9
              have H9 := H8.out.thru hb9
              clear H8
              replace H9 := Lib.hid H9
              go_wp2_with fail
              refine Calls.mono (waits_none _) ?_
              rintro e w10 ⟨rfl, hb10⟩
              have z10 := Below.size hb10; try simp only [World.size_alloc, World.size_setCell, World.size_drew] at z10
              have H10 := H9.out.thru hb10
              clear H9
              replace H10 := Lib.hid H10
              go_wp2_with fail
              refine Calls.mono (ready_none _) ?_
              rintro e w11 ⟨rfl, hb11⟩
              have z11 := Below.size hb11; try simp only [World.size_alloc, World.size_setCell, World.size_drew] at z11
              have H11 := H10.out.thru hb11
              clear H10
              replace H11 := Lib.hid H11
              go_wp2_with fail
              refine Calls.mono (now_none _) ?_
              rintro e w12 ⟨rfl, hb12⟩
              have z12 := Below.size hb12; try simp only [World.size_alloc, World.size_setCell, World.size_drew] at z12
              have H12 := H11.out.thru hb12
              clear H11
              replace H12 := Lib.hid H12
              go_wp2_with fail
              refine Calls.mono (counts_none _) ?_
              rintro e w13 ⟨rfl, hb13⟩
              have z13 := Below.size hb13; try simp only [World.size_alloc, World.size_setCell, World.size_drew] at z13
              have H13 := H12.out.thru hb13
              clear H12
              have P9 := waits_st H13
              rw [hyl.out] at P9
              simp only [List.length_nil] at P9
              replace H13 := Lib.hid H13; replace P9 := Lib.hid P9
              go_wp2_with fail
              refine Calls.mono (P9.out) ?_
              rintro e w14 ⟨rfl, hb14⟩
              have z14 := Below.size hb14; try simp only [World.size_alloc, World.size_setCell, World.size_drew] at z14
              have H14 := H13.out.thru hb14
              replace H14 := Lib.hid H14
              go_wp2_with fail
              go_ret
              exact H14.out.ret rfl
end Go.Proofs.Ytiaefmmcakagpaa.Ord
