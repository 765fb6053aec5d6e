/- The walk of OrderDoes: any datagrams, ticks and timings come to what the chapter says. -/
import Derived.Test.YtiaefmmcakagpaaBd
import Derived.Test.YtiaefmmcakagpaaBa
namespace Go.Proofs.Ytiaefmmcakagpaa.Ord
set_option linter.unusedSimpArgs false
set_option linter.unusedVariables false
open Go Go.RowKit Go.Shelf Go.Proofs.Ytiaefmmcakagpaa Go.Proofs.Ytiaefmmcakagpaa.Sift Go.Proofs.Ytiaefmmcakagpaa.Hold
open Go.Proofs.Ytiaefmmcakagpaa.DockWait (El enc val encs placed headV)
attribute [local irreducible] Calls

theorem now_st {W w : World} {S0 : Nat → Prop} {o s k : Nat} {x : Or} {r : List Asn} (H : St W S0 w (orderP o s k x :: r)) : Calls Try.prog 42 #[.pointer (some ⟨o, 0, none⟩)] w (Ret w (.int .i64 x.now)) := by
  obtain ⟨S1, hS1⟩ := (orderP_order H).held 0 rfl
  exact now_any o x w S1 hS1
theorem waits_st {W w : World} {S0 : Nat → Prop} {o s k : Nat} {x : Or} {r : List Asn} (H : St W S0 w (orderP o s k x :: r)) : Calls Try.prog 35 #[.pointer (some ⟨o, 0, none⟩)] w (Ret w (.int .i64 x.l.length)) := by
  obtain ⟨S1, hS1⟩ := (orderP_order H).held 0 rfl
  exact waits_any o x w S1 hS1
theorem ready_st {W w : World} {S0 : Nat → Prop} {o s k : Nat} {x : Or} {r : List Asn} (H : St W S0 w (orderP o s k x :: r)) : Calls Try.prog 40 #[.pointer (some ⟨o, 0, none⟩)] w (Ret w (.int .i64 x.rdy.length)) := by
  obtain ⟨S1, hS1⟩ := (orderP_order H).held 0 rfl
  exact ready_any o x w S1 hS1
theorem counts_st {W w : World} {S0 : Nat → Prop} {o s k : Nat} {x : Or} {n : Nat} {last : Int} {r : List Asn} (hg : Good x n last) (hn : n ≤ 1000) (H : St W S0 w (orderP o s k x :: r)) : Calls Try.prog 39 #[.pointer (some ⟨o, 0, none⟩)] w (Ret w (cntV x)) := by
  obtain ⟨S1, hS1⟩ := (orderP_order H).held 0 rfl
  have h1 := hg.bds
  have h2 := hg.ok.c0
  have h3 := hg.ok.c1
  unfold top at h3
  exact counts_any o x (by unfold isI64; omega) w S1 hS1
set_option maxRecDepth 200000 in
set_option maxHeartbeats 4000000 in
theorem does_walk (a0 : Array Value) (a1 : Option Addr) (len1 cap1 : Nat) (w : World) (h0 : Fits w (.cons 1 (.int .i64) (.cons 1 (.int .i64) .nil)) a0.toList) (h1 : Fits w (.slice 7 (.cons 1 (.int .i64) (.cons 1 (.int .i64) (.cons 2 (.cons 1 (.int .i64) (.cons 1 .str .nil)) (.cons 1 (.slice 1 (.int .i64)) (.cons 2 (.cons 1 (.int .i64) (.cons 1 (.int .i64) .nil)) .nil)))))) [.slice a1 len1 cap1]) :
    Calls Try.prog 8 #[.agg a0, .slice a1 len1 cap1] w (Ret w (.bool true)) := by
  obtain ⟨m, h, e0⟩ := timing_in h0
  obtain rfl : a0 = #[.int .i64 m, .int .i64 h] := by
    cases a0; simpa using e0
  obtain ⟨hmax, L, hL, hgood, hR⟩ := oos_in h1
  have PG := fun w' (hb : Below w.heap.size w w') => great_any L len1 hL hmax hgood a1 cap1 w' (hR.below hb)
  have PC := fun w' => rcheck_any m h w'
  have PB := fun w' (hh : checkF m h ≠ 0) => new_bad m h hh w'
  have PO := fun w' (hh : checkF m h = 0) => new_ok m h hh w'
  have HT := (St.zero w).alloc [.int .i64 m, .int .i64 h] 62
  have hbT : Below w.heap.size w (w.alloc (.cells #[.int .i64 m, .int .i64 h] 62)) := (by repeat (first | with_reducible exact Below.refl _ _ | (with_reducible refine Below.al ?_) | (with_reducible refine Below.drew ?_) | (with_reducible refine Below.set ?_ (by first | (simp; done) | omega | (simp; omega))) | (with_reducible refine Below.thru ?_ (by assumption)) | (with_reducible refine Below.chg ?_ (by assumption) (by first | (simp; done) | omega | (simp; omega)))))
  clear h0 h1 e0
  replace hL := Lib.hid hL; replace hgood := Lib.hid hgood; replace hR := Lib.hid hR; replace PG := Lib.hid PG; replace PC := Lib.hid PC; replace PB := Lib.hid PB; replace PO := Lib.hid PO; replace HT := Lib.hid HT
  go_enter Try.func8, Try.ntmps8
  go_wp2_with fail
  refine Calls.mono (works_law _) ?_
  rintro e w1 ⟨rfl, hb1⟩
  have z1 := Below.size hb1; try simp only [World.size_alloc, World.size_setCell, World.size_drew] at z1
  have H1 := HT.out.thru hb1
  clear HT
  have hbw1 : Below w.heap.size w w1 := Below.thru hbT hb1
  go_wp2_with fail
  refine Calls.mono (PG.out w1 hbw1) ?_
  rintro e w2 ⟨gb, rfl, hb2, hgn⟩
  have H2 := H1.thru hb2
  clear PG H1
  cases gb with
  | true =>
    clear hgn
    go_wp2_with fail
    go_ret
    exact H2.ret rfl
  | false =>
    obtain ⟨hn150, htr⟩ := hgn rfl
    clear hgn hbT hb1 hb2 hbw1
    obtain ⟨z2, k2, f2⟩ := H2.box 0 rfl
    replace H2 := Lib.hid H2; replace htr := Lib.hid htr
    go_wp2_with fail
    by_cases hc : checkF m h = 0
    · refine Calls.mono (PO.out _ hc) ?_
      rintro e w3 ⟨o, rfl, H3⟩
      obtain ⟨s, k, H4⟩ := order_P (H2.out.add H3)
      have H5 : St w none0 w3 [orderP o s k (new0 m h), cellA w.heap.size [.int .i64 m, .int .i64 h]] := H4
      obtain ⟨z3, k3, f3⟩ := H5.box 1 rfl
      rw [hc] at PC
      clear H2 H3 H4 k2 f2 z2 PB PO
      replace hc := Lib.hid hc
      replace H5 := Lib.hid H5
      go_wp2_with fail
      refine Calls.mono (PC.out _) ?_
      rintro e w4 ⟨rfl, hb4⟩
      have z4 := Below.size hb4; try simp only [World.size_alloc, World.size_setCell, World.size_drew] at z4
      have H6 := H5.out.thru hb4
      obtain ⟨z4, k4, f4⟩ := H6.box 1 rfl
      clear H5 k3 f3 z3 PC
      replace H6 := Lib.hid H6
      go_wp2_with fail
      refine Calls.mono (rnew_any m h _) ?_
      rintro e w5 ⟨q, t, rfl, H7⟩
      have H8 : St w none0 w5 [orderP o s k (new0 m h), rordP q t (new0 m h)] := (H6.out.add H7).arrN [1, 0, 2] rfl |>.drops 2
      clear H6 H7 k4 f4 z4
      replace H8 := Lib.hid H8
      go_wp2_with fail
      go_loopg [9] len1 (fun g v9 wr => ∃ (i : Nat) (x : Or), i ≤ len1 ∧ Hid (g = len1 - i) ∧ v9 = .int .i64 i ∧ Hid (Good x i 0) ∧ Hid (St w none0 wr [orderP o s k x, rordP q t x]))
      case atStart => exact ⟨0, new0 m h, by omega, Lib.hid rfl, rfl, Lib.hid (good_new m h), H8⟩
      case round =>
        obtain ⟨i, x, hi, hg, rfl, hgx, hst⟩ := hrel
        clear H8
        by_cases hlt : i < len1
        · have hil : i < L.length := by have := hL.out; omega
          have hRR := fun (s' : Cls w none0 []) => oos_at (hR.out.below (St.below s'.st)) hil
          obtain ⟨b, off, e, _⟩ := oos_at (hR.out.below (St.below hst.out)) hil
          have hcl : ∀ (s' : Cls w none0 []) (j : Nat) v, (encO L[i])[j]? = some v → s'.it.cell? ⟨b, off + i * 7 + j, none⟩ = some v := fun s' j v hv => by
            obtain ⟨b', off', e', _, hc'⟩ := hRR s'
            rw [e] at e'
            cases e'
            exact hc' j v hv
          subst e
          have hp := hgood.out L[i] (List.getElem_mem hil)
          have hp20 := htr.out L[i] (List.getElem_mem hil)
          have hpR : ∀ w', St w none0 w' [] → RdT w' L[i] := fun w' hw' => (hR.out.below (St.below hw')).2 _ (List.getElem_mem hil)
          clear hRR
          generalize L[i] = p at *
          have P := step_st o s k q t x x p hgx.out hgx.out (by omega) (by omega) hp hp20 hpR hst.out.drew
          have hgX := hgx.out.step p
          generalize stepS x p = X at *
          obtain ⟨kind, own, num, dat, trips, a, cap, mode, hold⟩ := p
          have g0 := fun s' => hcl s' 0 _ rfl
          have g1 := fun s' => hcl s' 1 _ rfl
          have g2 := fun s' => hcl s' 2 _ rfl
          have g3 := fun s' => hcl s' 3 _ rfl
          have g4 := fun s' => hcl s' 4 _ rfl
          have g5 := fun s' => hcl s' 5 _ rfl
          have g6 := fun s' => hcl s' 6 _ rfl
          simp only [Nat.add_zero] at g0 g1 g2 g3 g4 g5 g6 P
          have HC : St w none0 wr [] := hst.out.drops 0
          have hq1 : (i : Int) < len1 := by omega
          clear hcl hp hpR hgx hst
          replace P := Lib.hid P; replace HC := Lib.hid HC; replace hgX := Lib.hid hgX
          go_wp2_with fail
          haveI := St.ne HC.out
          refine wp_region_madeC HC.out [0, 1, 2, 3, 4, 5] [true, true, true, true, true, true, false, false, false, false, false, false, false, false, false, false, false, false, false, false, false, false, false, false, false, false, false, false, false, false, false, false, false, false, false, false, false, false, false, false] 34 #[true, true, true, true, true, true, false, false, false, false, false, false, false, false, false, false, false, false, false, false, false, false, false, false, false, false, false, false, false, false, false, false, false, false, false, false, false, false, false, false] (by kernel_rfl) rfl (by kernel_rfl) (by kernel_rfl) rfl (by kernel_rfl) (by kernel_rfl) (by intro c a a' w e h; obtain ⟨t, d⟩ := a; obtain ⟨t', d'⟩ := a'; obtain rfl : d = d' := e; exact h) ?_
          simp only [pickB]
          repeat (go_big_quiet_step (fail))
          refine wpQuiet_nil ?_
          refine held_one (i := 6) (by kernel_rfl) fun K hK => ?_
          simp only [List.drop_succ_cons, List.drop_zero, List.take_succ_cons, List.take_zero]
          go_wp2_with fail
          refine Calls.mono P.out ?_
          rintro e w5 ⟨bb, rfl, hbb, H5'⟩
          obtain rfl := hbb trivial
          have H5 : St w none0 w5 [orderP o s k X, rordP q t X] := H5'
          have HC5 : St w none0 w5 [] := H5.drops 0
          obtain ⟨v5, HQ⟩ := rordP_open (H5.front 1 rfl)
          obtain ⟨_, va, vc, rfl, _⟩ := St.reads 1 HQ rfl
          obtain ⟨Lr, hLp, HS⟩ := refA_parts (HQ.front 2 rfl)
          obtain ⟨sa, sc, HS2⟩ := refS_parts HS
          obtain ⟨zq, cq, fq⟩ := HQ.box 0 rfl
          obtain ⟨zt, ct, ft⟩ := HS2.box 0 rfl
          rw [hLp.length_eq] at ct
          unfold rordC at cq
          have PN := fun (s' : Near w5.heap.size w5) => now_st (H5.thruB (by simp) (Near.near s'))
          have PW := fun (s' : Near w5.heap.size w5) => waits_st (H5.thruB (by simp) (Near.near s'))
          have PR := fun (s' : Near w5.heap.size w5) => ready_st (H5.thruB (by simp) (Near.near s'))
          have hXX : Hid (Good X (i + 1) 0) := hgX
          have hbx := hgX.out.bds
          have hbc := hgX.out.ok.c0
          have hbt := hgX.out.ok.c1
          have hbr := hgX.out.cur
          unfold top at hbt
          have hPK := fun w' (hb : Below w5.heap.size w5 w') => counts_st hgX.out (by omega) (H5.thru hb)
          unfold cntV at hPK
          obtain ⟨X1, X2, X3, X4, X5, X6, X7, X8, X9, X10, X11⟩ := X
          simp only at *
          have y0 : (X3 != X3) = false := by simp
          have y1 : ((X10.length : Int) != (X10.length : Int)) = false := by simp
          have y2 : ((X11.length : Int) != (X11.length : Int)) = false := by simp
          clear P HS HS2 HQ hLp H5' hgX g0 g1 g2 g3 g4 g5 g6
          replace H5 := Lib.hid H5; replace HC5 := Lib.hid HC5; replace PN := Lib.hid PN; replace PW := Lib.hid PW; replace PR := Lib.hid PR; replace hPK := Lib.hid hPK
          go_wp2_with fail
          refine hK _ _ HC5.out ?_
          clear hK K
          refine held_near HC5.out [7, 8, 9, 10, 11, 12, 13, 14, 15, 16, 17, 18, 19, 20, 21, 22, 23, 24, 25, 26, 27, 28, 29, 30, 31, 32, 33, 34, 35, 36, 37, 38, 39] [false, false, false, false, false, false, false, true, true, true, true, true, true, true, true, true, true, true, true, true, true, true, true, true, true, true, true, true, true, true, true, true, true, true, true, true, true, true, true, true] (listed' := #[true, true, true, true, true, true, true, true, true, true, true, true, true, true, true, true, true, true, true, true, true, true, true, true, true, true, true, true, true, true, true, true, true, true, true, true, true, true, true, true]) rfl rfl (by kernel_rfl) (by kernel_rfl) rfl (by kernel_rfl) ?_
          intro hs
          simp only [pickB]
          repeat (go_big_quiet_step ((first | (go_at_call 42; exact Calls.near (by simp) (PN.out _)) | (go_at_call 35; exact Calls.near (by simp) (PW.out _)) | (go_at_call 40; exact Calls.near (by simp) (PR.out _)))))
          refine wpQuiet_nil ?_
          clear hs
          intro w6 hb6
          obtain ⟨cq6, fq6⟩ := Below.blk hb6 (b := q) (by first | (simp; done) | omega | (simp; omega))
          obtain ⟨ct6, ft6⟩ := Below.blk hb6 (b := t) (by first | (simp; done) | omega | (simp; omega))
          have zq6 : q < w6.heap.size := Nat.lt_of_lt_of_le zq hb6.size
          have zt6 : t < w6.heap.size := Nat.lt_of_lt_of_le zt hb6.size
          have PK := fun (s' : Near w6.heap.size w6) => hPK.out _ (Below.thru hb6 s'.near)
          have H6 := H5.out.thru hb6
          clear PN PW PR hPK H5 HC5 y0 y1 y2
          replace H6 := Lib.hid H6; replace PK := Lib.hid PK
          go_wp2_with fail
          refine wp_region_near (by kernel_rfl) (by kernel_rfl) ?_
          intro hs
          repeat (go_big_quiet_step ((go_at_call 39; exact Calls.near (by simp) (PK.out _))))
          refine wpQuiet_nil ?_
          clear hs
          intro w7 hb7
          have H7 := H6.out.thru hb7
          clear H6 PK
          replace H7 := Lib.hid H7
          go_wp2_with fail
          go_roundg (len1 - (i + 1))
          case measure => have := hg.out; omega
          case rel => exact ⟨i + 1, _, by omega, Lib.hid rfl, by go_num, hXX, H7⟩
        · go_wp2_with fail
          go_ret
          exact hst.out.ret rfl
    · refine Calls.mono (PB.out _ hc) ?_
      rintro e w3 ⟨rfl, hb3⟩
      have H3 := H2.out.thru hb3
      obtain ⟨z3, k3, f3⟩ := H3.box 0 rfl
      generalize checkF m h = ce at *
      have q0 : (ce != ce) = false := by simp
      have q1 : (ce != 0) = true := by simpa using hc
      have q2 : decide (ce = 0) = false := decide_eq_false hc
      clear PB PO H2 k2 f2 z2
      replace hc := Lib.hid hc
      replace H3 := Lib.hid H3
      go_wp2_with fail
      refine Calls.mono (PC.out _) ?_
      rintro e w4 ⟨rfl, hb4⟩
      have z4 := Below.size hb4; try simp only [World.size_alloc, World.size_setCell, World.size_drew] at z4
      have H4 := H3.out.thru hb4
      clear H3
      replace H4 := Lib.hid H4
      go_wp2_with fail
      go_ret
      exact H4.out.ret rfl
end Go.Proofs.Ytiaefmmcakagpaa.Ord
