/- The walk of OrderDeadline: each datagram is released by its deadline. -/
import Derived.Test.YtiaefmmcakagpaaOrdCur
namespace Go.Proofs.Ytiaefmmcakagpaa.Ord
set_option linter.unusedSimpArgs false
set_option linter.unusedVariables false
open Go Go.RowKit Go.Shelf Go.Proofs.Ytiaefmmcakagpaa Go.Proofs.Ytiaefmmcakagpaa.Sift Go.Proofs.Ytiaefmmcakagpaa.Hold
open Go.Proofs.Ytiaefmmcakagpaa.DockWait (El enc val encs placed headV)
attribute [local irreducible] Calls

def nums (R : List (Int × Int)) : List Int := R.map Prod.fst
def ends (R : List (Int × Int)) : List Int := R.map Prod.snd
set_option maxRecDepth 200000 in
set_option maxHeartbeats 4000000 in
theorem deadline_walk (a0 : Array Value) (a1 : Option Addr) (len1 cap1 : Nat) (w : World) (h0 : Fits w (.cons 1 (.int .i64) (.cons 1 (.int .i64) .nil)) a0.toList) (h1 : Fits w (.slice 7 (.cons 1 (.int .i64) (.cons 1 (.int .i64) (.cons 2 (.cons 1 (.int .i64) (.cons 1 .str .nil)) (.cons 1 (.slice 1 (.int .i64)) (.cons 2 (.cons 1 (.int .i64) (.cons 1 (.int .i64) .nil)) .nil)))))) [.slice a1 len1 cap1]) :
    Calls Try.prog 10 #[.agg a0, .slice a1 len1 cap1] w (Ret w (.bool true)) := by
  obtain ⟨i0, hi, hz, hz1, hz2⟩ := info_parts (show (Try.prog.info? 3).map (fun i => (i.zero, i.size, i.bytes)) = some (some (.int .i64 0), 1, 8) by kernel_rfl)
  obtain ⟨m, h, e0⟩ := timing_in h0
  obtain rfl : a0 = #[.int .i64 m, .int .i64 h] := by
    cases a0; simpa using e0
  obtain ⟨hmax, L, hL, hgood, hR⟩ := oos_in h1
  have PG := fun w' (hb : Below w.heap.size w w') => great_any L len1 hL hmax hgood a1 cap1 w' (hR.below hb)
  have PC := fun w' => check_any m h w'
  have PO := fun w' (hh : checkF m h = 0) => new_ok m h hh w'
  have HT := (St.zero w).alloc [.int .i64 m, .int .i64 h] 62
  have hbT : Below w.heap.size w (w.alloc (.cells #[.int .i64 m, .int .i64 h] 62)) := (by repeat (first | with_reducible exact Below.refl _ _ | (with_reducible refine Below.al ?_) | (with_reducible refine Below.drew ?_) | (with_reducible refine Below.set ?_ (by first | (simp; done) | omega | (simp; omega))) | (with_reducible refine Below.thru ?_ (by assumption)) | (with_reducible refine Below.chg ?_ (by assumption) (by first | (simp; done) | omega | (simp; omega)))))
  clear h0 h1 e0
  replace hL := Lib.hid hL; replace hgood := Lib.hid hgood; replace hR := Lib.hid hR; replace PG := Lib.hid PG; replace PC := Lib.hid PC; replace PO := Lib.hid PO; replace HT := Lib.hid HT
  go_enter Try.func10, Try.ntmps10
  go_wp2_with fail
  refine Calls.mono (works_law _) ?_
  rintro e w1 ⟨rfl, hb1⟩
  have z1 := Below.size hb1; try simp only [World.size_alloc, World.size_setCell, World.size_drew] at z1
  have H1 := HT.out.thru hb1
  clear HT
  have hbw1 : Below w.heap.size w w1 := Below.thru hbT hb1
  go_wp2_with fail
  refine Calls.mono (PG.out w1 hbw1) ?_
  rintro e w2 ⟨gb, rfl, hb2, hgn⟩
  have H2 := H1.thru hb2
  clear PG H1
  cases gb with
  | true =>
    clear hgn
    go_wp2_with fail
    go_ret
    exact H2.ret rfl
  | false =>
    obtain ⟨hn150, htr⟩ := hgn rfl
    clear hgn hbT hb1 hb2 hbw1
    obtain ⟨z2, k2, f2⟩ := H2.box 0 rfl
    replace H2 := Lib.hid H2; replace htr := Lib.hid htr
    go_wp2_with fail
    by_cases hc : checkF m h = 0
    · rw [hc] at PC
      refine Calls.mono (PC.out _) ?_
      rintro e w4 ⟨rfl, hb4⟩
      have z4 := Below.size hb4; try simp only [World.size_alloc, World.size_setCell, World.size_drew] at z4
      have H3 := H2.out.thru hb4
      obtain ⟨z3, k3, f3⟩ := H3.box 0 rfl
      clear H2 PC k2 f2 z2
      replace H3 := Lib.hid H3
      go_wp2_with fail
      refine Calls.mono (PO.out _ hc) ?_
      rintro e w5 ⟨o, rfl, H5⟩
      obtain ⟨s, k, H4⟩ := order_P (H3.out.add H5)
      have H6 : St w none0 w5 [orderP o s k (new0 m h), cellA w.heap.size [.int .i64 m, .int .i64 h], rowA 1 (.slice none 0 0) 0 [], rowA 1 (.slice none 0 0) 0 []] := ((H4.row_nil (size := 1)).row_nil (size := 1)).arr [2, 3, 0, 1] rfl
      clear PO H3 H4 H5
      replace hc := Lib.hid hc
      replace H6 := Lib.hid H6
      go_wp2_with fail
      go_loopg [7, 8, 9, 10, 11, 12, 13, 14] len1 (fun g v7 v8 v9 _ _ _ _ _ wr => ∃ (i : Nat) (x : Or) (R : List (Int × Int)), i ≤ len1 ∧ Hid (g = len1 - i) ∧ v9 = .int .i64 i ∧ Hid (Good x i 0) ∧ Hid (Dead x R) ∧ R.length ≤ i ∧
        Hid (St w none0 wr [orderP o s k x, cellA w.heap.size [.int .i64 x.mode, .int .i64 x.hold], rowA 1 v7 R.length (i64s (nums R)), rowA 1 v8 R.length (i64s (ends R))]))
      case atStart => exact ⟨0, new0 m h, [], by omega, Lib.hid rfl, rfl, Lib.hid (good_new m h), Lib.hid (dead_new m h), by simp, H6⟩
      case round =>
        obtain ⟨i, x, R, hile, hg, rfl, hgx, hdx, hRl, hst⟩ := hrel
        clear H6
        by_cases hlt : i < len1
        · have hil : i < L.length := by have := hL.out; omega
          obtain ⟨b, off, rfl, hb, hcc⟩ := oos_at (hR.out.below (St.below hst.out)) hil
          have hp := hgood.out L[i] (List.getElem_mem hil)
          have hp20 := htr.out L[i] (List.getElem_mem hil)
          have hpR : ∀ w' l', St w none0 w' l' → RdT w' L[i] := fun w' l' hw' => (hR.out.below (St.below hw')).2 _ (List.getElem_mem hil)
          generalize L[i] = p at *
          have g0 := hcc 0 _ rfl
          have g1 := hcc 1 _ rfl
          have g2 := hcc 2 _ rfl
          have g3 := hcc 3 _ rfl
          have g4 := hcc 4 _ rfl
          have g5 := hcc 5 _ rfl
          have g6 := hcc 6 _ rfl
          obtain ⟨kind, own, num, dat, trips, a, cap, mode, hold⟩ := p
          simp only [Nat.add_zero] at g0 g1 g2 g3 g4 g5 g6
          obtain ⟨hp1, hp2, hp3, hp4⟩ := hp
          obtain ⟨va, vc, rfl, _⟩ := St.slice (by omega) 2 hst.out rfl
          obtain ⟨ea, ec, rfl, _⟩ := St.slice (by omega) 3 hst.out rfl
          have H1 : St w none0 _ [orderP o s k x, cellA wr.heap.size [.int .i64 kind, .int .i64 own, .int .i64 num, .string dat, .slice a trips.length cap, .int .i64 mode, .int .i64 hold], cellA w.heap.size [.int .i64 x.mode, .int .i64 x.hold], rowA 1 (.slice va R.length vc) R.length (i64s (nums R)), rowA 1 (.slice ea R.length ec) R.length (i64s (ends R))] := (hst.out.alloc [.int .i64 kind, .int .i64 own, .int .i64 num, .string dat, .slice a trips.length cap, .int .i64 mode, .int .i64 hold] 70).arr [1, 0, 2, 3, 4] rfl
          have hq1 : (i : Int) < len1 := by omega
          clear hcc hst
          simp only at hp1 hp2 hp3 hp4 hp20
          have E1 := H1.alloc [] 3
          simp only [World.size_alloc] at E1
          have E2 := E1.row_empty (size := 1) 0 rfl
          have hr2 : Rd _ a (i64s trips) := hpR _ _ E2
          obtain ⟨z1, k1, f1⟩ := H1.box 1 rfl
          clear H1 E1
          replace hp2 := Lib.hid hp2; replace hpR := Lib.hid hpR; replace E2 := Lib.hid E2
          go_upto_block 2 with (at_builtin; (refine wpList_appRd rfl (.tmp 45) (.tmp 47) _ rfl 3 i0 _ 1 8 Try.underlying34 hi hz hz1 hz2 rfl (by omega) 0 _ 0 [] rfl E2.out rfl a trips.length cap (i64s trips) rfl (by rw [i64s_len]; omega) hr2 hp2.out (i64s_one trips) (by omega) (by omega) ?_; intro wv5 w6 HA; (try simp only [Nat.zero_add, List.nil_append] at HA); obtain ⟨ta, tc, rfl, _⟩ := St.slice (by omega) 0 HA rfl; obtain ⟨z9, k9, f9⟩ := St.box 2 HA rfl; replace HA := Lib.hid HA))
          go_cut [7, 8, 12, 13] (fun v7 v8 _ _ wx => ∃ (X : Or) (R' : List (Int × Int)), R'.length ≤ i + 1 ∧ Hid (Good X (i + 1) 0) ∧ Hid (Dead X R') ∧
            Hid (St w none0 wx [orderP o s k X, cellA w.heap.size [.int .i64 X.mode, .int .i64 X.hold], rowA 1 v7 R'.length (i64s (nums R')), rowA 1 v8 R'.length (i64s (ends R'))]))
          case first =>
            have HB : St w none0 w6 [orderP o s k x, cellA wr.heap.size [.int .i64 kind, .int .i64 own, .int .i64 num, .string dat, .slice a trips.length cap, .int .i64 mode, .int .i64 hold], cellA w.heap.size [.int .i64 x.mode, .int .i64 x.hold], rowA 1 (.slice va R.length vc) R.length (i64s (nums R)), rowA 1 (.slice ea R.length ec) R.length (i64s (ends R)), rowA 1 (.slice ta trips.length tc) trips.length (i64s trips)] := HA.out.arr [1, 2, 3, 4, 5, 0] rfl
            clear HA hr2 E2 z1 k1 f1
            replace HB := Lib.hid HB
            by_cases hk : kind = 0 ∨ kind = 1 ∨ kind = 2 ∨ kind = 3
            · rcases hk with rfl | rfl | rfl | rfl
              · as_aux_lemma =>
                  have P := cursor_st hgx.out (by omega) HB.out
                  replace P := Lib.hid P
                  go_wp2_with fail
                  refine Calls.mono (P.out) ?_
                  rintro e w7 ⟨rfl, hb7⟩
                  have z7 := Below.size hb7; try simp only [World.size_alloc, World.size_setCell, World.size_drew] at z7
                  have H7 := HB.out.thru hb7
                  obtain ⟨z7, k7, f7⟩ := H7.box 1 rfl
                  have P2 := take_st o s k x (num, dat) own trips trips.length rfl (by omega) ta tc hgx.out (by omega) (fun w' h => St.rd (by omega) 4 h rfl) H7
                  have hgX := hgx.out.take (num, dat) (forF x.mode x.hold own trips)
                  obtain ⟨hdX, hd1, hd2⟩ := hdx.out.take hgx.out (num, dat) (forF x.mode x.hold own trips)
                  have hXn : (takeS x (num, dat) (forF x.mode x.hold own trips)).now = x.now := rfl
                  have hXm : (takeS x (num, dat) (forF x.mode x.hold own trips)).mode = x.mode ∧ (takeS x (num, dat) (forF x.mode x.hold own trips)).hold = x.hold := ⟨rfl, rfl⟩
                  have hcc0 := hgx.out.ok.c0
                  have hcc1 := hgx.out.ok.c1
                  unfold top at hcc1 hd1
                  have hnow0 := hgx.out.n0
                  have hnow1 := hgx.out.n1
                  obtain ⟨hf0, hf1⟩ : 0 ≤ forF x.mode x.hold own trips ∧ forF x.mode x.hold own trips ≤ 60 := opF_bd x ⟨0, own, num, dat, trips, a, cap, mode, hold⟩
                  have PF := fun w' (h : Rd w' ta (i64s trips)) => for_any x.mode x.hold own trips trips.length rfl (by omega) ta tc w' h
                  generalize forF x.mode x.hold own trips = fv at *
                  generalize takeS x (num, dat) fv = X at *
                  generalize (putP x (num, dat) fv).1.1 = what at *
                  simp only at P2 hd1 hd2 hdX
                  have hhw : what = 1 ∨ what ≠ 1 := by omega
                  clear P HB H7
                  replace P2 := Lib.hid P2; replace hgX := Lib.hid hgX; replace hdX := Lib.hid hdX; replace hXn := Lib.hid hXn; replace hXm := Lib.hid hXm; replace PF := Lib.hid PF; replace hhw := Lib.hid hhw
                  go_wp2_with fail
                  refine Calls.mono P2.out ?_
                  rintro e w8 ⟨rfl, H8⟩
                  obtain ⟨z8, k8, f8⟩ := H8.box 1 rfl
                  have PC2 := fun (s' : Near w8.heap.size w8) => cursor_st hgX.out (by omega) (H8.thruB (by simp) (Near.near s'))
                  clear P2 k7 f7 z7
                  replace H8 := Lib.hid H8; replace PC2 := Lib.hid PC2
                  have hw1 : IntKind.i64.wrap (x.c + 1) = x.c + 1 := by rw [IntKind.wrap_i64]; omega
                  by_cases hw0 : what = 0
                  · have hcx : num ≤ X.c := hd2 hw0
                    have q5 : decide (X.c < num) = false := decide_eq_false (by omega)
                    subst hw0
                    by_cases e1 : num = x.c + 1
                    · have q1 : decide (num = x.c + 1) = true := decide_eq_true e1
                      have q1' : (num == x.c + 1) = true := by simpa using e1
                      by_cases e2 : x.c < 140737488355327
                      · have q2 : decide (x.c < 140737488355327) = true := decide_eq_true e2
                        replace e1 := Lib.hid e1; replace e2 := Lib.hid e2; replace hd1 := Lib.hid hd1; replace hd2 := Lib.hid hd2
                        go_wp2_with fail
                        refine wp_region_near (by kernel_rfl) (by kernel_rfl) ?_
                        intro hs
                        repeat (go_big_quiet_step ((go_at_call 47; exact Calls.near (by simp) (PC2.out _))))
                        refine wpQuiet_nil ?_
                        clear hs
                        intro w9 hb9
                        have H9 := H8.out.thru hb9
                        obtain ⟨z9, k9, f9⟩ := H9.box 1 rfl
                        clear H8 PC2 k8 f8 z8
                        rw [if_neg (by omega)] at hdX
                        have H10 : St w none0 w9 [orderP o s k X, cellA w.heap.size [.int .i64 X.mode, .int .i64 X.hold], rowA 1 (.slice va R.length vc) R.length (i64s (nums R)), rowA 1 (.slice ea R.length ec) R.length (i64s (ends R))] := by rw [hXm.out.1, hXm.out.2]; exact (H9.arr [0, 2, 3, 4, 1, 5] rfl).drops 4
                        replace H9 := Lib.hid H9; replace H10 := Lib.hid H10; replace hdX := Lib.hid hdX
                        go_wp2_with fail
                        go_meet
                        exact ⟨X, R, by omega, hgX, hdX, H10⟩
                      · have q2 : decide (x.c < 140737488355327) = false := decide_eq_false e2
                        replace e1 := Lib.hid e1; replace e2 := Lib.hid e2; replace hd1 := Lib.hid hd1; replace hd2 := Lib.hid hd2
                        go_wp2_with fail
                        refine wp_region_near (by kernel_rfl) (by kernel_rfl) ?_
                        intro hs
                        repeat (go_big_quiet_step ((go_at_call 47; exact Calls.near (by simp) (PC2.out _))))
                        refine wpQuiet_nil ?_
                        clear hs
                        intro w9 hb9
                        have H9 := H8.out.thru hb9
                        obtain ⟨z9, k9, f9⟩ := H9.box 1 rfl
                        clear H8 PC2 k8 f8 z8
                        rw [if_neg (by omega)] at hdX
                        have H10 : St w none0 w9 [orderP o s k X, cellA w.heap.size [.int .i64 X.mode, .int .i64 X.hold], rowA 1 (.slice va R.length vc) R.length (i64s (nums R)), rowA 1 (.slice ea R.length ec) R.length (i64s (ends R))] := by rw [hXm.out.1, hXm.out.2]; exact (H9.arr [0, 2, 3, 4, 1, 5] rfl).drops 4
                        replace H9 := Lib.hid H9; replace H10 := Lib.hid H10; replace hdX := Lib.hid hdX
                        go_wp2_with fail
                        go_meet
                        exact ⟨X, R, by omega, hgX, hdX, H10⟩
                    · have q1 : decide (num = x.c + 1) = false := decide_eq_false e1
                      have q1' : (num == x.c + 1) = false := by simpa using e1
                      replace e1 := Lib.hid e1; replace hd1 := Lib.hid hd1; replace hd2 := Lib.hid hd2
                      go_wp2_with fail
                      refine wp_region_near (by kernel_rfl) (by kernel_rfl) ?_
                      intro hs
                      repeat (go_big_quiet_step ((go_at_call 47; exact Calls.near (by simp) (PC2.out _))))
                      refine wpQuiet_nil ?_
                      clear hs
                      intro w9 hb9
                      have H9 := H8.out.thru hb9
                      obtain ⟨z9, k9, f9⟩ := H9.box 1 rfl
                      clear H8 PC2 k8 f8 z8
                      rw [if_neg (by omega)] at hdX
                      have H10 : St w none0 w9 [orderP o s k X, cellA w.heap.size [.int .i64 X.mode, .int .i64 X.hold], rowA 1 (.slice va R.length vc) R.length (i64s (nums R)), rowA 1 (.slice ea R.length ec) R.length (i64s (ends R))] := by rw [hXm.out.1, hXm.out.2]; exact (H9.arr [0, 2, 3, 4, 1, 5] rfl).drops 4
                      replace H9 := Lib.hid H9; replace H10 := Lib.hid H10; replace hdX := Lib.hid hdX
                      go_wp2_with fail
                      go_meet
                      exact ⟨X, R, by omega, hgX, hdX, H10⟩
                  · have q0 : (what == 0) = false := by simpa using hw0
                    have q0' : decide (what = 0) = false := decide_eq_false hw0
                    have q01 : (what != 0) = true := by simpa using hw0
                    have hq : num = x.c + 1 → ¬ x.c < 140737488355327 := fun e h => hw0 (hd1 e (by omega))
                    by_cases hw1' : what = 1
                    · subst hw1'
                      by_cases e1 : num = x.c + 1
                      · have q1 : decide (num = x.c + 1) = true := decide_eq_true e1
                        have q1' : (num == x.c + 1) = true := by simpa using e1
                        have q2 : decide (x.c < 140737488355327) = false := decide_eq_false (hq e1)
                        replace e1 := Lib.hid e1; replace hd1 := Lib.hid hd1; replace hd2 := Lib.hid hd2; replace hq := Lib.hid hq; replace hw0 := Lib.hid hw0
                        go_wp2_with fail
                        refine wp_region_near (by kernel_rfl) (by kernel_rfl) ?_
                        intro hs
                        repeat (go_big_quiet_step ((go_at_call 47; exact Calls.near (by simp) (PC2.out _))))
                        refine wpQuiet_nil ?_
                        clear hs
                        intro w9 hb9
                        have H9 := H8.out.thru hb9
                        obtain ⟨z9, k9, f9⟩ := H9.box 1 rfl
                        clear H8 PC2 k8 f8 z8
                        rw [if_pos trivial] at hdX
                        replace H9 := Lib.hid H9; replace hdX := Lib.hid hdX
                        go_wp2_with (at_builtin; (refine wpList_appS rfl (.tmp 93) (.tmp 97) _ rfl 3 i0 _ 1 8 Try.underlying34 hi hz hz1 hz2 rfl (by omega) 3 _ R.length (i64s (nums R)) rfl H9.out rfl 1 1 [.int .i64 num] rfl rfl (by simp [Value.oneCell']) (by omega) (by omega) ?_; intro v10 w10 H10; obtain ⟨na, nc, rfl, _⟩ := St.slice (by omega) 0 H10 rfl; replace H10 := Lib.hid H10))
                        have HC10 : St w none0 w10 [cellA wr.heap.size [.int .i64 0, .int .i64 own, .int .i64 num, .string dat, .slice a trips.length cap, .int .i64 mode, .int .i64 hold], cellA w.heap.size [.int .i64 x.mode, .int .i64 x.hold]] := (H10.out.arr [2, 3, 0, 1, 4, 5] rfl).drops 2
                        have hcl0 : ∀ (s' : Cls w none0 [cellA wr.heap.size [.int .i64 0, .int .i64 own, .int .i64 num, .string dat, .slice a trips.length cap, .int .i64 mode, .int .i64 hold], cellA w.heap.size [.int .i64 x.mode, .int .i64 x.hold]]) (i : Nat), s'.it.cell? ⟨wr.heap.size, i, none⟩ = [Value.int .i64 0, .int .i64 own, .int .i64 num, .string dat, .slice a trips.length cap, .int .i64 mode, .int .i64 hold][i]? := fun s => (s.st.box 0 rfl).cells
                        have hcl1 : ∀ (s' : Cls w none0 [cellA wr.heap.size [.int .i64 0, .int .i64 own, .int .i64 num, .string dat, .slice a trips.length cap, .int .i64 mode, .int .i64 hold], cellA w.heap.size [.int .i64 x.mode, .int .i64 x.hold]]) (i : Nat), s'.it.cell? ⟨w.heap.size, i, none⟩ = [Value.int .i64 x.mode, .int .i64 x.hold][i]? := fun s => (s.st.box 1 rfl).cells
                        have P3 := now_st (H10.out.drew.front 1 rfl)
                        rw [hXn.out] at P3
                        clear H9 k9 f9 z9
                        replace HC10 := Lib.hid HC10; replace P3 := Lib.hid P3
                        haveI := St.ne HC10.out
                        refine wp_region_madeC HC10.out [0, 1, 3, 4, 5, 6] [true, true, false, true, true, true, true, false, false, false, false, false] 6 #[true, true, false, true, true, true, true, false, false, false, false, false] (by kernel_rfl) rfl (by kernel_rfl) (by kernel_rfl) rfl (by kernel_rfl) (by kernel_rfl) (by intro c a a' w e h; obtain ⟨t, d⟩ := a; obtain ⟨t', d'⟩ := a'; obtain rfl : d = d' := e; exact h) ?_
                        simp only [pickB]
                        repeat (go_big_quiet_step (fail))
                        refine wpQuiet_nil ?_
                        refine held_one (i := 2) (by kernel_rfl) fun K hK => ?_
                        simp only [List.drop_succ_cons, List.drop_zero, List.take_succ_cons, List.take_zero]
                        go_wp2_with fail
                        refine Calls.mono P3.out ?_
                        rintro e w11 ⟨rfl, hb11⟩
                        have H11 := H10.out.drew.thru hb11
                        have HC11 := (H11.arr [2, 3, 0, 1, 4, 5] rfl).drops 2
                        have P4 := PF.out w11 (St.rd (by omega) 5 H11 rfl)
                        clear P3 H10 HC10
                        replace HC11 := Lib.hid HC11; replace P4 := Lib.hid P4; replace H11 := Lib.hid H11
                        go_wp2_with fail
                        refine hK _ _ HC11.out ?_
                        clear hK K
                        refine held_one (i := 7) (by kernel_rfl) fun K hK => ?_
                        simp only [List.drop_succ_cons, List.drop_zero, List.take_succ_cons, List.take_zero]
                        go_wp2_with fail
                        refine Calls.mono P4.out ?_
                        rintro e w12 ⟨rfl, hb12⟩
                        have H12 := H11.out.thru hb12
                        have HC12 := (H12.arr [2, 3, 0, 1, 4, 5] rfl).drops 2
                        clear P4 H11 HC11
                        replace HC12 := Lib.hid HC12; replace H12 := Lib.hid H12
                        go_wp2_with fail
                        refine hK _ _ HC12.out ?_
                        clear hK K
                        haveI := St.ne HC12.out
                        refine calmC HC12.out [8] [false, false, false, false, false, false, false, false, true, false, false, false] 3 4 #[true, true, true, true, true, true, true, true, false, false, false, false] #[true, true, true, true, true, true, true, true, true, false, false, false] rfl (by kernel_rfl) (by kernel_rfl) rfl (by kernel_rfl) (by kernel_rfl) (by intro c a a' w e h; obtain ⟨t, d⟩ := a; obtain ⟨t', d'⟩ := a'; obtain rfl : d = d' := e; exact h) ?_
                        simp only [pickB]
                        repeat (go_big_quiet_step (fail))
                        refine wpQuiet_nil ?_
                        refine held_one (i := 9) (by kernel_rfl) fun K hK => ?_
                        simp only [List.drop_succ_cons, List.drop_zero, List.take_succ_cons, List.take_zero]
                        go_wp2_with fail
                        have HC13 := ((H12.out.skip (.cells #[.int .i64 (x.now + fv)] 3)).arr [2, 3, 0, 1, 4, 5] rfl).drops 2
                        refine hK _ _ HC13 ?_
                        clear hK K HC13
                        refine held_one (i := 10) (by kernel_rfl) fun K hK => ?_
                        simp only [List.drop_succ_cons, List.drop_zero, List.take_succ_cons, List.take_zero]
                        go_wp2_with (at_builtin; (refine wpList_appS rfl (.tmp 99) (.tmp 108) _ rfl 3 i0 _ 1 8 Try.underlying34 hi hz hz1 hz2 rfl (by omega) 4 _ R.length (i64s (ends R)) rfl H12.out rfl 1 1 [.int .i64 (x.now + fv)] rfl rfl (by simp [Value.oneCell']) (by omega) (by omega) ?_; intro v14 w14 H14; obtain ⟨ma, mc, rfl, _⟩ := St.slice (by omega) 0 H14 rfl))
                        have HC14 := (H14.arr [3, 4, 0, 1, 2, 5] rfl).drops 2
                        refine hK _ _ HC14 ?_
                        clear hK K
                        have H15 : St w none0 w14 [orderP o s k X, cellA w.heap.size [.int .i64 X.mode, .int .i64 X.hold], rowA 1 (.slice na (R.length + 1) nc) (R.length + 1) (i64s (nums R) ++ [.int .i64 num]), rowA 1 (.slice ma (R.length + 1) mc) (R.length + 1) (i64s (ends R) ++ [.int .i64 (x.now + fv)])] := by rw [hXm.out.1, hXm.out.2]; exact (H14.arr [2, 4, 1, 0, 3, 5] rfl).drops 4
                        clear H14 H12 HC12
                        replace HC14 := Lib.hid HC14; replace H15 := Lib.hid H15
                        refine held_one (i := 11) (by kernel_rfl) fun K hK => ?_
                        simp only [List.drop_succ_cons, List.drop_zero, List.take_succ_cons, List.take_zero]
                        go_wp2_with fail
                        refine hK _ _ HC14.out ?_
                        clear hK K
                        refine held_done (by kernel_rfl) ?_
                        go_wp2_with fail
                        go_meet
                        refine ⟨X, R ++ [(num, x.now + fv)], by rw [List.length_append]; simp only [List.length_cons, List.length_nil]; omega, hgX, hdX, Lib.hid ?_⟩
                        have H16 := H15.out
                        rw [show i64s (nums R) ++ [Value.int .i64 num] = i64s (nums (R ++ [(num, x.now + fv)])) from by simp [nums, i64s], show i64s (ends R) ++ [Value.int .i64 (x.now + fv)] = i64s (ends (R ++ [(num, x.now + fv)])) from by simp [ends, i64s]] at H16
                        rw [List.length_append]
                        exact H16
                      · have q1 : decide (num = x.c + 1) = false := decide_eq_false e1
                        have q1' : (num == x.c + 1) = false := by simpa using e1
                        replace e1 := Lib.hid e1; replace hd1 := Lib.hid hd1; replace hd2 := Lib.hid hd2; replace hq := Lib.hid hq; replace hw0 := Lib.hid hw0
                        go_wp2_with fail
                        refine wp_region_near (by kernel_rfl) (by kernel_rfl) ?_
                        intro hs
                        repeat (go_big_quiet_step ((go_at_call 47; exact Calls.near (by simp) (PC2.out _))))
                        refine wpQuiet_nil ?_
                        clear hs
                        intro w9 hb9
                        have H9 := H8.out.thru hb9
                        obtain ⟨z9, k9, f9⟩ := H9.box 1 rfl
                        clear H8 PC2 k8 f8 z8
                        rw [if_pos trivial] at hdX
                        replace H9 := Lib.hid H9; replace hdX := Lib.hid hdX
                        go_wp2_with (at_builtin; (refine wpList_appS rfl (.tmp 93) (.tmp 97) _ rfl 3 i0 _ 1 8 Try.underlying34 hi hz hz1 hz2 rfl (by omega) 3 _ R.length (i64s (nums R)) rfl H9.out rfl 1 1 [.int .i64 num] rfl rfl (by simp [Value.oneCell']) (by omega) (by omega) ?_; intro v10 w10 H10; obtain ⟨na, nc, rfl, _⟩ := St.slice (by omega) 0 H10 rfl; replace H10 := Lib.hid H10))
                        have HC10 : St w none0 w10 [cellA wr.heap.size [.int .i64 0, .int .i64 own, .int .i64 num, .string dat, .slice a trips.length cap, .int .i64 mode, .int .i64 hold], cellA w.heap.size [.int .i64 x.mode, .int .i64 x.hold]] := (H10.out.arr [2, 3, 0, 1, 4, 5] rfl).drops 2
                        have hcl0 : ∀ (s' : Cls w none0 [cellA wr.heap.size [.int .i64 0, .int .i64 own, .int .i64 num, .string dat, .slice a trips.length cap, .int .i64 mode, .int .i64 hold], cellA w.heap.size [.int .i64 x.mode, .int .i64 x.hold]]) (i : Nat), s'.it.cell? ⟨wr.heap.size, i, none⟩ = [Value.int .i64 0, .int .i64 own, .int .i64 num, .string dat, .slice a trips.length cap, .int .i64 mode, .int .i64 hold][i]? := fun s => (s.st.box 0 rfl).cells
                        have hcl1 : ∀ (s' : Cls w none0 [cellA wr.heap.size [.int .i64 0, .int .i64 own, .int .i64 num, .string dat, .slice a trips.length cap, .int .i64 mode, .int .i64 hold], cellA w.heap.size [.int .i64 x.mode, .int .i64 x.hold]]) (i : Nat), s'.it.cell? ⟨w.heap.size, i, none⟩ = [Value.int .i64 x.mode, .int .i64 x.hold][i]? := fun s => (s.st.box 1 rfl).cells
                        have P3 := now_st (H10.out.drew.front 1 rfl)
                        rw [hXn.out] at P3
                        clear H9 k9 f9 z9
                        replace HC10 := Lib.hid HC10; replace P3 := Lib.hid P3
                        haveI := St.ne HC10.out
                        refine wp_region_madeC HC10.out [0, 1, 3, 4, 5, 6] [true, true, false, true, true, true, true, false, false, false, false, false] 6 #[true, true, false, true, true, true, true, false, false, false, false, false] (by kernel_rfl) rfl (by kernel_rfl) (by kernel_rfl) rfl (by kernel_rfl) (by kernel_rfl) (by intro c a a' w e h; obtain ⟨t, d⟩ := a; obtain ⟨t', d'⟩ := a'; obtain rfl : d = d' := e; exact h) ?_
                        simp only [pickB]
                        repeat (go_big_quiet_step (fail))
                        refine wpQuiet_nil ?_
                        refine held_one (i := 2) (by kernel_rfl) fun K hK => ?_
                        simp only [List.drop_succ_cons, List.drop_zero, List.take_succ_cons, List.take_zero]
                        go_wp2_with fail
                        refine Calls.mono P3.out ?_
                        rintro e w11 ⟨rfl, hb11⟩
                        have H11 := H10.out.drew.thru hb11
                        have HC11 := (H11.arr [2, 3, 0, 1, 4, 5] rfl).drops 2
                        have P4 := PF.out w11 (St.rd (by omega) 5 H11 rfl)
                        clear P3 H10 HC10
                        replace HC11 := Lib.hid HC11; replace P4 := Lib.hid P4; replace H11 := Lib.hid H11
                        go_wp2_with fail
                        refine hK _ _ HC11.out ?_
                        clear hK K
                        refine held_one (i := 7) (by kernel_rfl) fun K hK => ?_
                        simp only [List.drop_succ_cons, List.drop_zero, List.take_succ_cons, List.take_zero]
                        go_wp2_with fail
                        refine Calls.mono P4.out ?_
                        rintro e w12 ⟨rfl, hb12⟩
                        have H12 := H11.out.thru hb12
                        have HC12 := (H12.arr [2, 3, 0, 1, 4, 5] rfl).drops 2
                        clear P4 H11 HC11
                        replace HC12 := Lib.hid HC12; replace H12 := Lib.hid H12
                        go_wp2_with fail
                        refine hK _ _ HC12.out ?_
                        clear hK K
                        haveI := St.ne HC12.out
                        refine calmC HC12.out [8] [false, false, false, false, false, false, false, false, true, false, false, false] 3 4 #[true, true, true, true, true, true, true, true, false, false, false, false] #[true, true, true, true, true, true, true, true, true, false, false, false] rfl (by kernel_rfl) (by kernel_rfl) rfl (by kernel_rfl) (by kernel_rfl) (by intro c a a' w e h; obtain ⟨t, d⟩ := a; obtain ⟨t', d'⟩ := a'; obtain rfl : d = d' := e; exact h) ?_
                        simp only [pickB]
                        repeat (go_big_quiet_step (fail))
                        refine wpQuiet_nil ?_
                        refine held_one (i := 9) (by kernel_rfl) fun K hK => ?_
                        simp only [List.drop_succ_cons, List.drop_zero, List.take_succ_cons, List.take_zero]
                        go_wp2_with fail
                        have HC13 := ((H12.out.skip (.cells #[.int .i64 (x.now + fv)] 3)).arr [2, 3, 0, 1, 4, 5] rfl).drops 2
                        refine hK _ _ HC13 ?_
                        clear hK K HC13
                        refine held_one (i := 10) (by kernel_rfl) fun K hK => ?_
                        simp only [List.drop_succ_cons, List.drop_zero, List.take_succ_cons, List.take_zero]
                        go_wp2_with (at_builtin; (refine wpList_appS rfl (.tmp 99) (.tmp 108) _ rfl 3 i0 _ 1 8 Try.underlying34 hi hz hz1 hz2 rfl (by omega) 4 _ R.length (i64s (ends R)) rfl H12.out rfl 1 1 [.int .i64 (x.now + fv)] rfl rfl (by simp [Value.oneCell']) (by omega) (by omega) ?_; intro v14 w14 H14; obtain ⟨ma, mc, rfl, _⟩ := St.slice (by omega) 0 H14 rfl))
                        have HC14 := (H14.arr [3, 4, 0, 1, 2, 5] rfl).drops 2
                        refine hK _ _ HC14 ?_
                        clear hK K
                        have H15 : St w none0 w14 [orderP o s k X, cellA w.heap.size [.int .i64 X.mode, .int .i64 X.hold], rowA 1 (.slice na (R.length + 1) nc) (R.length + 1) (i64s (nums R) ++ [.int .i64 num]), rowA 1 (.slice ma (R.length + 1) mc) (R.length + 1) (i64s (ends R) ++ [.int .i64 (x.now + fv)])] := by rw [hXm.out.1, hXm.out.2]; exact (H14.arr [2, 4, 1, 0, 3, 5] rfl).drops 4
                        clear H14 H12 HC12
                        replace HC14 := Lib.hid HC14; replace H15 := Lib.hid H15
                        refine held_one (i := 11) (by kernel_rfl) fun K hK => ?_
                        simp only [List.drop_succ_cons, List.drop_zero, List.take_succ_cons, List.take_zero]
                        go_wp2_with fail
                        refine hK _ _ HC14.out ?_
                        clear hK K
                        refine held_done (by kernel_rfl) ?_
                        go_wp2_with fail
                        go_meet
                        refine ⟨X, R ++ [(num, x.now + fv)], by rw [List.length_append]; simp only [List.length_cons, List.length_nil]; omega, hgX, hdX, Lib.hid ?_⟩
                        have H16 := H15.out
                        rw [show i64s (nums R) ++ [Value.int .i64 num] = i64s (nums (R ++ [(num, x.now + fv)])) from by simp [nums, i64s], show i64s (ends R) ++ [Value.int .i64 (x.now + fv)] = i64s (ends (R ++ [(num, x.now + fv)])) from by simp [ends, i64s]] at H16
                        rw [List.length_append]
                        exact H16
                    · have q3 : (what == 1) = false := by simpa using hw1'
                      have q3' : decide (what = 1) = false := decide_eq_false hw1'
                      by_cases e1 : num = x.c + 1
                      · have q1 : decide (num = x.c + 1) = true := decide_eq_true e1
                        have q1' : (num == x.c + 1) = true := by simpa using e1
                        have q2 : decide (x.c < 140737488355327) = false := decide_eq_false (hq e1)
                        replace e1 := Lib.hid e1; replace hd1 := Lib.hid hd1; replace hd2 := Lib.hid hd2; replace hq := Lib.hid hq
                        go_wp2_with fail
                        refine wp_region_near (by kernel_rfl) (by kernel_rfl) ?_
                        intro hs
                        repeat (go_big_quiet_step ((go_at_call 47; exact Calls.near (by simp) (PC2.out _))))
                        refine wpQuiet_nil ?_
                        clear hs
                        intro w9 hb9
                        have H9 := H8.out.thru hb9
                        obtain ⟨z9, k9, f9⟩ := H9.box 1 rfl
                        clear H8 PC2 k8 f8 z8
                        rw [if_neg (by omega)] at hdX
                        have H10 : St w none0 w9 [orderP o s k X, cellA w.heap.size [.int .i64 X.mode, .int .i64 X.hold], rowA 1 (.slice va R.length vc) R.length (i64s (nums R)), rowA 1 (.slice ea R.length ec) R.length (i64s (ends R))] := by rw [hXm.out.1, hXm.out.2]; exact (H9.arr [0, 2, 3, 4, 1, 5] rfl).drops 4
                        replace H9 := Lib.hid H9; replace H10 := Lib.hid H10; replace hdX := Lib.hid hdX
                        go_wp2_with fail
                        go_meet
                        exact ⟨X, R, by omega, hgX, hdX, H10⟩
                      · have q1 : decide (num = x.c + 1) = false := decide_eq_false e1
                        have q1' : (num == x.c + 1) = false := by simpa using e1
                        replace e1 := Lib.hid e1; replace hd1 := Lib.hid hd1; replace hd2 := Lib.hid hd2; replace hq := Lib.hid hq
                        go_wp2_with fail
                        refine wp_region_near (by kernel_rfl) (by kernel_rfl) ?_
                        intro hs
                        repeat (go_big_quiet_step ((go_at_call 47; exact Calls.near (by simp) (PC2.out _))))
                        refine wpQuiet_nil ?_
                        clear hs
                        intro w9 hb9
                        have H9 := H8.out.thru hb9
                        obtain ⟨z9, k9, f9⟩ := H9.box 1 rfl
                        clear H8 PC2 k8 f8 z8
                        rw [if_neg (by omega)] at hdX
                        have H10 : St w none0 w9 [orderP o s k X, cellA w.heap.size [.int .i64 X.mode, .int .i64 X.hold], rowA 1 (.slice va R.length vc) R.length (i64s (nums R)), rowA 1 (.slice ea R.length ec) R.length (i64s (ends R))] := by rw [hXm.out.1, hXm.out.2]; exact (H9.arr [0, 2, 3, 4, 1, 5] rfl).drops 4
                        replace H9 := Lib.hid H9; replace H10 := Lib.hid H10; replace hdX := Lib.hid hdX
                        go_wp2_with fail
                        go_meet
                        exact ⟨X, R, by omega, hgX, hdX, H10⟩
              · as_aux_lemma =>
                  have P := cursor_st hgx.out (by omega) HB.out
                  replace P := Lib.hid P
                  go_wp2_with fail
                  refine Calls.mono (P.out) ?_
                  rintro e w7 ⟨rfl, hb7⟩
                  have z7 := Below.size hb7; try simp only [World.size_alloc, World.size_setCell, World.size_drew] at z7
                  have H7 := HB.out.thru hb7
                  obtain ⟨z7, k7, f7⟩ := H7.box 1 rfl
                  have P2 := take_st o s k x (num, dat) own trips trips.length rfl (by omega) ta tc hgx.out (by omega) (fun w' h => St.rd (by omega) 4 h rfl) H7
                  have hgX := hgx.out.take (num, dat) (forF x.mode x.hold own trips)
                  obtain ⟨hdX, hd1, hd2⟩ := hdx.out.take hgx.out (num, dat) (forF x.mode x.hold own trips)
                  have hXn : (takeS x (num, dat) (forF x.mode x.hold own trips)).now = x.now := rfl
                  have hXm : (takeS x (num, dat) (forF x.mode x.hold own trips)).mode = x.mode ∧ (takeS x (num, dat) (forF x.mode x.hold own trips)).hold = x.hold := ⟨rfl, rfl⟩
                  have hcc0 := hgx.out.ok.c0
                  have hcc1 := hgx.out.ok.c1
                  unfold top at hcc1 hd1
                  have hnow0 := hgx.out.n0
                  have hnow1 := hgx.out.n1
                  obtain ⟨hf0, hf1⟩ : 0 ≤ forF x.mode x.hold own trips ∧ forF x.mode x.hold own trips ≤ 60 := opF_bd x ⟨0, own, num, dat, trips, a, cap, mode, hold⟩
                  have PF := fun w' (h : Rd w' ta (i64s trips)) => for_any x.mode x.hold own trips trips.length rfl (by omega) ta tc w' h
                  generalize forF x.mode x.hold own trips = fv at *
                  generalize takeS x (num, dat) fv = X at *
                  generalize (putP x (num, dat) fv).1.1 = what at *
                  simp only at P2 hd1 hd2 hdX
                  have hhw : what = 1 ∨ what ≠ 1 := by omega
                  clear P HB H7
                  replace P2 := Lib.hid P2; replace hgX := Lib.hid hgX; replace hdX := Lib.hid hdX; replace hXn := Lib.hid hXn; replace hXm := Lib.hid hXm; replace PF := Lib.hid PF; replace hhw := Lib.hid hhw
                  go_wp2_with fail
                  refine Calls.mono P2.out ?_
                  rintro e w8 ⟨rfl, H8⟩
                  obtain ⟨z8, k8, f8⟩ := H8.box 1 rfl
                  have PC2 := fun (s' : Near w8.heap.size w8) => cursor_st hgX.out (by omega) (H8.thruB (by simp) (Near.near s'))
                  clear P2 k7 f7 z7
                  replace H8 := Lib.hid H8; replace PC2 := Lib.hid PC2
                  have hw1 : IntKind.i64.wrap (x.c + 1) = x.c + 1 := by rw [IntKind.wrap_i64]; omega
                  by_cases hw0 : what = 0
                  · have hcx : num ≤ X.c := hd2 hw0
                    have q5 : decide (X.c < num) = false := decide_eq_false (by omega)
                    subst hw0
                    by_cases e1 : num = x.c + 1
                    · have q1 : decide (num = x.c + 1) = true := decide_eq_true e1
                      have q1' : (num == x.c + 1) = true := by simpa using e1
                      by_cases e2 : x.c < 140737488355327
                      · have q2 : decide (x.c < 140737488355327) = true := decide_eq_true e2
                        replace e1 := Lib.hid e1; replace e2 := Lib.hid e2; replace hd1 := Lib.hid hd1; replace hd2 := Lib.hid hd2
                        go_wp2_with fail
                        refine wp_region_near (by kernel_rfl) (by kernel_rfl) ?_
                        intro hs
                        repeat (go_big_quiet_step ((go_at_call 47; exact Calls.near (by simp) (PC2.out _))))
                        refine wpQuiet_nil ?_
                        clear hs
                        intro w9 hb9
                        have H9 := H8.out.thru hb9
                        obtain ⟨z9, k9, f9⟩ := H9.box 1 rfl
                        clear H8 PC2 k8 f8 z8
                        rw [if_neg (by omega)] at hdX
                        have H10 : St w none0 w9 [orderP o s k X, cellA w.heap.size [.int .i64 X.mode, .int .i64 X.hold], rowA 1 (.slice va R.length vc) R.length (i64s (nums R)), rowA 1 (.slice ea R.length ec) R.length (i64s (ends R))] := by rw [hXm.out.1, hXm.out.2]; exact (H9.arr [0, 2, 3, 4, 1, 5] rfl).drops 4
                        replace H9 := Lib.hid H9; replace H10 := Lib.hid H10; replace hdX := Lib.hid hdX
                        go_wp2_with fail
                        go_meet
                        exact ⟨X, R, by omega, hgX, hdX, H10⟩
                      · have q2 : decide (x.c < 140737488355327) = false := decide_eq_false e2
                        replace e1 := Lib.hid e1; replace e2 := Lib.hid e2; replace hd1 := Lib.hid hd1; replace hd2 := Lib.hid hd2
                        go_wp2_with fail
                        refine wp_region_near (by kernel_rfl) (by kernel_rfl) ?_
                        intro hs
                        repeat (go_big_quiet_step ((go_at_call 47; exact Calls.near (by simp) (PC2.out _))))
                        refine wpQuiet_nil ?_
                        clear hs
                        intro w9 hb9
                        have H9 := H8.out.thru hb9
                        obtain ⟨z9, k9, f9⟩ := H9.box 1 rfl
                        clear H8 PC2 k8 f8 z8
                        rw [if_neg (by omega)] at hdX
                        have H10 : St w none0 w9 [orderP o s k X, cellA w.heap.size [.int .i64 X.mode, .int .i64 X.hold], rowA 1 (.slice va R.length vc) R.length (i64s (nums R)), rowA 1 (.slice ea R.length ec) R.length (i64s (ends R))] := by rw [hXm.out.1, hXm.out.2]; exact (H9.arr [0, 2, 3, 4, 1, 5] rfl).drops 4
                        replace H9 := Lib.hid H9; replace H10 := Lib.hid H10; replace hdX := Lib.hid hdX
                        go_wp2_with fail
                        go_meet
                        exact ⟨X, R, by omega, hgX, hdX, H10⟩
                    · have q1 : decide (num = x.c + 1) = false := decide_eq_false e1
                      have q1' : (num == x.c + 1) = false := by simpa using e1
                      replace e1 := Lib.hid e1; replace hd1 := Lib.hid hd1; replace hd2 := Lib.hid hd2
                      go_wp2_with fail
                      refine wp_region_near (by kernel_rfl) (by kernel_rfl) ?_
                      intro hs
                      repeat (go_big_quiet_step ((go_at_call 47; exact Calls.near (by simp) (PC2.out _))))
                      refine wpQuiet_nil ?_
                      clear hs
                      intro w9 hb9
                      have H9 := H8.out.thru hb9
                      obtain ⟨z9, k9, f9⟩ := H9.box 1 rfl
                      clear H8 PC2 k8 f8 z8
                      rw [if_neg (by omega)] at hdX
                      have H10 : St w none0 w9 [orderP o s k X, cellA w.heap.size [.int .i64 X.mode, .int .i64 X.hold], rowA 1 (.slice va R.length vc) R.length (i64s (nums R)), rowA 1 (.slice ea R.length ec) R.length (i64s (ends R))] := by rw [hXm.out.1, hXm.out.2]; exact (H9.arr [0, 2, 3, 4, 1, 5] rfl).drops 4
                      replace H9 := Lib.hid H9; replace H10 := Lib.hid H10; replace hdX := Lib.hid hdX
                      go_wp2_with fail
                      go_meet
                      exact ⟨X, R, by omega, hgX, hdX, H10⟩
                  · have q0 : (what == 0) = false := by simpa using hw0
                    have q0' : decide (what = 0) = false := decide_eq_false hw0
                    have q01 : (what != 0) = true := by simpa using hw0
                    have hq : num = x.c + 1 → ¬ x.c < 140737488355327 := fun e h => hw0 (hd1 e (by omega))
                    by_cases hw1' : what = 1
                    · subst hw1'
                      by_cases e1 : num = x.c + 1
                      · have q1 : decide (num = x.c + 1) = true := decide_eq_true e1
                        have q1' : (num == x.c + 1) = true := by simpa using e1
                        have q2 : decide (x.c < 140737488355327) = false := decide_eq_false (hq e1)
                        replace e1 := Lib.hid e1; replace hd1 := Lib.hid hd1; replace hd2 := Lib.hid hd2; replace hq := Lib.hid hq; replace hw0 := Lib.hid hw0
                        go_wp2_with fail
                        refine wp_region_near (by kernel_rfl) (by kernel_rfl) ?_
                        intro hs
                        repeat (go_big_quiet_step ((go_at_call 47; exact Calls.near (by simp) (PC2.out _))))
                        refine wpQuiet_nil ?_
                        clear hs
                        intro w9 hb9
                        have H9 := H8.out.thru hb9
                        obtain ⟨z9, k9, f9⟩ := H9.box 1 rfl
                        clear H8 PC2 k8 f8 z8
                        rw [if_pos trivial] at hdX
                        replace H9 := Lib.hid H9; replace hdX := Lib.hid hdX
                        go_wp2_with (at_builtin; (refine wpList_appS rfl (.tmp 93) (.tmp 97) _ rfl 3 i0 _ 1 8 Try.underlying34 hi hz hz1 hz2 rfl (by omega) 3 _ R.length (i64s (nums R)) rfl H9.out rfl 1 1 [.int .i64 num] rfl rfl (by simp [Value.oneCell']) (by omega) (by omega) ?_; intro v10 w10 H10; obtain ⟨na, nc, rfl, _⟩ := St.slice (by omega) 0 H10 rfl; replace H10 := Lib.hid H10))
                        have HC10 : St w none0 w10 [cellA wr.heap.size [.int .i64 1, .int .i64 own, .int .i64 num, .string dat, .slice a trips.length cap, .int .i64 mode, .int .i64 hold], cellA w.heap.size [.int .i64 x.mode, .int .i64 x.hold]] := (H10.out.arr [2, 3, 0, 1, 4, 5] rfl).drops 2
                        have hcl0 : ∀ (s' : Cls w none0 [cellA wr.heap.size [.int .i64 1, .int .i64 own, .int .i64 num, .string dat, .slice a trips.length cap, .int .i64 mode, .int .i64 hold], cellA w.heap.size [.int .i64 x.mode, .int .i64 x.hold]]) (i : Nat), s'.it.cell? ⟨wr.heap.size, i, none⟩ = [Value.int .i64 1, .int .i64 own, .int .i64 num, .string dat, .slice a trips.length cap, .int .i64 mode, .int .i64 hold][i]? := fun s => (s.st.box 0 rfl).cells
                        have hcl1 : ∀ (s' : Cls w none0 [cellA wr.heap.size [.int .i64 1, .int .i64 own, .int .i64 num, .string dat, .slice a trips.length cap, .int .i64 mode, .int .i64 hold], cellA w.heap.size [.int .i64 x.mode, .int .i64 x.hold]]) (i : Nat), s'.it.cell? ⟨w.heap.size, i, none⟩ = [Value.int .i64 x.mode, .int .i64 x.hold][i]? := fun s => (s.st.box 1 rfl).cells
                        have P3 := now_st (H10.out.drew.front 1 rfl)
                        rw [hXn.out] at P3
                        clear H9 k9 f9 z9
                        replace HC10 := Lib.hid HC10; replace P3 := Lib.hid P3
                        haveI := St.ne HC10.out
                        refine wp_region_madeC HC10.out [0, 1, 3, 4, 5, 6] [true, true, false, true, true, true, true, false, false, false, false, false] 6 #[true, true, false, true, true, true, true, false, false, false, false, false] (by kernel_rfl) rfl (by kernel_rfl) (by kernel_rfl) rfl (by kernel_rfl) (by kernel_rfl) (by intro c a a' w e h; obtain ⟨t, d⟩ := a; obtain ⟨t', d'⟩ := a'; obtain rfl : d = d' := e; exact h) ?_
                        simp only [pickB]
                        repeat (go_big_quiet_step (fail))
                        refine wpQuiet_nil ?_
                        refine held_one (i := 2) (by kernel_rfl) fun K hK => ?_
                        simp only [List.drop_succ_cons, List.drop_zero, List.take_succ_cons, List.take_zero]
                        go_wp2_with fail
                        refine Calls.mono P3.out ?_
                        rintro e w11 ⟨rfl, hb11⟩
                        have H11 := H10.out.drew.thru hb11
                        have HC11 := (H11.arr [2, 3, 0, 1, 4, 5] rfl).drops 2
                        have P4 := PF.out w11 (St.rd (by omega) 5 H11 rfl)
                        clear P3 H10 HC10
                        replace HC11 := Lib.hid HC11; replace P4 := Lib.hid P4; replace H11 := Lib.hid H11
                        go_wp2_with fail
                        refine hK _ _ HC11.out ?_
                        clear hK K
                        refine held_one (i := 7) (by kernel_rfl) fun K hK => ?_
                        simp only [List.drop_succ_cons, List.drop_zero, List.take_succ_cons, List.take_zero]
                        go_wp2_with fail
                        refine Calls.mono P4.out ?_
                        rintro e w12 ⟨rfl, hb12⟩
                        have H12 := H11.out.thru hb12
                        have HC12 := (H12.arr [2, 3, 0, 1, 4, 5] rfl).drops 2
                        clear P4 H11 HC11
                        replace HC12 := Lib.hid HC12; replace H12 := Lib.hid H12
                        go_wp2_with fail
                        refine hK _ _ HC12.out ?_
                        clear hK K
                        haveI := St.ne HC12.out
                        refine calmC HC12.out [8] [false, false, false, false, false, false, false, false, true, false, false, false] 3 4 #[true, true, true, true, true, true, true, true, false, false, false, false] #[true, true, true, true, true, true, true, true, true, false, false, false] rfl (by kernel_rfl) (by kernel_rfl) rfl (by kernel_rfl) (by kernel_rfl) (by intro c a a' w e h; obtain ⟨t, d⟩ := a; obtain ⟨t', d'⟩ := a'; obtain rfl : d = d' := e; exact h) ?_
                        simp only [pickB]
                        repeat (go_big_quiet_step (fail))
                        refine wpQuiet_nil ?_
                        refine held_one (i := 9) (by kernel_rfl) fun K hK => ?_
                        simp only [List.drop_succ_cons, List.drop_zero, List.take_succ_cons, List.take_zero]
                        go_wp2_with fail
                        have HC13 := ((H12.out.skip (.cells #[.int .i64 (x.now + fv)] 3)).arr [2, 3, 0, 1, 4, 5] rfl).drops 2
                        refine hK _ _ HC13 ?_
                        clear hK K HC13
                        refine held_one (i := 10) (by kernel_rfl) fun K hK => ?_
                        simp only [List.drop_succ_cons, List.drop_zero, List.take_succ_cons, List.take_zero]
                        go_wp2_with (at_builtin; (refine wpList_appS rfl (.tmp 99) (.tmp 108) _ rfl 3 i0 _ 1 8 Try.underlying34 hi hz hz1 hz2 rfl (by omega) 4 _ R.length (i64s (ends R)) rfl H12.out rfl 1 1 [.int .i64 (x.now + fv)] rfl rfl (by simp [Value.oneCell']) (by omega) (by omega) ?_; intro v14 w14 H14; obtain ⟨ma, mc, rfl, _⟩ := St.slice (by omega) 0 H14 rfl))
                        have HC14 := (H14.arr [3, 4, 0, 1, 2, 5] rfl).drops 2
                        refine hK _ _ HC14 ?_
                        clear hK K
                        have H15 : St w none0 w14 [orderP o s k X, cellA w.heap.size [.int .i64 X.mode, .int .i64 X.hold], rowA 1 (.slice na (R.length + 1) nc) (R.length + 1) (i64s (nums R) ++ [.int .i64 num]), rowA 1 (.slice ma (R.length + 1) mc) (R.length + 1) (i64s (ends R) ++ [.int .i64 (x.now + fv)])] := by rw [hXm.out.1, hXm.out.2]; exact (H14.arr [2, 4, 1, 0, 3, 5] rfl).drops 4
                        clear H14 H12 HC12
                        replace HC14 := Lib.hid HC14; replace H15 := Lib.hid H15
                        refine held_one (i := 11) (by kernel_rfl) fun K hK => ?_
                        simp only [List.drop_succ_cons, List.drop_zero, List.take_succ_cons, List.take_zero]
                        go_wp2_with fail
                        refine hK _ _ HC14.out ?_
                        clear hK K
                        refine held_done (by kernel_rfl) ?_
                        go_wp2_with fail
                        go_meet
                        refine ⟨X, R ++ [(num, x.now + fv)], by rw [List.length_append]; simp only [List.length_cons, List.length_nil]; omega, hgX, hdX, Lib.hid ?_⟩
                        have H16 := H15.out
                        rw [show i64s (nums R) ++ [Value.int .i64 num] = i64s (nums (R ++ [(num, x.now + fv)])) from by simp [nums, i64s], show i64s (ends R) ++ [Value.int .i64 (x.now + fv)] = i64s (ends (R ++ [(num, x.now + fv)])) from by simp [ends, i64s]] at H16
                        rw [List.length_append]
                        exact H16
                      · have q1 : decide (num = x.c + 1) = false := decide_eq_false e1
                        have q1' : (num == x.c + 1) = false := by simpa using e1
                        replace e1 := Lib.hid e1; replace hd1 := Lib.hid hd1; replace hd2 := Lib.hid hd2; replace hq := Lib.hid hq; replace hw0 := Lib.hid hw0
                        go_wp2_with fail
                        refine wp_region_near (by kernel_rfl) (by kernel_rfl) ?_
                        intro hs
                        repeat (go_big_quiet_step ((go_at_call 47; exact Calls.near (by simp) (PC2.out _))))
                        refine wpQuiet_nil ?_
                        clear hs
                        intro w9 hb9
                        have H9 := H8.out.thru hb9
                        obtain ⟨z9, k9, f9⟩ := H9.box 1 rfl
                        clear H8 PC2 k8 f8 z8
                        rw [if_pos trivial] at hdX
                        replace H9 := Lib.hid H9; replace hdX := Lib.hid hdX
                        go_wp2_with (at_builtin; (refine wpList_appS rfl (.tmp 93) (.tmp 97) _ rfl 3 i0 _ 1 8 Try.underlying34 hi hz hz1 hz2 rfl (by omega) 3 _ R.length (i64s (nums R)) rfl H9.out rfl 1 1 [.int .i64 num] rfl rfl (by simp [Value.oneCell']) (by omega) (by omega) ?_; intro v10 w10 H10; obtain ⟨na, nc, rfl, _⟩ := St.slice (by omega) 0 H10 rfl; replace H10 := Lib.hid H10))
                        have HC10 : St w none0 w10 [cellA wr.heap.size [.int .i64 1, .int .i64 own, .int .i64 num, .string dat, .slice a trips.length cap, .int .i64 mode, .int .i64 hold], cellA w.heap.size [.int .i64 x.mode, .int .i64 x.hold]] := (H10.out.arr [2, 3, 0, 1, 4, 5] rfl).drops 2
                        have hcl0 : ∀ (s' : Cls w none0 [cellA wr.heap.size [.int .i64 1, .int .i64 own, .int .i64 num, .string dat, .slice a trips.length cap, .int .i64 mode, .int .i64 hold], cellA w.heap.size [.int .i64 x.mode, .int .i64 x.hold]]) (i : Nat), s'.it.cell? ⟨wr.heap.size, i, none⟩ = [Value.int .i64 1, .int .i64 own, .int .i64 num, .string dat, .slice a trips.length cap, .int .i64 mode, .int .i64 hold][i]? := fun s => (s.st.box 0 rfl).cells
                        have hcl1 : ∀ (s' : Cls w none0 [cellA wr.heap.size [.int .i64 1, .int .i64 own, .int .i64 num, .string dat, .slice a trips.length cap, .int .i64 mode, .int .i64 hold], cellA w.heap.size [.int .i64 x.mode, .int .i64 x.hold]]) (i : Nat), s'.it.cell? ⟨w.heap.size, i, none⟩ = [Value.int .i64 x.mode, .int .i64 x.hold][i]? := fun s => (s.st.box 1 rfl).cells
                        have P3 := now_st (H10.out.drew.front 1 rfl)
                        rw [hXn.out] at P3
                        clear H9 k9 f9 z9
                        replace HC10 := Lib.hid HC10; replace P3 := Lib.hid P3
                        haveI := St.ne HC10.out
                        refine wp_region_madeC HC10.out [0, 1, 3, 4, 5, 6] [true, true, false, true, true, true, true, false, false, false, false, false] 6 #[true, true, false, true, true, true, true, false, false, false, false, false] (by kernel_rfl) rfl (by kernel_rfl) (by kernel_rfl) rfl (by kernel_rfl) (by kernel_rfl) (by intro c a a' w e h; obtain ⟨t, d⟩ := a; obtain ⟨t', d'⟩ := a'; obtain rfl : d = d' := e; exact h) ?_
                        simp only [pickB]
                        repeat (go_big_quiet_step (fail))
                        refine wpQuiet_nil ?_
                        refine held_one (i := 2) (by kernel_rfl) fun K hK => ?_
                        simp only [List.drop_succ_cons, List.drop_zero, List.take_succ_cons, List.take_zero]
                        go_wp2_with fail
                        refine Calls.mono P3.out ?_
                        rintro e w11 ⟨rfl, hb11⟩
                        have H11 := H10.out.drew.thru hb11
                        have HC11 := (H11.arr [2, 3, 0, 1, 4, 5] rfl).drops 2
                        have P4 := PF.out w11 (St.rd (by omega) 5 H11 rfl)
                        clear P3 H10 HC10
                        replace HC11 := Lib.hid HC11; replace P4 := Lib.hid P4; replace H11 := Lib.hid H11
                        go_wp2_with fail
                        refine hK _ _ HC11.out ?_
                        clear hK K
                        refine held_one (i := 7) (by kernel_rfl) fun K hK => ?_
                        simp only [List.drop_succ_cons, List.drop_zero, List.take_succ_cons, List.take_zero]
                        go_wp2_with fail
                        refine Calls.mono P4.out ?_
                        rintro e w12 ⟨rfl, hb12⟩
                        have H12 := H11.out.thru hb12
                        have HC12 := (H12.arr [2, 3, 0, 1, 4, 5] rfl).drops 2
                        clear P4 H11 HC11
                        replace HC12 := Lib.hid HC12; replace H12 := Lib.hid H12
                        go_wp2_with fail
                        refine hK _ _ HC12.out ?_
                        clear hK K
                        haveI := St.ne HC12.out
                        refine calmC HC12.out [8] [false, false, false, false, false, false, false, false, true, false, false, false] 3 4 #[true, true, true, true, true, true, true, true, false, false, false, false] #[true, true, true, true, true, true, true, true, true, false, false, false] rfl (by kernel_rfl) (by kernel_rfl) rfl (by kernel_rfl) (by kernel_rfl) (by intro c a a' w e h; obtain ⟨t, d⟩ := a; obtain ⟨t', d'⟩ := a'; obtain rfl : d = d' := e; exact h) ?_
                        simp only [pickB]
                        repeat (go_big_quiet_step (fail))
                        refine wpQuiet_nil ?_
                        refine held_one (i := 9) (by kernel_rfl) fun K hK => ?_
                        simp only [List.drop_succ_cons, List.drop_zero, List.take_succ_cons, List.take_zero]
                        go_wp2_with fail
                        have HC13 := ((H12.out.skip (.cells #[.int .i64 (x.now + fv)] 3)).arr [2, 3, 0, 1, 4, 5] rfl).drops 2
                        refine hK _ _ HC13 ?_
                        clear hK K HC13
                        refine held_one (i := 10) (by kernel_rfl) fun K hK => ?_
                        simp only [List.drop_succ_cons, List.drop_zero, List.take_succ_cons, List.take_zero]
                        go_wp2_with (at_builtin; (refine wpList_appS rfl (.tmp 99) (.tmp 108) _ rfl 3 i0 _ 1 8 Try.underlying34 hi hz hz1 hz2 rfl (by omega) 4 _ R.length (i64s (ends R)) rfl H12.out rfl 1 1 [.int .i64 (x.now + fv)] rfl rfl (by simp [Value.oneCell']) (by omega) (by omega) ?_; intro v14 w14 H14; obtain ⟨ma, mc, rfl, _⟩ := St.slice (by omega) 0 H14 rfl))
                        have HC14 := (H14.arr [3, 4, 0, 1, 2, 5] rfl).drops 2
                        refine hK _ _ HC14 ?_
                        clear hK K
                        have H15 : St w none0 w14 [orderP o s k X, cellA w.heap.size [.int .i64 X.mode, .int .i64 X.hold], rowA 1 (.slice na (R.length + 1) nc) (R.length + 1) (i64s (nums R) ++ [.int .i64 num]), rowA 1 (.slice ma (R.length + 1) mc) (R.length + 1) (i64s (ends R) ++ [.int .i64 (x.now + fv)])] := by rw [hXm.out.1, hXm.out.2]; exact (H14.arr [2, 4, 1, 0, 3, 5] rfl).drops 4
                        clear H14 H12 HC12
                        replace HC14 := Lib.hid HC14; replace H15 := Lib.hid H15
                        refine held_one (i := 11) (by kernel_rfl) fun K hK => ?_
                        simp only [List.drop_succ_cons, List.drop_zero, List.take_succ_cons, List.take_zero]
                        go_wp2_with fail
                        refine hK _ _ HC14.out ?_
                        clear hK K
                        refine held_done (by kernel_rfl) ?_
                        go_wp2_with fail
                        go_meet
                        refine ⟨X, R ++ [(num, x.now + fv)], by rw [List.length_append]; simp only [List.length_cons, List.length_nil]; omega, hgX, hdX, Lib.hid ?_⟩
                        have H16 := H15.out
                        rw [show i64s (nums R) ++ [Value.int .i64 num] = i64s (nums (R ++ [(num, x.now + fv)])) from by simp [nums, i64s], show i64s (ends R) ++ [Value.int .i64 (x.now + fv)] = i64s (ends (R ++ [(num, x.now + fv)])) from by simp [ends, i64s]] at H16
                        rw [List.length_append]
                        exact H16
                    · have q3 : (what == 1) = false := by simpa using hw1'
                      have q3' : decide (what = 1) = false := decide_eq_false hw1'
                      by_cases e1 : num = x.c + 1
                      · have q1 : decide (num = x.c + 1) = true := decide_eq_true e1
                        have q1' : (num == x.c + 1) = true := by simpa using e1
                        have q2 : decide (x.c < 140737488355327) = false := decide_eq_false (hq e1)
                        replace e1 := Lib.hid e1; replace hd1 := Lib.hid hd1; replace hd2 := Lib.hid hd2; replace hq := Lib.hid hq
                        go_wp2_with fail
                        refine wp_region_near (by kernel_rfl) (by kernel_rfl) ?_
                        intro hs
                        repeat (go_big_quiet_step ((go_at_call 47; exact Calls.near (by simp) (PC2.out _))))
                        refine wpQuiet_nil ?_
                        clear hs
                        intro w9 hb9
                        have H9 := H8.out.thru hb9
                        obtain ⟨z9, k9, f9⟩ := H9.box 1 rfl
                        clear H8 PC2 k8 f8 z8
                        rw [if_neg (by omega)] at hdX
                        have H10 : St w none0 w9 [orderP o s k X, cellA w.heap.size [.int .i64 X.mode, .int .i64 X.hold], rowA 1 (.slice va R.length vc) R.length (i64s (nums R)), rowA 1 (.slice ea R.length ec) R.length (i64s (ends R))] := by rw [hXm.out.1, hXm.out.2]; exact (H9.arr [0, 2, 3, 4, 1, 5] rfl).drops 4
                        replace H9 := Lib.hid H9; replace H10 := Lib.hid H10; replace hdX := Lib.hid hdX
                        go_wp2_with fail
                        go_meet
                        exact ⟨X, R, by omega, hgX, hdX, H10⟩
                      · have q1 : decide (num = x.c + 1) = false := decide_eq_false e1
                        have q1' : (num == x.c + 1) = false := by simpa using e1
                        replace e1 := Lib.hid e1; replace hd1 := Lib.hid hd1; replace hd2 := Lib.hid hd2; replace hq := Lib.hid hq
                        go_wp2_with fail
                        refine wp_region_near (by kernel_rfl) (by kernel_rfl) ?_
                        intro hs
                        repeat (go_big_quiet_step ((go_at_call 47; exact Calls.near (by simp) (PC2.out _))))
                        refine wpQuiet_nil ?_
                        clear hs
                        intro w9 hb9
                        have H9 := H8.out.thru hb9
                        obtain ⟨z9, k9, f9⟩ := H9.box 1 rfl
                        clear H8 PC2 k8 f8 z8
                        rw [if_neg (by omega)] at hdX
                        have H10 : St w none0 w9 [orderP o s k X, cellA w.heap.size [.int .i64 X.mode, .int .i64 X.hold], rowA 1 (.slice va R.length vc) R.length (i64s (nums R)), rowA 1 (.slice ea R.length ec) R.length (i64s (ends R))] := by rw [hXm.out.1, hXm.out.2]; exact (H9.arr [0, 2, 3, 4, 1, 5] rfl).drops 4
                        replace H9 := Lib.hid H9; replace H10 := Lib.hid H10; replace hdX := Lib.hid hdX
                        go_wp2_with fail
                        go_meet
                        exact ⟨X, R, by omega, hgX, hdX, H10⟩
              · as_aux_lemma =>
                  have P := cursor_st hgx.out (by omega) HB.out
                  replace P := Lib.hid P
                  go_wp2_with fail
                  refine Calls.mono (P.out) ?_
                  rintro e w7 ⟨rfl, hb7⟩
                  have z7 := Below.size hb7; try simp only [World.size_alloc, World.size_setCell, World.size_drew] at z7
                  have H7 := HB.out.thru hb7
                  obtain ⟨z7, k7, f7⟩ := H7.box 1 rfl
                  have P2 := take_st o s k x (num, dat) own trips trips.length rfl (by omega) ta tc hgx.out (by omega) (fun w' h => St.rd (by omega) 4 h rfl) H7
                  have hgX := hgx.out.take (num, dat) (forF x.mode x.hold own trips)
                  obtain ⟨hdX, hd1, hd2⟩ := hdx.out.take hgx.out (num, dat) (forF x.mode x.hold own trips)
                  have hXn : (takeS x (num, dat) (forF x.mode x.hold own trips)).now = x.now := rfl
                  have hXm : (takeS x (num, dat) (forF x.mode x.hold own trips)).mode = x.mode ∧ (takeS x (num, dat) (forF x.mode x.hold own trips)).hold = x.hold := ⟨rfl, rfl⟩
                  have hcc0 := hgx.out.ok.c0
                  have hcc1 := hgx.out.ok.c1
                  unfold top at hcc1 hd1
                  have hnow0 := hgx.out.n0
                  have hnow1 := hgx.out.n1
                  obtain ⟨hf0, hf1⟩ : 0 ≤ forF x.mode x.hold own trips ∧ forF x.mode x.hold own trips ≤ 60 := opF_bd x ⟨0, own, num, dat, trips, a, cap, mode, hold⟩
                  have PF := fun w' (h : Rd w' ta (i64s trips)) => for_any x.mode x.hold own trips trips.length rfl (by omega) ta tc w' h
                  generalize forF x.mode x.hold own trips = fv at *
                  generalize takeS x (num, dat) fv = X at *
                  generalize (putP x (num, dat) fv).1.1 = what at *
                  simp only at P2 hd1 hd2 hdX
                  have hhw : what = 1 ∨ what ≠ 1 := by omega
                  clear P HB H7
                  replace P2 := Lib.hid P2; replace hgX := Lib.hid hgX; replace hdX := Lib.hid hdX; replace hXn := Lib.hid hXn; replace hXm := Lib.hid hXm; replace PF := Lib.hid PF; replace hhw := Lib.hid hhw
                  go_wp2_with fail
                  refine Calls.mono P2.out ?_
                  rintro e w8 ⟨rfl, H8⟩
                  obtain ⟨z8, k8, f8⟩ := H8.box 1 rfl
                  have PC2 := fun (s' : Near w8.heap.size w8) => cursor_st hgX.out (by omega) (H8.thruB (by simp) (Near.near s'))
                  clear P2 k7 f7 z7
                  replace H8 := Lib.hid H8; replace PC2 := Lib.hid PC2
                  have hw1 : IntKind.i64.wrap (x.c + 1) = x.c + 1 := by rw [IntKind.wrap_i64]; omega
                  by_cases hw0 : what = 0
                  · have hcx : num ≤ X.c := hd2 hw0
                    have q5 : decide (X.c < num) = false := decide_eq_false (by omega)
                    subst hw0
                    by_cases e1 : num = x.c + 1
                    · have q1 : decide (num = x.c + 1) = true := decide_eq_true e1
                      have q1' : (num == x.c + 1) = true := by simpa using e1
                      by_cases e2 : x.c < 140737488355327
                      · have q2 : decide (x.c < 140737488355327) = true := decide_eq_true e2
                        replace e1 := Lib.hid e1; replace e2 := Lib.hid e2; replace hd1 := Lib.hid hd1; replace hd2 := Lib.hid hd2
                        go_wp2_with fail
                        refine wp_region_near (by kernel_rfl) (by kernel_rfl) ?_
                        intro hs
                        repeat (go_big_quiet_step ((go_at_call 47; exact Calls.near (by simp) (PC2.out _))))
                        refine wpQuiet_nil ?_
                        clear hs
                        intro w9 hb9
                        have H9 := H8.out.thru hb9
                        obtain ⟨z9, k9, f9⟩ := H9.box 1 rfl
                        clear H8 PC2 k8 f8 z8
                        rw [if_neg (by omega)] at hdX
                        have H10 : St w none0 w9 [orderP o s k X, cellA w.heap.size [.int .i64 X.mode, .int .i64 X.hold], rowA 1 (.slice va R.length vc) R.length (i64s (nums R)), rowA 1 (.slice ea R.length ec) R.length (i64s (ends R))] := by rw [hXm.out.1, hXm.out.2]; exact (H9.arr [0, 2, 3, 4, 1, 5] rfl).drops 4
                        replace H9 := Lib.hid H9; replace H10 := Lib.hid H10; replace hdX := Lib.hid hdX
                        go_wp2_with fail
                        go_meet
                        exact ⟨X, R, by omega, hgX, hdX, H10⟩
                      · have q2 : decide (x.c < 140737488355327) = false := decide_eq_false e2
                        replace e1 := Lib.hid e1; replace e2 := Lib.hid e2; replace hd1 := Lib.hid hd1; replace hd2 := Lib.hid hd2
                        go_wp2_with fail
                        refine wp_region_near (by kernel_rfl) (by kernel_rfl) ?_
                        intro hs
                        repeat (go_big_quiet_step ((go_at_call 47; exact Calls.near (by simp) (PC2.out _))))
                        refine wpQuiet_nil ?_
                        clear hs
                        intro w9 hb9
                        have H9 := H8.out.thru hb9
                        obtain ⟨z9, k9, f9⟩ := H9.box 1 rfl
                        clear H8 PC2 k8 f8 z8
                        rw [if_neg (by omega)] at hdX
                        have H10 : St w none0 w9 [orderP o s k X, cellA w.heap.size [.int .i64 X.mode, .int .i64 X.hold], rowA 1 (.slice va R.length vc) R.length (i64s (nums R)), rowA 1 (.slice ea R.length ec) R.length (i64s (ends R))] := by rw [hXm.out.1, hXm.out.2]; exact (H9.arr [0, 2, 3, 4, 1, 5] rfl).drops 4
                        replace H9 := Lib.hid H9; replace H10 := Lib.hid H10; replace hdX := Lib.hid hdX
                        go_wp2_with fail
                        go_meet
                        exact ⟨X, R, by omega, hgX, hdX, H10⟩
                    · have q1 : decide (num = x.c + 1) = false := decide_eq_false e1
                      have q1' : (num == x.c + 1) = false := by simpa using e1
                      replace e1 := Lib.hid e1; replace hd1 := Lib.hid hd1; replace hd2 := Lib.hid hd2
                      go_wp2_with fail
                      refine wp_region_near (by kernel_rfl) (by kernel_rfl) ?_
                      intro hs
                      repeat (go_big_quiet_step ((go_at_call 47; exact Calls.near (by simp) (PC2.out _))))
                      refine wpQuiet_nil ?_
                      clear hs
                      intro w9 hb9
                      have H9 := H8.out.thru hb9
                      obtain ⟨z9, k9, f9⟩ := H9.box 1 rfl
                      clear H8 PC2 k8 f8 z8
                      rw [if_neg (by omega)] at hdX
                      have H10 : St w none0 w9 [orderP o s k X, cellA w.heap.size [.int .i64 X.mode, .int .i64 X.hold], rowA 1 (.slice va R.length vc) R.length (i64s (nums R)), rowA 1 (.slice ea R.length ec) R.length (i64s (ends R))] := by rw [hXm.out.1, hXm.out.2]; exact (H9.arr [0, 2, 3, 4, 1, 5] rfl).drops 4
                      replace H9 := Lib.hid H9; replace H10 := Lib.hid H10; replace hdX := Lib.hid hdX
                      go_wp2_with fail
                      go_meet
                      exact ⟨X, R, by omega, hgX, hdX, H10⟩
                  · have q0 : (what == 0) = false := by simpa using hw0
                    have q0' : decide (what = 0) = false := decide_eq_false hw0
                    have q01 : (what != 0) = true := by simpa using hw0
                    have hq : num = x.c + 1 → ¬ x.c < 140737488355327 := fun e h => hw0 (hd1 e (by omega))
                    by_cases hw1' : what = 1
                    · subst hw1'
                      by_cases e1 : num = x.c + 1
                      · have q1 : decide (num = x.c + 1) = true := decide_eq_true e1
                        have q1' : (num == x.c + 1) = true := by simpa using e1
                        have q2 : decide (x.c < 140737488355327) = false := decide_eq_false (hq e1)
                        replace e1 := Lib.hid e1; replace hd1 := Lib.hid hd1; replace hd2 := Lib.hid hd2; replace hq := Lib.hid hq; replace hw0 := Lib.hid hw0
                        go_wp2_with fail
                        refine wp_region_near (by kernel_rfl) (by kernel_rfl) ?_
                        intro hs
                        repeat (go_big_quiet_step ((go_at_call 47; exact Calls.near (by simp) (PC2.out _))))
                        refine wpQuiet_nil ?_
                        clear hs
                        intro w9 hb9
                        have H9 := H8.out.thru hb9
                        obtain ⟨z9, k9, f9⟩ := H9.box 1 rfl
                        clear H8 PC2 k8 f8 z8
                        rw [if_pos trivial] at hdX
                        replace H9 := Lib.hid H9; replace hdX := Lib.hid hdX
                        go_wp2_with (at_builtin; (refine wpList_appS rfl (.tmp 93) (.tmp 97) _ rfl 3 i0 _ 1 8 Try.underlying34 hi hz hz1 hz2 rfl (by omega) 3 _ R.length (i64s (nums R)) rfl H9.out rfl 1 1 [.int .i64 num] rfl rfl (by simp [Value.oneCell']) (by omega) (by omega) ?_; intro v10 w10 H10; obtain ⟨na, nc, rfl, _⟩ := St.slice (by omega) 0 H10 rfl; replace H10 := Lib.hid H10))
                        have HC10 : St w none0 w10 [cellA wr.heap.size [.int .i64 2, .int .i64 own, .int .i64 num, .string dat, .slice a trips.length cap, .int .i64 mode, .int .i64 hold], cellA w.heap.size [.int .i64 x.mode, .int .i64 x.hold]] := (H10.out.arr [2, 3, 0, 1, 4, 5] rfl).drops 2
                        have hcl0 : ∀ (s' : Cls w none0 [cellA wr.heap.size [.int .i64 2, .int .i64 own, .int .i64 num, .string dat, .slice a trips.length cap, .int .i64 mode, .int .i64 hold], cellA w.heap.size [.int .i64 x.mode, .int .i64 x.hold]]) (i : Nat), s'.it.cell? ⟨wr.heap.size, i, none⟩ = [Value.int .i64 2, .int .i64 own, .int .i64 num, .string dat, .slice a trips.length cap, .int .i64 mode, .int .i64 hold][i]? := fun s => (s.st.box 0 rfl).cells
                        have hcl1 : ∀ (s' : Cls w none0 [cellA wr.heap.size [.int .i64 2, .int .i64 own, .int .i64 num, .string dat, .slice a trips.length cap, .int .i64 mode, .int .i64 hold], cellA w.heap.size [.int .i64 x.mode, .int .i64 x.hold]]) (i : Nat), s'.it.cell? ⟨w.heap.size, i, none⟩ = [Value.int .i64 x.mode, .int .i64 x.hold][i]? := fun s => (s.st.box 1 rfl).cells
                        have P3 := now_st (H10.out.drew.front 1 rfl)
                        rw [hXn.out] at P3
                        clear H9 k9 f9 z9
                        replace HC10 := Lib.hid HC10; replace P3 := Lib.hid P3
                        haveI := St.ne HC10.out
                        refine wp_region_madeC HC10.out [0, 1, 3, 4, 5, 6] [true, true, false, true, true, true, true, false, false, false, false, false] 6 #[true, true, false, true, true, true, true, false, false, false, false, false] (by kernel_rfl) rfl (by kernel_rfl) (by kernel_rfl) rfl (by kernel_rfl) (by kernel_rfl) (by intro c a a' w e h; obtain ⟨t, d⟩ := a; obtain ⟨t', d'⟩ := a'; obtain rfl : d = d' := e; exact h) ?_
                        simp only [pickB]
                        repeat (go_big_quiet_step (fail))
                        refine wpQuiet_nil ?_
                        refine held_one (i := 2) (by kernel_rfl) fun K hK => ?_
                        simp only [List.drop_succ_cons, List.drop_zero, List.take_succ_cons, List.take_zero]
                        go_wp2_with fail
                        refine Calls.mono P3.out ?_
                        rintro e w11 ⟨rfl, hb11⟩
                        have H11 := H10.out.drew.thru hb11
                        have HC11 := (H11.arr [2, 3, 0, 1, 4, 5] rfl).drops 2
                        have P4 := PF.out w11 (St.rd (by omega) 5 H11 rfl)
                        clear P3 H10 HC10
                        replace HC11 := Lib.hid HC11; replace P4 := Lib.hid P4; replace H11 := Lib.hid H11
                        go_wp2_with fail
                        refine hK _ _ HC11.out ?_
                        clear hK K
                        refine held_one (i := 7) (by kernel_rfl) fun K hK => ?_
                        simp only [List.drop_succ_cons, List.drop_zero, List.take_succ_cons, List.take_zero]
                        go_wp2_with fail
                        refine Calls.mono P4.out ?_
                        rintro e w12 ⟨rfl, hb12⟩
                        have H12 := H11.out.thru hb12
                        have HC12 := (H12.arr [2, 3, 0, 1, 4, 5] rfl).drops 2
                        clear P4 H11 HC11
                        replace HC12 := Lib.hid HC12; replace H12 := Lib.hid H12
                        go_wp2_with fail
                        refine hK _ _ HC12.out ?_
                        clear hK K
                        haveI := St.ne HC12.out
                        refine calmC HC12.out [8] [false, false, false, false, false, false, false, false, true, false, false, false] 3 4 #[true, true, true, true, true, true, true, true, false, false, false, false] #[true, true, true, true, true, true, true, true, true, false, false, false] rfl (by kernel_rfl) (by kernel_rfl) rfl (by kernel_rfl) (by kernel_rfl) (by intro c a a' w e h; obtain ⟨t, d⟩ := a; obtain ⟨t', d'⟩ := a'; obtain rfl : d = d' := e; exact h) ?_
                        simp only [pickB]
                        repeat (go_big_quiet_step (fail))
                        refine wpQuiet_nil ?_
                        refine held_one (i := 9) (by kernel_rfl) fun K hK => ?_
                        simp only [List.drop_succ_cons, List.drop_zero, List.take_succ_cons, List.take_zero]
                        go_wp2_with fail
                        have HC13 := ((H12.out.skip (.cells #[.int .i64 (x.now + fv)] 3)).arr [2, 3, 0, 1, 4, 5] rfl).drops 2
                        refine hK _ _ HC13 ?_
                        clear hK K HC13
                        refine held_one (i := 10) (by kernel_rfl) fun K hK => ?_
                        simp only [List.drop_succ_cons, List.drop_zero, List.take_succ_cons, List.take_zero]
                        go_wp2_with (at_builtin; (refine wpList_appS rfl (.tmp 99) (.tmp 108) _ rfl 3 i0 _ 1 8 Try.underlying34 hi hz hz1 hz2 rfl (by omega) 4 _ R.length (i64s (ends R)) rfl H12.out rfl 1 1 [.int .i64 (x.now + fv)] rfl rfl (by simp [Value.oneCell']) (by omega) (by omega) ?_; intro v14 w14 H14; obtain ⟨ma, mc, rfl, _⟩ := St.slice (by omega) 0 H14 rfl))
                        have HC14 := (H14.arr [3, 4, 0, 1, 2, 5] rfl).drops 2
                        refine hK _ _ HC14 ?_
                        clear hK K
                        have H15 : St w none0 w14 [orderP o s k X, cellA w.heap.size [.int .i64 X.mode, .int .i64 X.hold], rowA 1 (.slice na (R.length + 1) nc) (R.length + 1) (i64s (nums R) ++ [.int .i64 num]), rowA 1 (.slice ma (R.length + 1) mc) (R.length + 1) (i64s (ends R) ++ [.int .i64 (x.now + fv)])] := by rw [hXm.out.1, hXm.out.2]; exact (H14.arr [2, 4, 1, 0, 3, 5] rfl).drops 4
                        clear H14 H12 HC12
                        replace HC14 := Lib.hid HC14; replace H15 := Lib.hid H15
                        refine held_one (i := 11) (by kernel_rfl) fun K hK => ?_
                        simp only [List.drop_succ_cons, List.drop_zero, List.take_succ_cons, List.take_zero]
                        go_wp2_with fail
                        refine hK _ _ HC14.out ?_
                        clear hK K
                        refine held_done (by kernel_rfl) ?_
                        go_wp2_with fail
                        go_meet
                        refine ⟨X, R ++ [(num, x.now + fv)], by rw [List.length_append]; simp only [List.length_cons, List.length_nil]; omega, hgX, hdX, Lib.hid ?_⟩
                        have H16 := H15.out
                        rw [show i64s (nums R) ++ [Value.int .i64 num] = i64s (nums (R ++ [(num, x.now + fv)])) from by simp [nums, i64s], show i64s (ends R) ++ [Value.int .i64 (x.now + fv)] = i64s (ends (R ++ [(num, x.now + fv)])) from by simp [ends, i64s]] at H16
                        rw [List.length_append]
                        exact H16
                      · have q1 : decide (num = x.c + 1) = false := decide_eq_false e1
                        have q1' : (num == x.c + 1) = false := by simpa using e1
                        replace e1 := Lib.hid e1; replace hd1 := Lib.hid hd1; replace hd2 := Lib.hid hd2; replace hq := Lib.hid hq; replace hw0 := Lib.hid hw0
                        go_wp2_with fail
                        refine wp_region_near (by kernel_rfl) (by kernel_rfl) ?_
                        intro hs
                        repeat (go_big_quiet_step ((go_at_call 47; exact Calls.near (by simp) (PC2.out _))))
                        refine wpQuiet_nil ?_
                        clear hs
                        intro w9 hb9
                        have H9 := H8.out.thru hb9
                        obtain ⟨z9, k9, f9⟩ := H9.box 1 rfl
                        clear H8 PC2 k8 f8 z8
                        rw [if_pos trivial] at hdX
                        replace H9 := Lib.hid H9; replace hdX := Lib.hid hdX
                        go_wp2_with (at_builtin; (refine wpList_appS rfl (.tmp 93) (.tmp 97) _ rfl 3 i0 _ 1 8 Try.underlying34 hi hz hz1 hz2 rfl (by omega) 3 _ R.length (i64s (nums R)) rfl H9.out rfl 1 1 [.int .i64 num] rfl rfl (by simp [Value.oneCell']) (by omega) (by omega) ?_; intro v10 w10 H10; obtain ⟨na, nc, rfl, _⟩ := St.slice (by omega) 0 H10 rfl; replace H10 := Lib.hid H10))
                        have HC10 : St w none0 w10 [cellA wr.heap.size [.int .i64 2, .int .i64 own, .int .i64 num, .string dat, .slice a trips.length cap, .int .i64 mode, .int .i64 hold], cellA w.heap.size [.int .i64 x.mode, .int .i64 x.hold]] := (H10.out.arr [2, 3, 0, 1, 4, 5] rfl).drops 2
                        have hcl0 : ∀ (s' : Cls w none0 [cellA wr.heap.size [.int .i64 2, .int .i64 own, .int .i64 num, .string dat, .slice a trips.length cap, .int .i64 mode, .int .i64 hold], cellA w.heap.size [.int .i64 x.mode, .int .i64 x.hold]]) (i : Nat), s'.it.cell? ⟨wr.heap.size, i, none⟩ = [Value.int .i64 2, .int .i64 own, .int .i64 num, .string dat, .slice a trips.length cap, .int .i64 mode, .int .i64 hold][i]? := fun s => (s.st.box 0 rfl).cells
                        have hcl1 : ∀ (s' : Cls w none0 [cellA wr.heap.size [.int .i64 2, .int .i64 own, .int .i64 num, .string dat, .slice a trips.length cap, .int .i64 mode, .int .i64 hold], cellA w.heap.size [.int .i64 x.mode, .int .i64 x.hold]]) (i : Nat), s'.it.cell? ⟨w.heap.size, i, none⟩ = [Value.int .i64 x.mode, .int .i64 x.hold][i]? := fun s => (s.st.box 1 rfl).cells
                        have P3 := now_st (H10.out.drew.front 1 rfl)
                        rw [hXn.out] at P3
                        clear H9 k9 f9 z9
                        replace HC10 := Lib.hid HC10; replace P3 := Lib.hid P3
                        haveI := St.ne HC10.out
                        refine wp_region_madeC HC10.out [0, 1, 3, 4, 5, 6] [true, true, false, true, true, true, true, false, false, false, false, false] 6 #[true, true, false, true, true, true, true, false, false, false, false, false] (by kernel_rfl) rfl (by kernel_rfl) (by kernel_rfl) rfl (by kernel_rfl) (by kernel_rfl) (by intro c a a' w e h; obtain ⟨t, d⟩ := a; obtain ⟨t', d'⟩ := a'; obtain rfl : d = d' := e; exact h) ?_
                        simp only [pickB]
                        repeat (go_big_quiet_step (fail))
                        refine wpQuiet_nil ?_
                        refine held_one (i := 2) (by kernel_rfl) fun K hK => ?_
                        simp only [List.drop_succ_cons, List.drop_zero, List.take_succ_cons, List.take_zero]
                        go_wp2_with fail
                        refine Calls.mono P3.out ?_
                        rintro e w11 ⟨rfl, hb11⟩
                        have H11 := H10.out.drew.thru hb11
                        have HC11 := (H11.arr [2, 3, 0, 1, 4, 5] rfl).drops 2
                        have P4 := PF.out w11 (St.rd (by omega) 5 H11 rfl)
                        clear P3 H10 HC10
                        replace HC11 := Lib.hid HC11; replace P4 := Lib.hid P4; replace H11 := Lib.hid H11
                        go_wp2_with fail
                        refine hK _ _ HC11.out ?_
                        clear hK K
                        refine held_one (i := 7) (by kernel_rfl) fun K hK => ?_
                        simp only [List.drop_succ_cons, List.drop_zero, List.take_succ_cons, List.take_zero]
                        go_wp2_with fail
                        refine Calls.mono P4.out ?_
                        rintro e w12 ⟨rfl, hb12⟩
                        have H12 := H11.out.thru hb12
                        have HC12 := (H12.arr [2, 3, 0, 1, 4, 5] rfl).drops 2
                        clear P4 H11 HC11
                        replace HC12 := Lib.hid HC12; replace H12 := Lib.hid H12
                        go_wp2_with fail
                        refine hK _ _ HC12.out ?_
                        clear hK K
                        haveI := St.ne HC12.out
                        refine calmC HC12.out [8] [false, false, false, false, false, false, false, false, true, false, false, false] 3 4 #[true, true, true, true, true, true, true, true, false, false, false, false] #[true, true, true, true, true, true, true, true, true, false, false, false] rfl (by kernel_rfl) (by kernel_rfl) rfl (by kernel_rfl) (by kernel_rfl) (by intro c a a' w e h; obtain ⟨t, d⟩ := a; obtain ⟨t', d'⟩ := a'; obtain rfl : d = d' := e; exact h) ?_
                        simp only [pickB]
                        repeat (go_big_quiet_step (fail))
                        refine wpQuiet_nil ?_
                        refine held_one (i := 9) (by kernel_rfl) fun K hK => ?_
                        simp only [List.drop_succ_cons, List.drop_zero, List.take_succ_cons, List.take_zero]
                        go_wp2_with fail
                        have HC13 := ((H12.out.skip (.cells #[.int .i64 (x.now + fv)] 3)).arr [2, 3, 0, 1, 4, 5] rfl).drops 2
                        refine hK _ _ HC13 ?_
                        clear hK K HC13
                        refine held_one (i := 10) (by kernel_rfl) fun K hK => ?_
                        simp only [List.drop_succ_cons, List.drop_zero, List.take_succ_cons, List.take_zero]
                        go_wp2_with (at_builtin; (refine wpList_appS rfl (.tmp 99) (.tmp 108) _ rfl 3 i0 _ 1 8 Try.underlying34 hi hz hz1 hz2 rfl (by omega) 4 _ R.length (i64s (ends R)) rfl H12.out rfl 1 1 [.int .i64 (x.now + fv)] rfl rfl (by simp [Value.oneCell']) (by omega) (by omega) ?_; intro v14 w14 H14; obtain ⟨ma, mc, rfl, _⟩ := St.slice (by omega) 0 H14 rfl))
                        have HC14 := (H14.arr [3, 4, 0, 1, 2, 5] rfl).drops 2
                        refine hK _ _ HC14 ?_
                        clear hK K
                        have H15 : St w none0 w14 [orderP o s k X, cellA w.heap.size [.int .i64 X.mode, .int .i64 X.hold], rowA 1 (.slice na (R.length + 1) nc) (R.length + 1) (i64s (nums R) ++ [.int .i64 num]), rowA 1 (.slice ma (R.length + 1) mc) (R.length + 1) (i64s (ends R) ++ [.int .i64 (x.now + fv)])] := by rw [hXm.out.1, hXm.out.2]; exact (H14.arr [2, 4, 1, 0, 3, 5] rfl).drops 4
                        clear H14 H12 HC12
                        replace HC14 := Lib.hid HC14; replace H15 := Lib.hid H15
                        refine held_one (i := 11) (by kernel_rfl) fun K hK => ?_
                        simp only [List.drop_succ_cons, List.drop_zero, List.take_succ_cons, List.take_zero]
                        go_wp2_with fail
                        refine hK _ _ HC14.out ?_
                        clear hK K
                        refine held_done (by kernel_rfl) ?_
                        go_wp2_with fail
                        go_meet
                        refine ⟨X, R ++ [(num, x.now + fv)], by rw [List.length_append]; simp only [List.length_cons, List.length_nil]; omega, hgX, hdX, Lib.hid ?_⟩
                        have H16 := H15.out
                        rw [show i64s (nums R) ++ [Value.int .i64 num] = i64s (nums (R ++ [(num, x.now + fv)])) from by simp [nums, i64s], show i64s (ends R) ++ [Value.int .i64 (x.now + fv)] = i64s (ends (R ++ [(num, x.now + fv)])) from by simp [ends, i64s]] at H16
                        rw [List.length_append]
                        exact H16
                    · have q3 : (what == 1) = false := by simpa using hw1'
                      have q3' : decide (what = 1) = false := decide_eq_false hw1'
                      by_cases e1 : num = x.c + 1
                      · have q1 : decide (num = x.c + 1) = true := decide_eq_true e1
                        have q1' : (num == x.c + 1) = true := by simpa using e1
                        have q2 : decide (x.c < 140737488355327) = false := decide_eq_false (hq e1)
                        replace e1 := Lib.hid e1; replace hd1 := Lib.hid hd1; replace hd2 := Lib.hid hd2; replace hq := Lib.hid hq
                        go_wp2_with fail
                        refine wp_region_near (by kernel_rfl) (by kernel_rfl) ?_
                        intro hs
                        repeat (go_big_quiet_step ((go_at_call 47; exact Calls.near (by simp) (PC2.out _))))
                        refine wpQuiet_nil ?_
                        clear hs
                        intro w9 hb9
                        have H9 := H8.out.thru hb9
                        obtain ⟨z9, k9, f9⟩ := H9.box 1 rfl
                        clear H8 PC2 k8 f8 z8
                        rw [if_neg (by omega)] at hdX
                        have H10 : St w none0 w9 [orderP o s k X, cellA w.heap.size [.int .i64 X.mode, .int .i64 X.hold], rowA 1 (.slice va R.length vc) R.length (i64s (nums R)), rowA 1 (.slice ea R.length ec) R.length (i64s (ends R))] := by rw [hXm.out.1, hXm.out.2]; exact (H9.arr [0, 2, 3, 4, 1, 5] rfl).drops 4
                        replace H9 := Lib.hid H9; replace H10 := Lib.hid H10; replace hdX := Lib.hid hdX
                        go_wp2_with fail
                        go_meet
                        exact ⟨X, R, by omega, hgX, hdX, H10⟩
                      · have q1 : decide (num = x.c + 1) = false := decide_eq_false e1
                        have q1' : (num == x.c + 1) = false := by simpa using e1
                        replace e1 := Lib.hid e1; replace hd1 := Lib.hid hd1; replace hd2 := Lib.hid hd2; replace hq := Lib.hid hq
                        go_wp2_with fail
                        refine wp_region_near (by kernel_rfl) (by kernel_rfl) ?_
                        intro hs
                        repeat (go_big_quiet_step ((go_at_call 47; exact Calls.near (by simp) (PC2.out _))))
                        refine wpQuiet_nil ?_
                        clear hs
                        intro w9 hb9
                        have H9 := H8.out.thru hb9
                        obtain ⟨z9, k9, f9⟩ := H9.box 1 rfl
                        clear H8 PC2 k8 f8 z8
                        rw [if_neg (by omega)] at hdX
                        have H10 : St w none0 w9 [orderP o s k X, cellA w.heap.size [.int .i64 X.mode, .int .i64 X.hold], rowA 1 (.slice va R.length vc) R.length (i64s (nums R)), rowA 1 (.slice ea R.length ec) R.length (i64s (ends R))] := by rw [hXm.out.1, hXm.out.2]; exact (H9.arr [0, 2, 3, 4, 1, 5] rfl).drops 4
                        replace H9 := Lib.hid H9; replace H10 := Lib.hid H10; replace hdX := Lib.hid hdX
                        go_wp2_with fail
                        go_meet
                        exact ⟨X, R, by omega, hgX, hdX, H10⟩
              · as_aux_lemma =>
                  have P := cursor_st hgx.out (by omega) HB.out
                  replace P := Lib.hid P
                  go_wp2_with fail
                  refine Calls.mono (P.out) ?_
                  rintro e w7 ⟨rfl, hb7⟩
                  have z7 := Below.size hb7; try simp only [World.size_alloc, World.size_setCell, World.size_drew] at z7
                  have H7 := HB.out.thru hb7
                  obtain ⟨z7, k7, f7⟩ := H7.box 1 rfl
                  have P2 := take_st o s k x (num, dat) own trips trips.length rfl (by omega) ta tc hgx.out (by omega) (fun w' h => St.rd (by omega) 4 h rfl) H7
                  have hgX := hgx.out.take (num, dat) (forF x.mode x.hold own trips)
                  obtain ⟨hdX, hd1, hd2⟩ := hdx.out.take hgx.out (num, dat) (forF x.mode x.hold own trips)
                  have hXn : (takeS x (num, dat) (forF x.mode x.hold own trips)).now = x.now := rfl
                  have hXm : (takeS x (num, dat) (forF x.mode x.hold own trips)).mode = x.mode ∧ (takeS x (num, dat) (forF x.mode x.hold own trips)).hold = x.hold := ⟨rfl, rfl⟩
                  have hcc0 := hgx.out.ok.c0
                  have hcc1 := hgx.out.ok.c1
                  unfold top at hcc1 hd1
                  have hnow0 := hgx.out.n0
                  have hnow1 := hgx.out.n1
                  obtain ⟨hf0, hf1⟩ : 0 ≤ forF x.mode x.hold own trips ∧ forF x.mode x.hold own trips ≤ 60 := opF_bd x ⟨0, own, num, dat, trips, a, cap, mode, hold⟩
                  have PF := fun w' (h : Rd w' ta (i64s trips)) => for_any x.mode x.hold own trips trips.length rfl (by omega) ta tc w' h
                  generalize forF x.mode x.hold own trips = fv at *
                  generalize takeS x (num, dat) fv = X at *
                  generalize (putP x (num, dat) fv).1.1 = what at *
                  simp only at P2 hd1 hd2 hdX
                  have hhw : what = 1 ∨ what ≠ 1 := by omega
                  clear P HB H7
                  replace P2 := Lib.hid P2; replace hgX := Lib.hid hgX; replace hdX := Lib.hid hdX; replace hXn := Lib.hid hXn; replace hXm := Lib.hid hXm; replace PF := Lib.hid PF; replace hhw := Lib.hid hhw
                  go_wp2_with fail
                  refine Calls.mono P2.out ?_
                  rintro e w8 ⟨rfl, H8⟩
                  obtain ⟨z8, k8, f8⟩ := H8.box 1 rfl
                  have PC2 := fun (s' : Near w8.heap.size w8) => cursor_st hgX.out (by omega) (H8.thruB (by simp) (Near.near s'))
                  clear P2 k7 f7 z7
                  replace H8 := Lib.hid H8; replace PC2 := Lib.hid PC2
                  have hw1 : IntKind.i64.wrap (x.c + 1) = x.c + 1 := by rw [IntKind.wrap_i64]; omega
                  by_cases hw0 : what = 0
                  · have hcx : num ≤ X.c := hd2 hw0
                    have q5 : decide (X.c < num) = false := decide_eq_false (by omega)
                    subst hw0
                    by_cases e1 : num = x.c + 1
                    · have q1 : decide (num = x.c + 1) = true := decide_eq_true e1
                      have q1' : (num == x.c + 1) = true := by simpa using e1
                      by_cases e2 : x.c < 140737488355327
                      · have q2 : decide (x.c < 140737488355327) = true := decide_eq_true e2
                        replace e1 := Lib.hid e1; replace e2 := Lib.hid e2; replace hd1 := Lib.hid hd1; replace hd2 := Lib.hid hd2
                        go_wp2_with fail
                        refine wp_region_near (by kernel_rfl) (by kernel_rfl) ?_
                        intro hs
                        repeat (go_big_quiet_step ((go_at_call 47; exact Calls.near (by simp) (PC2.out _))))
                        refine wpQuiet_nil ?_
                        clear hs
                        intro w9 hb9
                        have H9 := H8.out.thru hb9
                        obtain ⟨z9, k9, f9⟩ := H9.box 1 rfl
                        clear H8 PC2 k8 f8 z8
                        rw [if_neg (by omega)] at hdX
                        have H10 : St w none0 w9 [orderP o s k X, cellA w.heap.size [.int .i64 X.mode, .int .i64 X.hold], rowA 1 (.slice va R.length vc) R.length (i64s (nums R)), rowA 1 (.slice ea R.length ec) R.length (i64s (ends R))] := by rw [hXm.out.1, hXm.out.2]; exact (H9.arr [0, 2, 3, 4, 1, 5] rfl).drops 4
                        replace H9 := Lib.hid H9; replace H10 := Lib.hid H10; replace hdX := Lib.hid hdX
                        go_wp2_with fail
                        go_meet
                        exact ⟨X, R, by omega, hgX, hdX, H10⟩
                      · have q2 : decide (x.c < 140737488355327) = false := decide_eq_false e2
                        replace e1 := Lib.hid e1; replace e2 := Lib.hid e2; replace hd1 := Lib.hid hd1; replace hd2 := Lib.hid hd2
                        go_wp2_with fail
                        refine wp_region_near (by kernel_rfl) (by kernel_rfl) ?_
                        intro hs
                        repeat (go_big_quiet_step ((go_at_call 47; exact Calls.near (by simp) (PC2.out _))))
                        refine wpQuiet_nil ?_
                        clear hs
                        intro w9 hb9
                        have H9 := H8.out.thru hb9
                        obtain ⟨z9, k9, f9⟩ := H9.box 1 rfl
                        clear H8 PC2 k8 f8 z8
                        rw [if_neg (by omega)] at hdX
                        have H10 : St w none0 w9 [orderP o s k X, cellA w.heap.size [.int .i64 X.mode, .int .i64 X.hold], rowA 1 (.slice va R.length vc) R.length (i64s (nums R)), rowA 1 (.slice ea R.length ec) R.length (i64s (ends R))] := by rw [hXm.out.1, hXm.out.2]; exact (H9.arr [0, 2, 3, 4, 1, 5] rfl).drops 4
                        replace H9 := Lib.hid H9; replace H10 := Lib.hid H10; replace hdX := Lib.hid hdX
                        go_wp2_with fail
                        go_meet
                        exact ⟨X, R, by omega, hgX, hdX, H10⟩
                    · have q1 : decide (num = x.c + 1) = false := decide_eq_false e1
                      have q1' : (num == x.c + 1) = false := by simpa using e1
                      replace e1 := Lib.hid e1; replace hd1 := Lib.hid hd1; replace hd2 := Lib.hid hd2
                      go_wp2_with fail
                      refine wp_region_near (by kernel_rfl) (by kernel_rfl) ?_
                      intro hs
                      repeat (go_big_quiet_step ((go_at_call 47; exact Calls.near (by simp) (PC2.out _))))
                      refine wpQuiet_nil ?_
                      clear hs
                      intro w9 hb9
                      have H9 := H8.out.thru hb9
                      obtain ⟨z9, k9, f9⟩ := H9.box 1 rfl
                      clear H8 PC2 k8 f8 z8
                      rw [if_neg (by omega)] at hdX
                      have H10 : St w none0 w9 [orderP o s k X, cellA w.heap.size [.int .i64 X.mode, .int .i64 X.hold], rowA 1 (.slice va R.length vc) R.length (i64s (nums R)), rowA 1 (.slice ea R.length ec) R.length (i64s (ends R))] := by rw [hXm.out.1, hXm.out.2]; exact (H9.arr [0, 2, 3, 4, 1, 5] rfl).drops 4
                      replace H9 := Lib.hid H9; replace H10 := Lib.hid H10; replace hdX := Lib.hid hdX
                      go_wp2_with fail
                      go_meet
                      exact ⟨X, R, by omega, hgX, hdX, H10⟩
                  · have q0 : (what == 0) = false := by simpa using hw0
                    have q0' : decide (what = 0) = false := decide_eq_false hw0
                    have q01 : (what != 0) = true := by simpa using hw0
                    have hq : num = x.c + 1 → ¬ x.c < 140737488355327 := fun e h => hw0 (hd1 e (by omega))
                    by_cases hw1' : what = 1
                    · subst hw1'
                      by_cases e1 : num = x.c + 1
                      · have q1 : decide (num = x.c + 1) = true := decide_eq_true e1
                        have q1' : (num == x.c + 1) = true := by simpa using e1
                        have q2 : decide (x.c < 140737488355327) = false := decide_eq_false (hq e1)
                        replace e1 := Lib.hid e1; replace hd1 := Lib.hid hd1; replace hd2 := Lib.hid hd2; replace hq := Lib.hid hq; replace hw0 := Lib.hid hw0
                        go_wp2_with fail
                        refine wp_region_near (by kernel_rfl) (by kernel_rfl) ?_
                        intro hs
                        repeat (go_big_quiet_step ((go_at_call 47; exact Calls.near (by simp) (PC2.out _))))
                        refine wpQuiet_nil ?_
                        clear hs
                        intro w9 hb9
                        have H9 := H8.out.thru hb9
                        obtain ⟨z9, k9, f9⟩ := H9.box 1 rfl
                        clear H8 PC2 k8 f8 z8
                        rw [if_pos trivial] at hdX
                        replace H9 := Lib.hid H9; replace hdX := Lib.hid hdX
                        go_wp2_with (at_builtin; (refine wpList_appS rfl (.tmp 93) (.tmp 97) _ rfl 3 i0 _ 1 8 Try.underlying34 hi hz hz1 hz2 rfl (by omega) 3 _ R.length (i64s (nums R)) rfl H9.out rfl 1 1 [.int .i64 num] rfl rfl (by simp [Value.oneCell']) (by omega) (by omega) ?_; intro v10 w10 H10; obtain ⟨na, nc, rfl, _⟩ := St.slice (by omega) 0 H10 rfl; replace H10 := Lib.hid H10))
                        have HC10 : St w none0 w10 [cellA wr.heap.size [.int .i64 3, .int .i64 own, .int .i64 num, .string dat, .slice a trips.length cap, .int .i64 mode, .int .i64 hold], cellA w.heap.size [.int .i64 x.mode, .int .i64 x.hold]] := (H10.out.arr [2, 3, 0, 1, 4, 5] rfl).drops 2
                        have hcl0 : ∀ (s' : Cls w none0 [cellA wr.heap.size [.int .i64 3, .int .i64 own, .int .i64 num, .string dat, .slice a trips.length cap, .int .i64 mode, .int .i64 hold], cellA w.heap.size [.int .i64 x.mode, .int .i64 x.hold]]) (i : Nat), s'.it.cell? ⟨wr.heap.size, i, none⟩ = [Value.int .i64 3, .int .i64 own, .int .i64 num, .string dat, .slice a trips.length cap, .int .i64 mode, .int .i64 hold][i]? := fun s => (s.st.box 0 rfl).cells
                        have hcl1 : ∀ (s' : Cls w none0 [cellA wr.heap.size [.int .i64 3, .int .i64 own, .int .i64 num, .string dat, .slice a trips.length cap, .int .i64 mode, .int .i64 hold], cellA w.heap.size [.int .i64 x.mode, .int .i64 x.hold]]) (i : Nat), s'.it.cell? ⟨w.heap.size, i, none⟩ = [Value.int .i64 x.mode, .int .i64 x.hold][i]? := fun s => (s.st.box 1 rfl).cells
                        have P3 := now_st (H10.out.drew.front 1 rfl)
                        rw [hXn.out] at P3
                        clear H9 k9 f9 z9
                        replace HC10 := Lib.hid HC10; replace P3 := Lib.hid P3
                        haveI := St.ne HC10.out
                        refine wp_region_madeC HC10.out [0, 1, 3, 4, 5, 6] [true, true, false, true, true, true, true, false, false, false, false, false] 6 #[true, true, false, true, true, true, true, false, false, false, false, false] (by kernel_rfl) rfl (by kernel_rfl) (by kernel_rfl) rfl (by kernel_rfl) (by kernel_rfl) (by intro c a a' w e h; obtain ⟨t, d⟩ := a; obtain ⟨t', d'⟩ := a'; obtain rfl : d = d' := e; exact h) ?_
                        simp only [pickB]
                        repeat (go_big_quiet_step (fail))
                        refine wpQuiet_nil ?_
                        refine held_one (i := 2) (by kernel_rfl) fun K hK => ?_
                        simp only [List.drop_succ_cons, List.drop_zero, List.take_succ_cons, List.take_zero]
                        go_wp2_with fail
                        refine Calls.mono P3.out ?_
                        rintro e w11 ⟨rfl, hb11⟩
                        have H11 := H10.out.drew.thru hb11
                        have HC11 := (H11.arr [2, 3, 0, 1, 4, 5] rfl).drops 2
                        have P4 := PF.out w11 (St.rd (by omega) 5 H11 rfl)
                        clear P3 H10 HC10
                        replace HC11 := Lib.hid HC11; replace P4 := Lib.hid P4; replace H11 := Lib.hid H11
                        go_wp2_with fail
                        refine hK _ _ HC11.out ?_
                        clear hK K
                        refine held_one (i := 7) (by kernel_rfl) fun K hK => ?_
                        simp only [List.drop_succ_cons, List.drop_zero, List.take_succ_cons, List.take_zero]
                        go_wp2_with fail
                        refine Calls.mono P4.out ?_
                        rintro e w12 ⟨rfl, hb12⟩
                        have H12 := H11.out.thru hb12
                        have HC12 := (H12.arr [2, 3, 0, 1, 4, 5] rfl).drops 2
                        clear P4 H11 HC11
                        replace HC12 := Lib.hid HC12; replace H12 := Lib.hid H12
                        go_wp2_with fail
                        refine hK _ _ HC12.out ?_
                        clear hK K
                        haveI := St.ne HC12.out
                        refine calmC HC12.out [8] [false, false, false, false, false, false, false, false, true, false, false, false] 3 4 #[true, true, true, true, true, true, true, true, false, false, false, false] #[true, true, true, true, true, true, true, true, true, false, false, false] rfl (by kernel_rfl) (by kernel_rfl) rfl (by kernel_rfl) (by kernel_rfl) (by intro c a a' w e h; obtain ⟨t, d⟩ := a; obtain ⟨t', d'⟩ := a'; obtain rfl : d = d' := e; exact h) ?_
                        simp only [pickB]
                        repeat (go_big_quiet_step (fail))
                        refine wpQuiet_nil ?_
                        refine held_one (i := 9) (by kernel_rfl) fun K hK => ?_
                        simp only [List.drop_succ_cons, List.drop_zero, List.take_succ_cons, List.take_zero]
                        go_wp2_with fail
                        have HC13 := ((H12.out.skip (.cells #[.int .i64 (x.now + fv)] 3)).arr [2, 3, 0, 1, 4, 5] rfl).drops 2
                        refine hK _ _ HC13 ?_
                        clear hK K HC13
                        refine held_one (i := 10) (by kernel_rfl) fun K hK => ?_
                        simp only [List.drop_succ_cons, List.drop_zero, List.take_succ_cons, List.take_zero]
                        go_wp2_with (at_builtin; (refine wpList_appS rfl (.tmp 99) (.tmp 108) _ rfl 3 i0 _ 1 8 Try.underlying34 hi hz hz1 hz2 rfl (by omega) 4 _ R.length (i64s (ends R)) rfl H12.out rfl 1 1 [.int .i64 (x.now + fv)] rfl rfl (by simp [Value.oneCell']) (by omega) (by omega) ?_; intro v14 w14 H14; obtain ⟨ma, mc, rfl, _⟩ := St.slice (by omega) 0 H14 rfl))
                        have HC14 := (H14.arr [3, 4, 0, 1, 2, 5] rfl).drops 2
                        refine hK _ _ HC14 ?_
                        clear hK K
                        have H15 : St w none0 w14 [orderP o s k X, cellA w.heap.size [.int .i64 X.mode, .int .i64 X.hold], rowA 1 (.slice na (R.length + 1) nc) (R.length + 1) (i64s (nums R) ++ [.int .i64 num]), rowA 1 (.slice ma (R.length + 1) mc) (R.length + 1) (i64s (ends R) ++ [.int .i64 (x.now + fv)])] := by rw [hXm.out.1, hXm.out.2]; exact (H14.arr [2, 4, 1, 0, 3, 5] rfl).drops 4
                        clear H14 H12 HC12
                        replace HC14 := Lib.hid HC14; replace H15 := Lib.hid H15
                        refine held_one (i := 11) (by kernel_rfl) fun K hK => ?_
                        simp only [List.drop_succ_cons, List.drop_zero, List.take_succ_cons, List.take_zero]
                        go_wp2_with fail
                        refine hK _ _ HC14.out ?_
                        clear hK K
                        refine held_done (by kernel_rfl) ?_
                        go_wp2_with fail
                        go_meet
                        refine ⟨X, R ++ [(num, x.now + fv)], by rw [List.length_append]; simp only [List.length_cons, List.length_nil]; omega, hgX, hdX, Lib.hid ?_⟩
                        have H16 := H15.out
                        rw [show i64s (nums R) ++ [Value.int .i64 num] = i64s (nums (R ++ [(num, x.now + fv)])) from by simp [nums, i64s], show i64s (ends R) ++ [Value.int .i64 (x.now + fv)] = i64s (ends (R ++ [(num, x.now + fv)])) from by simp [ends, i64s]] at H16
                        rw [List.length_append]
                        exact H16
                      · have q1 : decide (num = x.c + 1) = false := decide_eq_false e1
                        have q1' : (num == x.c + 1) = false := by simpa using e1
                        replace e1 := Lib.hid e1; replace hd1 := Lib.hid hd1; replace hd2 := Lib.hid hd2; replace hq := Lib.hid hq; replace hw0 := Lib.hid hw0
                        go_wp2_with fail
                        refine wp_region_near (by kernel_rfl) (by kernel_rfl) ?_
                        intro hs
                        repeat (go_big_quiet_step ((go_at_call 47; exact Calls.near (by simp) (PC2.out _))))
                        refine wpQuiet_nil ?_
                        clear hs
                        intro w9 hb9
                        have H9 := H8.out.thru hb9
                        obtain ⟨z9, k9, f9⟩ := H9.box 1 rfl
                        clear H8 PC2 k8 f8 z8
                        rw [if_pos trivial] at hdX
                        replace H9 := Lib.hid H9; replace hdX := Lib.hid hdX
                        go_wp2_with (at_builtin; (refine wpList_appS rfl (.tmp 93) (.tmp 97) _ rfl 3 i0 _ 1 8 Try.underlying34 hi hz hz1 hz2 rfl (by omega) 3 _ R.length (i64s (nums R)) rfl H9.out rfl 1 1 [.int .i64 num] rfl rfl (by simp [Value.oneCell']) (by omega) (by omega) ?_; intro v10 w10 H10; obtain ⟨na, nc, rfl, _⟩ := St.slice (by omega) 0 H10 rfl; replace H10 := Lib.hid H10))
                        have HC10 : St w none0 w10 [cellA wr.heap.size [.int .i64 3, .int .i64 own, .int .i64 num, .string dat, .slice a trips.length cap, .int .i64 mode, .int .i64 hold], cellA w.heap.size [.int .i64 x.mode, .int .i64 x.hold]] := (H10.out.arr [2, 3, 0, 1, 4, 5] rfl).drops 2
                        have hcl0 : ∀ (s' : Cls w none0 [cellA wr.heap.size [.int .i64 3, .int .i64 own, .int .i64 num, .string dat, .slice a trips.length cap, .int .i64 mode, .int .i64 hold], cellA w.heap.size [.int .i64 x.mode, .int .i64 x.hold]]) (i : Nat), s'.it.cell? ⟨wr.heap.size, i, none⟩ = [Value.int .i64 3, .int .i64 own, .int .i64 num, .string dat, .slice a trips.length cap, .int .i64 mode, .int .i64 hold][i]? := fun s => (s.st.box 0 rfl).cells
                        have hcl1 : ∀ (s' : Cls w none0 [cellA wr.heap.size [.int .i64 3, .int .i64 own, .int .i64 num, .string dat, .slice a trips.length cap, .int .i64 mode, .int .i64 hold], cellA w.heap.size [.int .i64 x.mode, .int .i64 x.hold]]) (i : Nat), s'.it.cell? ⟨w.heap.size, i, none⟩ = [Value.int .i64 x.mode, .int .i64 x.hold][i]? := fun s => (s.st.box 1 rfl).cells
                        have P3 := now_st (H10.out.drew.front 1 rfl)
                        rw [hXn.out] at P3
                        clear H9 k9 f9 z9
                        replace HC10 := Lib.hid HC10; replace P3 := Lib.hid P3
                        haveI := St.ne HC10.out
                        refine wp_region_madeC HC10.out [0, 1, 3, 4, 5, 6] [true, true, false, true, true, true, true, false, false, false, false, false] 6 #[true, true, false, true, true, true, true, false, false, false, false, false] (by kernel_rfl) rfl (by kernel_rfl) (by kernel_rfl) rfl (by kernel_rfl) (by kernel_rfl) (by intro c a a' w e h; obtain ⟨t, d⟩ := a; obtain ⟨t', d'⟩ := a'; obtain rfl : d = d' := e; exact h) ?_
                        simp only [pickB]
                        repeat (go_big_quiet_step (fail))
                        refine wpQuiet_nil ?_
                        refine held_one (i := 2) (by kernel_rfl) fun K hK => ?_
                        simp only [List.drop_succ_cons, List.drop_zero, List.take_succ_cons, List.take_zero]
                        go_wp2_with fail
                        refine Calls.mono P3.out ?_
                        rintro e w11 ⟨rfl, hb11⟩
                        have H11 := H10.out.drew.thru hb11
                        have HC11 := (H11.arr [2, 3, 0, 1, 4, 5] rfl).drops 2
                        have P4 := PF.out w11 (St.rd (by omega) 5 H11 rfl)
                        clear P3 H10 HC10
                        replace HC11 := Lib.hid HC11; replace P4 := Lib.hid P4; replace H11 := Lib.hid H11
                        go_wp2_with fail
                        refine hK _ _ HC11.out ?_
                        clear hK K
                        refine held_one (i := 7) (by kernel_rfl) fun K hK => ?_
                        simp only [List.drop_succ_cons, List.drop_zero, List.take_succ_cons, List.take_zero]
                        go_wp2_with fail
                        refine Calls.mono P4.out ?_
                        rintro e w12 ⟨rfl, hb12⟩
                        have H12 := H11.out.thru hb12
                        have HC12 := (H12.arr [2, 3, 0, 1, 4, 5] rfl).drops 2
                        clear P4 H11 HC11
                        replace HC12 := Lib.hid HC12; replace H12 := Lib.hid H12
                        go_wp2_with fail
                        refine hK _ _ HC12.out ?_
                        clear hK K
                        haveI := St.ne HC12.out
                        refine calmC HC12.out [8] [false, false, false, false, false, false, false, false, true, false, false, false] 3 4 #[true, true, true, true, true, true, true, true, false, false, false, false] #[true, true, true, true, true, true, true, true, true, false, false, false] rfl (by kernel_rfl) (by kernel_rfl) rfl (by kernel_rfl) (by kernel_rfl) (by intro c a a' w e h; obtain ⟨t, d⟩ := a; obtain ⟨t', d'⟩ := a'; obtain rfl : d = d' := e; exact h) ?_
                        simp only [pickB]
                        repeat (go_big_quiet_step (fail))
                        refine wpQuiet_nil ?_
                        refine held_one (i := 9) (by kernel_rfl) fun K hK => ?_
                        simp only [List.drop_succ_cons, List.drop_zero, List.take_succ_cons, List.take_zero]
                        go_wp2_with fail
                        have HC13 := ((H12.out.skip (.cells #[.int .i64 (x.now + fv)] 3)).arr [2, 3, 0, 1, 4, 5] rfl).drops 2
                        refine hK _ _ HC13 ?_
                        clear hK K HC13
                        refine held_one (i := 10) (by kernel_rfl) fun K hK => ?_
                        simp only [List.drop_succ_cons, List.drop_zero, List.take_succ_cons, List.take_zero]
                        go_wp2_with (at_builtin; (refine wpList_appS rfl (.tmp 99) (.tmp 108) _ rfl 3 i0 _ 1 8 Try.underlying34 hi hz hz1 hz2 rfl (by omega) 4 _ R.length (i64s (ends R)) rfl H12.out rfl 1 1 [.int .i64 (x.now + fv)] rfl rfl (by simp [Value.oneCell']) (by omega) (by omega) ?_; intro v14 w14 H14; obtain ⟨ma, mc, rfl, _⟩ := St.slice (by omega) 0 H14 rfl))
                        have HC14 := (H14.arr [3, 4, 0, 1, 2, 5] rfl).drops 2
                        refine hK _ _ HC14 ?_
                        clear hK K
                        have H15 : St w none0 w14 [orderP o s k X, cellA w.heap.size [.int .i64 X.mode, .int .i64 X.hold], rowA 1 (.slice na (R.length + 1) nc) (R.length + 1) (i64s (nums R) ++ [.int .i64 num]), rowA 1 (.slice ma (R.length + 1) mc) (R.length + 1) (i64s (ends R) ++ [.int .i64 (x.now + fv)])] := by rw [hXm.out.1, hXm.out.2]; exact (H14.arr [2, 4, 1, 0, 3, 5] rfl).drops 4
                        clear H14 H12 HC12
                        replace HC14 := Lib.hid HC14; replace H15 := Lib.hid H15
                        refine held_one (i := 11) (by kernel_rfl) fun K hK => ?_
                        simp only [List.drop_succ_cons, List.drop_zero, List.take_succ_cons, List.take_zero]
                        go_wp2_with fail
                        refine hK _ _ HC14.out ?_
                        clear hK K
                        refine held_done (by kernel_rfl) ?_
                        go_wp2_with fail
                        go_meet
                        refine ⟨X, R ++ [(num, x.now + fv)], by rw [List.length_append]; simp only [List.length_cons, List.length_nil]; omega, hgX, hdX, Lib.hid ?_⟩
                        have H16 := H15.out
                        rw [show i64s (nums R) ++ [Value.int .i64 num] = i64s (nums (R ++ [(num, x.now + fv)])) from by simp [nums, i64s], show i64s (ends R) ++ [Value.int .i64 (x.now + fv)] = i64s (ends (R ++ [(num, x.now + fv)])) from by simp [ends, i64s]] at H16
                        rw [List.length_append]
                        exact H16
                    · have q3 : (what == 1) = false := by simpa using hw1'
                      have q3' : decide (what = 1) = false := decide_eq_false hw1'
                      by_cases e1 : num = x.c + 1
                      · have q1 : decide (num = x.c + 1) = true := decide_eq_true e1
                        have q1' : (num == x.c + 1) = true := by simpa using e1
                        have q2 : decide (x.c < 140737488355327) = false := decide_eq_false (hq e1)
                        replace e1 := Lib.hid e1; replace hd1 := Lib.hid hd1; replace hd2 := Lib.hid hd2; replace hq := Lib.hid hq
                        go_wp2_with fail
                        refine wp_region_near (by kernel_rfl) (by kernel_rfl) ?_
                        intro hs
                        repeat (go_big_quiet_step ((go_at_call 47; exact Calls.near (by simp) (PC2.out _))))
                        refine wpQuiet_nil ?_
                        clear hs
                        intro w9 hb9
                        have H9 := H8.out.thru hb9
                        obtain ⟨z9, k9, f9⟩ := H9.box 1 rfl
                        clear H8 PC2 k8 f8 z8
                        rw [if_neg (by omega)] at hdX
                        have H10 : St w none0 w9 [orderP o s k X, cellA w.heap.size [.int .i64 X.mode, .int .i64 X.hold], rowA 1 (.slice va R.length vc) R.length (i64s (nums R)), rowA 1 (.slice ea R.length ec) R.length (i64s (ends R))] := by rw [hXm.out.1, hXm.out.2]; exact (H9.arr [0, 2, 3, 4, 1, 5] rfl).drops 4
                        replace H9 := Lib.hid H9; replace H10 := Lib.hid H10; replace hdX := Lib.hid hdX
                        go_wp2_with fail
                        go_meet
                        exact ⟨X, R, by omega, hgX, hdX, H10⟩
                      · have q1 : decide (num = x.c + 1) = false := decide_eq_false e1
                        have q1' : (num == x.c + 1) = false := by simpa using e1
                        replace e1 := Lib.hid e1; replace hd1 := Lib.hid hd1; replace hd2 := Lib.hid hd2; replace hq := Lib.hid hq
                        go_wp2_with fail
                        refine wp_region_near (by kernel_rfl) (by kernel_rfl) ?_
                        intro hs
                        repeat (go_big_quiet_step ((go_at_call 47; exact Calls.near (by simp) (PC2.out _))))
                        refine wpQuiet_nil ?_
                        clear hs
                        intro w9 hb9
                        have H9 := H8.out.thru hb9
                        obtain ⟨z9, k9, f9⟩ := H9.box 1 rfl
                        clear H8 PC2 k8 f8 z8
                        rw [if_neg (by omega)] at hdX
                        have H10 : St w none0 w9 [orderP o s k X, cellA w.heap.size [.int .i64 X.mode, .int .i64 X.hold], rowA 1 (.slice va R.length vc) R.length (i64s (nums R)), rowA 1 (.slice ea R.length ec) R.length (i64s (ends R))] := by rw [hXm.out.1, hXm.out.2]; exact (H9.arr [0, 2, 3, 4, 1, 5] rfl).drops 4
                        replace H9 := Lib.hid H9; replace H10 := Lib.hid H10; replace hdX := Lib.hid hdX
                        go_wp2_with fail
                        go_meet
                        exact ⟨X, R, by omega, hgX, hdX, H10⟩
            · have hko : ¬ kind = 0 ∧ ¬ kind = 1 ∧ ¬ kind = 2 ∧ ¬ kind = 3 := by omega
              by_cases h4 : kind = 4
              · subst h4
                have P := tick_st o s k x hgx.out (by omega) HB.out
                have hgX := hgx.out.tick.more (k' := i + 1) (by omega)
                have hdX := hdx.out.tick hgx.out
                have hXm : (tickS x).mode = x.mode ∧ (tickS x).hold = x.hold := ⟨rfl, rfl⟩
                generalize tickS x = X at *
                generalize dueK (tickA x) (tickA x).now = dk at *
                as_aux_lemma =>
                  clear HB
                  replace P := Lib.hid P; replace hgX := Lib.hid hgX; replace hdX := Lib.hid hdX; replace hXm := Lib.hid hXm
                  go_wp2_with fail
                  refine Calls.mono P.out ?_
                  rintro e w7 ⟨rfl, H7⟩
                  have H10 : St w none0 w7 [orderP o s k X, cellA w.heap.size [.int .i64 X.mode, .int .i64 X.hold], rowA 1 (.slice va R.length vc) R.length (i64s (nums R)), rowA 1 (.slice ea R.length ec) R.length (i64s (ends R))] := by rw [hXm.out.1, hXm.out.2]; exact (H7.arr [0, 2, 3, 4, 1, 5] rfl).drops 4
                  clear P H7
                  replace H10 := Lib.hid H10
                  go_wp2_with fail
                  go_meet
                  exact ⟨X, R, by omega, hgX, hdX, H10⟩
              · by_cases h5 : kind = 5
                · subst h5
                  have P := recv_st o s k x hgx.out (by omega) HB.out
                  have hgX := hgx.out.recv.more (k' := i + 1) (by omega)
                  have hdX := hdx.out.recv
                  have hXm : (recvS x).mode = x.mode ∧ (recvS x).hold = x.hold := by unfold recvS; split <;> exact ⟨rfl, rfl⟩
                  generalize recvS x = X at *
                  generalize recvD x = dd at *
                  generalize (!x.rdy.isEmpty) = ok at *
                  as_aux_lemma =>
                    clear HB
                    replace P := Lib.hid P; replace hgX := Lib.hid hgX; replace hdX := Lib.hid hdX; replace hXm := Lib.hid hXm
                    go_wp2_with fail
                    refine Calls.mono P.out ?_
                    rintro e w7 ⟨rfl, H7⟩
                    have H10 : St w none0 w7 [orderP o s k X, cellA w.heap.size [.int .i64 X.mode, .int .i64 X.hold], rowA 1 (.slice va R.length vc) R.length (i64s (nums R)), rowA 1 (.slice ea R.length ec) R.length (i64s (ends R))] := by rw [hXm.out.1, hXm.out.2]; exact (H7.arr [0, 2, 3, 4, 1, 5] rfl).drops 4
                    clear P H7
                    replace H10 := Lib.hid H10
                    go_wp2_with fail
                    go_meet
                    exact ⟨X, R, by omega, hgX, hdX, H10⟩
                · by_cases h6 : kind = 6
                  · subst h6
                    have P := set_st o s k x mode hold HB.out
                    have hgX := (hgx.out.setS mode hold).more (k' := i + 1) (by omega)
                    have hdX := hdx.out.set mode hold
                    have hXm : setS x mode hold = if checkF mode hold = 0 then { x with mode := mode, hold := hold } else x := rfl
                    generalize checkF mode hold = ce at *
                    clear HB
                    replace P := Lib.hid P; replace hgX := Lib.hid hgX; replace hdX := Lib.hid hdX
                    by_cases hce : ce = 0
                    · have q0 : decide (ce = 0) = true := decide_eq_true hce
                      have q0' : (ce == 0) = true := by simpa using hce
                      rw [if_pos hce] at hXm
                      have hXm2 : (setS x mode hold).mode = mode ∧ (setS x mode hold).hold = hold := by rw [hXm]; exact ⟨rfl, rfl⟩
                      generalize setS x mode hold = X at *
                      replace hce := Lib.hid hce
                      replace hXm := Lib.hid hXm; replace hXm2 := Lib.hid hXm2
                      go_wp2_with fail
                      refine Calls.mono P.out ?_
                      rintro e w7 ⟨rfl, H7⟩
                      obtain ⟨z8, k8, f8⟩ := H7.box 1 rfl
                      obtain ⟨z7, k7, f7⟩ := H7.box 2 rfl
                      have H8 := ((H7.set 2 rfl 0 (.int .i64 mode) (by simp)).set 0 rfl 1 (.int .i64 hold) (by simp))
                      have H10 : St w none0 ((w7.setCell ⟨w.heap.size, 0, none⟩ (.int .i64 mode)).setCell ⟨w.heap.size, 1, none⟩ (.int .i64 hold)) [orderP o s k X, cellA w.heap.size [.int .i64 X.mode, .int .i64 X.hold], rowA 1 (.slice va R.length vc) R.length (i64s (nums R)), rowA 1 (.slice ea R.length ec) R.length (i64s (ends R))] := by rw [hXm2.out.1, hXm2.out.2]; exact (H8.arr [1, 0, 3, 4, 2, 5] rfl).drops 4
                      have n1 := H7.ne_cells 1 2 rfl rfl (by decide)
                      have n2 : ¬ w.heap.size = wr.heap.size := fun e => n1 e.symm
                      clear P H7 H8
                      replace H10 := Lib.hid H10
                      go_wp2_with fail
                      go_meet
                      exact ⟨X, R, by omega, hgX, hdX, H10⟩
                    · have q0 : decide (ce = 0) = false := decide_eq_false hce
                      have q0' : (ce == 0) = false := by simpa using hce
                      rw [if_neg hce] at hXm
                      have hXm2 : (setS x mode hold).mode = x.mode ∧ (setS x mode hold).hold = x.hold := by rw [hXm]; exact ⟨rfl, rfl⟩
                      generalize setS x mode hold = X at *
                      replace hce := Lib.hid hce
                      replace hXm := Lib.hid hXm; replace hXm2 := Lib.hid hXm2
                      go_wp2_with fail
                      refine Calls.mono P.out ?_
                      rintro e w7 ⟨rfl, H7⟩
                      have H10 : St w none0 w7 [orderP o s k X, cellA w.heap.size [.int .i64 X.mode, .int .i64 X.hold], rowA 1 (.slice va R.length vc) R.length (i64s (nums R)), rowA 1 (.slice ea R.length ec) R.length (i64s (ends R))] := by rw [hXm2.out.1, hXm2.out.2]; exact (H7.arr [0, 2, 3, 4, 1, 5] rfl).drops 4
                      clear P H7
                      replace H10 := Lib.hid H10
                      go_wp2_with fail
                      go_meet
                      exact ⟨X, R, by omega, hgX, hdX, H10⟩
                  · by_cases h7 : kind = 7
                    · subst h7
                      have P := flush_st o s k x hgx.out (by omega) HB.out
                      have hgX := hgx.out.flush.more (k' := i + 1) (by omega)
                      have hdX := hdx.out.flush hgx.out
                      have hXm : (flushS x).mode = x.mode ∧ (flushS x).hold = x.hold := ⟨rfl, rfl⟩
                      generalize flushS x = X at *
                      generalize dueK x (lateM x.l).1 = dk at *
                      as_aux_lemma =>
                        clear HB
                        replace P := Lib.hid P; replace hgX := Lib.hid hgX; replace hdX := Lib.hid hdX; replace hXm := Lib.hid hXm
                        go_wp2_with fail
                        refine Calls.mono P.out ?_
                        rintro e w7 ⟨rfl, H7⟩
                        have H10 : St w none0 w7 [orderP o s k X, cellA w.heap.size [.int .i64 X.mode, .int .i64 X.hold], rowA 1 (.slice va R.length vc) R.length (i64s (nums R)), rowA 1 (.slice ea R.length ec) R.length (i64s (ends R))] := by rw [hXm.out.1, hXm.out.2]; exact (H7.arr [0, 2, 3, 4, 1, 5] rfl).drops 4
                        clear P H7
                        replace H10 := Lib.hid H10
                        go_wp2_with fail
                        go_meet
                        exact ⟨X, R, by omega, hgX, hdX, H10⟩
                    · have q0 : (kind == 0) = false := by simpa using hko.1
                      have q1 : (kind == 1) = false := by simpa using hko.2.1
                      have q2 : (kind == 2) = false := by simpa using hko.2.2.1
                      have q3 : (kind == 3) = false := by simpa using hko.2.2.2
                      have q4 : (kind == 4) = false := by simpa using h4
                      have q5 : (kind == 5) = false := by simpa using h5
                      have q6 : (kind == 6) = false := by simpa using h6
                      have q7 : (kind == 7) = false := by simpa using h7
                      have H10 := (HB.out.arr [0, 2, 3, 4, 1, 5] rfl).drops 4
                      have hgX := hgx.out.more (k' := i + 1) (by omega)
                      clear hk hko h4 h5 h6 h7 HB
                      replace H10 := Lib.hid H10; replace hgX := Lib.hid hgX
                      go_wp2_with fail
                      go_meet
                      exact ⟨x, R, by omega, hgX, hdx, H10⟩
          case rest =>
            obtain ⟨X, R', hRl', hgX, hdX, hst⟩ := hcut
            obtain ⟨va', vc', rfl, _⟩ := St.slice (by omega) 2 hst.out rfl
            obtain ⟨ea', ec', rfl, _⟩ := St.slice (by omega) 3 hst.out rfl
            clear HA hr2 E2 z1 k1 f1 z9 k9 f9 hgx hdx g0 g1 g2 g3 g4 g5 g6 hp1 hp2 hp3 hp4 hpR hp20
            go_wp2_with fail
            go_loopg [14] R'.length (fun g v14 wr => ∃ j : Nat, j ≤ R'.length ∧ Hid (g = R'.length - j) ∧ v14 = .int .i64 j ∧ Hid (St w none0 wr [orderP o s k X, cellA w.heap.size [.int .i64 X.mode, .int .i64 X.hold], rowA 1 (.slice va' R'.length vc') R'.length (i64s (nums R')), rowA 1 (.slice ea' R'.length ec') R'.length (i64s (ends R'))]))
            case atStart => exact ⟨0, by omega, Lib.hid rfl, rfl, hst⟩
            case round =>
              obtain ⟨j, hj, hgj, rfl, hstj⟩ := hrel
              clear hst
              by_cases hjl : j < R'.length
              · obtain ⟨bn, on, rfl, hbn, hcn⟩ := Rd.cons (St.rd (by omega) 2 hstj.out rfl) (i64s_ne (l := nums R') (n := R'.length) (k := j) (by simp [nums]) hjl)
                obtain ⟨be, oe, rfl, hbe, hce⟩ := Rd.cons (St.rd (by omega) 3 hstj.out rfl) (i64s_ne (l := ends R') (n := R'.length) (k := j) (by simp [ends]) hjl)
                have e1 := hcn j (.int .i64 R'[j].1) (by simp [i64s, nums, hjl])
                have e2 := hce j (.int .i64 R'[j].2) (by simp [i64s, ends, hjl])
                have hkp := hdX.out.kept R'[j] (List.getElem_mem hjl)
                have hdd : R'[j].2 ≤ X.now → R'[j].1 ≤ X.c := fun h => by
                  rcases hkp with h1 | ⟨e, he, h1, h2⟩
                  · exact h1
                  · exact absurd (by rw [h2]; exact h) (hdX.out.due e he)
                clear hcn hce hkp
                generalize R'[j] = pr at *
                obtain ⟨pn, pe⟩ := pr
                simp only at e1 e2 hdd
                have PN := fun (s' : Near wr.heap.size wr) => now_st (hstj.out.thruB (by simp) (Near.near s'))
                have PC3 := fun (s' : Near wr.heap.size wr) => cursor_st hgX.out (by omega) (hstj.out.thruB (by simp) (Near.near s'))
                have hq1 : (j : Int) < R'.length := by omega
                replace PN := Lib.hid PN; replace PC3 := Lib.hid PC3
                by_cases hq : pe ≤ X.now
                · have q1 : decide (pe ≤ X.now) = true := decide_eq_true hq
                  have q2 : decide (X.c < pn) = false := decide_eq_false (by have := hdd hq; omega)
                  replace hq := Lib.hid hq; replace hdd := Lib.hid hdd
                  as_aux_lemma =>
                    go_wp2_with fail
                    refine wp_region_near (by kernel_rfl) (by kernel_rfl) ?_
                    intro hs
                    repeat (go_big_quiet_step ((first | (go_at_call 42; exact Calls.near (by simp) (PN.out _)) | (go_at_call 47; exact Calls.near (by simp) (PC3.out _)))))
                    refine wpQuiet_nil ?_
                    clear hs
                    intro w9 hb9
                    have H9 := hstj.out.thru hb9
                    clear PN PC3 hstj
                    replace H9 := Lib.hid H9
                    go_wp2_with fail
                    go_roundg (R'.length - (j + 1))
                    case measure => have := hgj.out; omega
                    case rel => exact ⟨j + 1, by omega, Lib.hid rfl, by go_num, H9⟩
                · have q1 : decide (pe ≤ X.now) = false := decide_eq_false hq
                  replace hq := Lib.hid hq; replace hdd := Lib.hid hdd
                  as_aux_lemma =>
                    go_wp2_with fail
                    refine wp_region_near (by kernel_rfl) (by kernel_rfl) ?_
                    intro hs
                    repeat (go_big_quiet_step ((first | (go_at_call 42; exact Calls.near (by simp) (PN.out _)) | (go_at_call 47; exact Calls.near (by simp) (PC3.out _)))))
                    refine wpQuiet_nil ?_
                    clear hs
                    intro w9 hb9
                    have H9 := hstj.out.thru hb9
                    clear PN PC3 hstj
                    replace H9 := Lib.hid H9
                    go_wp2_with fail
                    go_roundg (R'.length - (j + 1))
                    case measure => have := hgj.out; omega
                    case rel => exact ⟨j + 1, by omega, Lib.hid rfl, by go_num, H9⟩
              · have hst := hstj
                go_wp2_with fail
                go_roundg (len1 - (i + 1))
                case measure => have := hg.out; omega
                case rel => exact ⟨i + 1, X, R', by omega, Lib.hid rfl, by go_num, hgX, hdX, by omega, hst⟩
        · go_wp2_with fail
          go_ret
          exact hst.out.ret rfl
    · refine Calls.mono (PC.out _) ?_
      rintro e w4 ⟨rfl, hb4⟩
      have z4 := Below.size hb4; try simp only [World.size_alloc, World.size_setCell, World.size_drew] at z4
      have H3 := H2.out.thru hb4
      generalize checkF m h = ce at *
      have q1 : (ce != 0) = true := by simpa using hc
      have q2 : decide (ce = 0) = false := decide_eq_false hc
      clear H2 PC k2 f2 z2
      replace hc := Lib.hid hc
      replace H3 := Lib.hid H3
      go_wp2_with fail
      go_ret
      exact H3.out.ret rfl
end Go.Proofs.Ytiaefmmcakagpaa.Ord
