/- The walk of OrderStraight: with no hold nothing waits that need not. -/
import Derived.Test.YtiaefmmcakagpaaOrdPlain
import Derived.Test.YtiaefmmcakagpaaOrdDoes
namespace Go.Proofs.Ytiaefmmcakagpaa.Ord
set_option linter.unusedSimpArgs false
set_option linter.unusedVariables false
open Go Go.RowKit Go.Shelf Go.Proofs.Ytiaefmmcakagpaa Go.Proofs.Ytiaefmmcakagpaa.Sift Go.Proofs.Ytiaefmmcakagpaa.Hold
open Go.Proofs.Ytiaefmmcakagpaa.DockWait (El enc val encs placed headV)
attribute [local irreducible] Calls

theorem dgl_in {w : World} {a : Option Addr} {len cap : Nat} (h : Fits w (.slice 2 (.cons 1 (.int .i64) (.cons 1 .str .nil))) [.slice a len cap]) :
    len ≤ maxLen ∧ (a = none → len = 0) ∧ ∃ l : List Dg, l.length = len ∧ (∀ x ∈ l, isI64 x.1 ∧ x.2.size ≤ maxLen) ∧ Rd w a (dgs l) :=
  rows_in (size := 2) DockDg.enc (by omega) DockDg.enc_len (fun cs hf hlen => by
    obtain ⟨v, vs, rfl, f0, r0⟩ := fits_cons1 hf
    obtain ⟨n, rfl, wn⟩ := fits_int f0
    obtain ⟨v', vs', rfl, f1, r1⟩ := fits_cons1 r0
    obtain ⟨s, rfl, ws⟩ := fits_str f1
    obtain rfl : vs' = [] := r1
    exact ⟨(n, s), rfl, bounds_i64 wn, ws⟩) h
set_option maxRecDepth 200000 in
set_option maxHeartbeats 4000000 in
theorem straight_walk (a0 : Option Addr) (len0 cap0 : Nat) (w : World) (h0 : Fits w (.slice 2 (.cons 1 (.int .i64) (.cons 1 .str .nil))) [.slice a0 len0 cap0]) :
    Calls Try.prog 6 #[.slice a0 len0 cap0] w (Ret w (.bool true)) := by
  obtain ⟨hmax, _, L, hL, hgood, hR⟩ := dgl_in h0
  unfold maxLen at hmax
  have PO := fun w' => new_ok 0 0 rfl w'
  clear h0
  replace hL := Lib.hid hL; replace hgood := Lib.hid hgood; replace hR := Lib.hid hR; replace PO := Lib.hid PO
  go_enter Try.func6, Try.ntmps6
  go_wp2_with fail
  refine Calls.mono (works_law _) ?_
  rintro e w1 ⟨rfl, hb1⟩
  have z1 := Below.size hb1; try simp only [World.size_alloc, World.size_setCell, World.size_drew] at z1
  by_cases hbig : 150 < len0
  · have q0 : decide ((150 : Int) < (len0 : Int)) = true := decide_eq_true (by omega)
    go_wp2_with fail
    go_ret
    exact Ret.mk rfl (by repeat (first | with_reducible exact Below.refl _ _ | (with_reducible refine Below.al ?_) | (with_reducible refine Below.drew ?_) | (with_reducible refine Below.set ?_ (by first | (simp; done) | omega | (simp; omega))) | (with_reducible refine Below.thru ?_ (by assumption)) | (with_reducible refine Below.chg ?_ (by assumption) (by first | (simp; done) | omega | (simp; omega)))))
  · have q0 : decide ((150 : Int) < (len0 : Int)) = false := decide_eq_false (by omega)
    go_wp2_with fail
    refine Calls.mono (PO.out _) ?_
    rintro e w3 ⟨o, rfl, H3⟩
    obtain ⟨s, k, H4⟩ := order_P (((St.zero w).thru hb1).add H3)
    have H5 : St w none0 w3 [orderP o s k (new0 0 0)] := H4
    clear PO hb1 H3 H4
    replace H5 := Lib.hid H5
    go_wp2_with fail
    go_loopg [5, 6, 7, 8, 9] len0 (fun g v5 v6 _ _ _ wr => ∃ (i : Nat) (x : Or) (last : Int), i ≤ len0 ∧ Hid (g = len0 - i) ∧ v6 = .int .i64 i ∧ v5 = .int .i64 x.c ∧ Hid (Good x i last) ∧ x.l = [] ∧ x.rdy = [] ∧ x.mode = 0 ∧ x.hold = 0 ∧ Hid (St w none0 wr [orderP o s k x]))
    case atStart => exact ⟨0, new0 0 0, 0, by omega, Lib.hid rfl, rfl, rfl, Lib.hid (good_new 0 0), rfl, rfl, rfl, rfl, H5⟩
    case round =>
      obtain ⟨i, x, last, hi, hg, rfl, rfl, hgx, hxl, hxr, hxm, hxh, hst⟩ := hrel
      clear H5
      by_cases hlt : i < len0
      · have hil : i < L.length := by have := hL.out; omega
        obtain ⟨b, off, rfl, hb, hc⟩ := dgs_at (hR.out.below (St.below hst.out)) hL.out (by omega)
        obtain ⟨e0, e1⟩ := hc i hil
        have hgd := hgood.out L[i] (List.getElem_mem hil)
        clear hc
        have hLd : ∃ d, L[i] = d := ⟨_, rfl⟩
        obtain ⟨d, hLd⟩ := hLd
        rw [hLd] at e0 e1 hgd
        obtain ⟨d1, d2⟩ := d
        simp only at e0 e1 hgd
        replace hLd := Lib.hid hLd
        obtain ⟨hgd1, hgd2⟩ := hgd
        unfold maxLen at hgd2
        have hc0 := hgx.out.ok.c0
        have hc1 := hgx.out.ok.c1
        by_cases hd : 1000 < d2.size
        · have q1 : decide ((1000 : Int) < (d2.size : Int)) = true := decide_eq_true (by omega)
          go_wp2_with fail
          go_ret
          exact hst.out.ret rfl
        · have q1 : decide ((1000 : Int) < (d2.size : Int)) = false := decide_eq_false (by omega)
          have hsx := straight hgx.out hxl hxr (d1, d2)
          have hf0 : forF x.mode x.hold 0 [] = 0 := by rw [hxm, hxh]; rfl
          have P := take_st o s k x (d1, d2) 0 [] 0 rfl (Nat.zero_le _) none 0 hgx.out (by omega) (fun w' _ => Rd.nil _ _) hst.out
          have hgX := hgx.out.take (d1, d2) 0
          rw [hf0] at P
          generalize takeS x (d1, d2) 0 = X at *
          generalize (putP x (d1, d2) 0).1.1 = what at *
          simp only at hsx P
          obtain ⟨h1, h2, h3, h4, h5, h6⟩ := hsx
          generalize x.c = c at *
          clear hgx hxl hxr hf0 hst
          rw [hxm] at h5
          rw [hxh] at h6
          have hsx' : Hid (X.l = [] ∧ X.mode = 0 ∧ X.hold = 0) := Lib.hid ⟨h1, h5, h6⟩
          clear h1 h5 h6 h4
          replace P := Lib.hid P; replace hgX := Lib.hid hgX; replace h2 := Lib.hid h2; replace h3 := Lib.hid h3
          go_wp2_with fail
          refine Calls.mono P.out ?_
          rintro e w4 ⟨rfl, H6⟩
          have P2 := recv_st o s k X hgX.out (by omega) H6
          have hgY := hgX.out.recv
          have hXl : (recvS X).l = [] ∧ (recvS X).mode = 0 ∧ (recvS X).hold = 0 ∧ (recvS X).c = X.c := by
            obtain ⟨h1, h5, h6⟩ := hsx'.out
            unfold recvS
            split
            · exact ⟨h1, h5, h6, rfl⟩
            · exact ⟨h1, h5, h6, rfl⟩
          have hXr : (recvS X).rdy = X.rdy.drop 1 := by
            unfold recvS
            split
            · rename_i e; rw [e]; rfl
            · rename_i e; rw [e]; rfl
          have hD : recvD X = if c < d1 ∧ d1 ≤ top then (d1, d2) else (0, ⟨#[]⟩) := by
            unfold recvD
            rw [h2.out]
            split
            · rename_i e; split at e <;> first | (cases e; done) | (rw [if_neg (by assumption)])
            · rename_i e; split at e
              · rename_i hq; rw [if_pos hq]; cases e; rfl
              · cases e
          have hE : (!X.rdy.isEmpty) = decide (c < d1 ∧ d1 ≤ top) := by
            rw [h2.out]
            by_cases hq : c < d1 ∧ d1 ≤ top
            · rw [if_pos hq, decide_eq_true hq]; rfl
            · rw [if_neg hq, decide_eq_false hq]; rfl
          rw [h3.out] at hXl
          rw [h2.out] at hXr
          rw [hD, hE] at P2
          generalize recvS X = Y at *
          clear P H6 h2 h3 hD hE hsx' hgX
          unfold top at *
          by_cases hq : c < d1 ∧ d1 ≤ 140737488355327
          · simp only [if_pos hq, decide_eq_true hq] at hXl hXr P2
            have t1 : decide (c < d1) = true := decide_eq_true hq.1
            have t2 : decide (d1 ≤ 140737488355327) = true := decide_eq_true hq.2
            replace hXl := Lib.hid hXl; replace P2 := Lib.hid P2
            go_wp2_with fail
            refine Calls.mono P2.out ?_
            rintro e w5 ⟨rfl, H7'⟩
            have H7 : St w none0 w5 [orderP o s k Y] := H7'
            obtain ⟨b', off', e', hb5, hc5⟩ := dgs_at (hR.out.below (St.below H7)) hL.out (by omega)
            cases e'
            obtain ⟨g0, g1⟩ := hc5 i hil
            rw [hLd.out] at g0 g1
            have H8 := H7.skip (.cells #[.int .i64 d1, .string d2] 45)
            have PW := fun (s' : Near (w5.alloc (.cells #[.int .i64 d1, .string d2] 45)).heap.size (w5.alloc (.cells #[.int .i64 d1, .string d2] 45))) => waits_st (H8.thruB (by simp) (Near.near s'))
            rw [hXl.out.1] at PW
            simp only [List.length_nil] at PW
            clear P2 H7 H7' hc5
            replace H8 := Lib.hid H8; replace PW := Lib.hid PW; replace hq := Lib.hid hq
            go_wp2_with fail
            refine wp_region_near (by kernel_rfl) (by kernel_rfl) ?_
            intro hs
            repeat (go_big_quiet_step ((go_at_call 35; exact Calls.near (by simp) (PW.out _))))
            refine wpQuiet_nil ?_
            clear hs
            intro w6 hb6
            have H9 := H8.out.thru hb6
            have hz5 : w5.heap.size < w6.heap.size := by have := hb6.size; simp only [World.size_alloc] at this; omega
            obtain ⟨c6, f6⟩ := Below.blk hb6 (b := w5.heap.size) (by first | (simp; done) | omega | (simp; omega))
            clear H8 PW
            replace H9 := Lib.hid H9
            go_wp2_with fail
            go_roundg (len0 - (i + 1))
            case measure => have := hg.out; omega
            case rel => exact ⟨i + 1, Y, last, by omega, Lib.hid rfl, by go_num, by rw [hXl.out.2.2.2], hgY, hXl.out.1, hXr, hXl.out.2.1, hXl.out.2.2.1, H9⟩
          · simp only [if_neg hq, decide_eq_false hq] at hXl hXr P2
            by_cases t1' : c < d1
            · have t1 : decide (c < d1) = true := decide_eq_true t1'
              have t2 : decide (d1 ≤ 140737488355327) = false := decide_eq_false (by omega)
              replace t1' := Lib.hid t1'
              replace hXl := Lib.hid hXl; replace P2 := Lib.hid P2
              go_wp2_with fail
              refine Calls.mono P2.out ?_
              rintro e w5 ⟨rfl, H7'⟩
              have H7 : St w none0 w5 [orderP o s k Y] := H7'
              obtain ⟨b', off', e', hb5, hc5⟩ := dgs_at (hR.out.below (St.below H7)) hL.out (by omega)
              cases e'
              obtain ⟨g0, g1⟩ := hc5 i hil
              rw [hLd.out] at g0 g1
              have H8 := H7.skip (.cells #[.int .i64 0, .string ⟨#[]⟩] 45)
              have PW := fun (s' : Near (w5.alloc (.cells #[.int .i64 0, .string ⟨#[]⟩] 45)).heap.size (w5.alloc (.cells #[.int .i64 0, .string ⟨#[]⟩] 45))) => waits_st (H8.thruB (by simp) (Near.near s'))
              rw [hXl.out.1] at PW
              simp only [List.length_nil] at PW
              clear P2 H7 H7' hc5
              replace H8 := Lib.hid H8; replace PW := Lib.hid PW; replace hq := Lib.hid hq
              go_wp2_with fail
              refine wp_region_near (by kernel_rfl) (by kernel_rfl) ?_
              intro hs
              repeat (go_big_quiet_step ((go_at_call 35; exact Calls.near (by simp) (PW.out _))))
              refine wpQuiet_nil ?_
              clear hs
              intro w6 hb6
              have H9 := H8.out.thru hb6
              have hz5 : w5.heap.size < w6.heap.size := by have := hb6.size; simp only [World.size_alloc] at this; omega
              obtain ⟨c6, f6⟩ := Below.blk hb6 (b := w5.heap.size) (by first | (simp; done) | omega | (simp; omega))
              clear H8 PW
              replace H9 := Lib.hid H9
              go_wp2_with fail
              go_roundg (len0 - (i + 1))
              case measure => have := hg.out; omega
              case rel => exact ⟨i + 1, Y, last, by omega, Lib.hid rfl, by go_num, by rw [hXl.out.2.2.2], hgY, hXl.out.1, hXr, hXl.out.2.1, hXl.out.2.2.1, H9⟩
            · have t1 : decide (c < d1) = false := decide_eq_false t1'
              replace t1' := Lib.hid t1'
              replace hXl := Lib.hid hXl; replace P2 := Lib.hid P2
              go_wp2_with fail
              refine Calls.mono P2.out ?_
              rintro e w5 ⟨rfl, H7'⟩
              have H7 : St w none0 w5 [orderP o s k Y] := H7'
              obtain ⟨b', off', e', hb5, hc5⟩ := dgs_at (hR.out.below (St.below H7)) hL.out (by omega)
              cases e'
              obtain ⟨g0, g1⟩ := hc5 i hil
              rw [hLd.out] at g0 g1
              have H8 := H7.skip (.cells #[.int .i64 0, .string ⟨#[]⟩] 45)
              have PW := fun (s' : Near (w5.alloc (.cells #[.int .i64 0, .string ⟨#[]⟩] 45)).heap.size (w5.alloc (.cells #[.int .i64 0, .string ⟨#[]⟩] 45))) => waits_st (H8.thruB (by simp) (Near.near s'))
              rw [hXl.out.1] at PW
              simp only [List.length_nil] at PW
              clear P2 H7 H7' hc5
              replace H8 := Lib.hid H8; replace PW := Lib.hid PW; replace hq := Lib.hid hq
              go_wp2_with fail
              refine wp_region_near (by kernel_rfl) (by kernel_rfl) ?_
              intro hs
              repeat (go_big_quiet_step ((go_at_call 35; exact Calls.near (by simp) (PW.out _))))
              refine wpQuiet_nil ?_
              clear hs
              intro w6 hb6
              have H9 := H8.out.thru hb6
              have hz5 : w5.heap.size < w6.heap.size := by have := hb6.size; simp only [World.size_alloc] at this; omega
              obtain ⟨c6, f6⟩ := Below.blk hb6 (b := w5.heap.size) (by first | (simp; done) | omega | (simp; omega))
              clear H8 PW
              replace H9 := Lib.hid H9
              go_wp2_with fail
              go_roundg (len0 - (i + 1))
              case measure => have := hg.out; omega
              case rel => exact ⟨i + 1, Y, last, by omega, Lib.hid rfl, by go_num, by rw [hXl.out.2.2.2], hgY, hXl.out.1, hXr, hXl.out.2.1, hXl.out.2.2.1, H9⟩
      · go_wp2_with fail
        go_ret
        exact hst.out.ret rfl
end Go.Proofs.Ytiaefmmcakagpaa.Ord
