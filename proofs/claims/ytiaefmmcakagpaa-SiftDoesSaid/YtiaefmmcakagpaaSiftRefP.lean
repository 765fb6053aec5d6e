/- The walk of Put of the sift's answer. -/
import Derived.Test.YtiaefmmcakagpaaSiftRefR
namespace Go.Proofs.Ytiaefmmcakagpaa.Sift
set_option linter.unusedSimpArgs false
set_option linter.unusedVariables false
open Go Go.RowKit Go.Shelf Go.Proofs.Ytiaefmmcakagpaa
open Go.Proofs.Ytiaefmmcakagpaa.DockWait (El enc val encs encs_len encs_one encs_take encs_drop encs_app enc_len placed headV)
attribute [local irreducible] Calls

theorem perm_any {L l : List El} (hp : L.Perm l) (p : El → Bool) : L.any p = l.any p := by
  rw [Bool.eq_iff_iff, List.any_eq_true, List.any_eq_true]
  constructor <;> rintro ⟨x, hx, h⟩
  · exact ⟨x, hp.mem_iff.1 hx, h⟩
  · exact ⟨x, hp.mem_iff.2 hx, h⟩
theorem filter_gt : ∀ (l : List El) (n : Int), (∀ y ∈ l, n < y.1) → l.filter (fun y => decide (y.1 ≤ n)) = [] ∧ l.filter (fun y => !decide (y.1 ≤ n)) = l := by
  intro l n h
  constructor
  · rw [List.filter_eq_nil_iff]
    intro y hy
    have := h y hy
    simp; omega
  · rw [List.filter_eq_self]
    intro y hy
    have := h y hy
    simp; omega
theorem up_head {c : Int} {x : El} {l : List El} (hu : Up (x :: l)) : upM x.1 c (x :: l) = (dg x :: (runM l x.1).1, (runM l x.1).2) := by
  obtain ⟨h1, h2⟩ := filter_gt l x.1 (List.pairwise_cons.1 hu).1
  unfold upM
  rw [List.filter_cons_of_pos (by simp), List.filter_cons_of_neg (by simp), h1, h2]
  simp [lastN]

theorem put_twice {c : Int} {l : List El} {d : Dg} {till : Int} (h1 : ¬ d.1 ≤ c) (h2 : (l.any fun x => x.1 == d.1) = true) : putM c l d till = ((3, []), c, l) := by
  unfold putM fitsM; rw [if_neg h1, if_pos h2]; rfl
theorem put_far {c : Int} {l : List El} {d : Dg} {till : Int} (h1 : ¬ d.1 ≤ c) (h2 : (l.any fun x => x.1 == d.1) = false) (h3 : top < d.1) : putM c l d till = ((4, []), c, l) := by
  unfold putM fitsM; rw [if_neg h1, h2, if_pos h3]; rfl
theorem fits_yes {c : Int} {l : List El} {n : Int} (h1 : ¬ n ≤ c) (h2 : (l.any fun x => x.1 == n) = false) (h3 : ¬ top < n) : (fitsM c l n).2 = true := by
  unfold fitsM; rw [if_neg h1, h2, if_neg h3]; rfl

set_option maxRecDepth 100000 in
set_option maxHeartbeats 2000000 in
theorem rput_any (q : Nat) (c : Int) (l : List El) (d : Dg) (till : Int) (hok : Ok c l) (hl : l.length ≤ 32) (w : World) (S : Nat → Prop) (h : (refA q c l).holds w S) :
    Calls Try.prog 26 #[.pointer (some ⟨q, 0, none⟩), .agg #[.int .i64 d.1, .string d.2], .int .i64 till] w (fun e w' => ∃ v', e = .returned (.tuple #[.int .i64 (putM c l d till).1.1, v']) ∧ St w S w' [rowA 2 v' (putM c l d till).1.2.length (dgs (putM c l d till).1.2), refA q (putM c l d till).2.1 (putM c l d till).2.2]) := by
  obtain ⟨i0, hi, hz, hz1, hz2⟩ := info_parts wt_info
  obtain ⟨R, hR⟩ : ∃ R, R = putM c l d till := ⟨_, rfl⟩
  rw [← hR]
  obtain ⟨d1, d2⟩ := d
  obtain ⟨L, hp, H0⟩ := refA_parts (St.start (Sep.one h))
  have hL : L.length = l.length := hp.length_eq
  have hL9 : L.length ≤ 32 := by omega
  have H1 := H0.alloc [.int .i64 d1, .string d2] 45
  obtain ⟨ga, cap, H2⟩ := refS_parts H0
  have R0 := St.rd (by omega) 1 H2 rfl
  obtain ⟨z2, k2, f2⟩ := H2.box 0 rfl
  have n1 : ¬ q = w.heap.size := by omega
  have n2 : ¬ w.heap.size = q := by omega
  have hc0 := hok.c0
  have hc1 := hok.c1
  unfold top at hc1
  clear h H0 H2
  replace H1 := Lib.hid H1; replace R0 := Lib.hid R0; replace hR := Lib.hid hR; replace hp := Lib.hid hp; replace hok := Lib.hid hok; replace hL := Lib.hid hL
  by_cases g1 : d1 ≤ c
  · have q1 : decide (d1 ≤ c) = true := decide_eq_true g1
    have hR2 : R = ((2, []), c, l) := by rw [hR.out]; unfold putM fitsM; simp [g1]
    subst hR2
    replace g1 := Lib.hid g1
    go_enter Try.func26, Try.ntmps26
    go_wp2_with fail
    refine wp_region_near (by kernel_rfl) (by kernel_rfl) ?_
    intro hs
    repeat (go_big_quiet_step (fail))
    refine wpQuiet_nil ?_
    clear hs
    intro w2 hb2
    have H3 := (refA_shut hp.out ((H1.out.thru hb2).front 1 rfl)).row_nil (size := 2)
    replace H3 := Lib.hid H3
    go_wp2_with fail
    go_ret2
    exact ⟨_, rfl, H3.out.drops 2⟩
  · have q1 : decide (d1 ≤ c) = false := decide_eq_false g1
    go_enter Try.func26, Try.ntmps26
    go_wp2_with fail
    refine wp_region_near (by kernel_rfl) (by kernel_rfl) ?_
    intro hs
    repeat (go_big_quiet_step (fail))
    refine wpQuiet_nil ?_
    clear hs
    intro w2 hb2
    have H3 := H1.out.thru hb2
    clear H1 hb2 k2 f2
    replace H3 := Lib.hid H3
    go_wp2_with fail
    go_loopg [8] L.length (fun g v8 wr => ∃ j : Nat, j ≤ L.length ∧ g = L.length - j ∧ v8 = .int .i64 j ∧ Hid (∀ m (hm : m < L.length), m < j → L[m].1 ≠ d1) ∧ Hid (St w S wr [refS q c L, cellA w.heap.size [.int .i64 d1, .string d2]]))
    case atStart => exact ⟨0, by omega, by omega, rfl, Lib.hid (by omega), Lib.hid (H3.out.arr [1, 0] rfl)⟩
    case round =>
      obtain ⟨j, hj, hg, rfl, hno, hst⟩ := hrel
      obtain ⟨ga, cap, H4⟩ := refS_parts hst.out
      obtain ⟨z2, k2, f2⟩ := H4.box 0 rfl
      obtain ⟨z3, k3, f3⟩ := H4.box 2 rfl
      have R1 := St.rd (by omega) 1 H4 rfl
      clear H3 R0
      by_cases hlt : j < L.length
      · obtain ⟨b, off, rfl, hb, hc⟩ := wait_at R1 rfl (by omega)
        obtain ⟨e0, e1, e2⟩ := hc j hlt
        clear hc R1
        have t1 : (0 : Int) ≤ j ∧ (j : Int) < L.length := ⟨by omega, by omega⟩
        by_cases hq : L[j].1 = d1
        · have q2 : decide (L[j].1 = d1) = true := decide_eq_true hq
          have q3 : (L[j].1 == d1) = true := by simpa using hq
          have ha : (l.any fun x => x.1 == d1) = true := by
            rw [← perm_any hp.out, List.any_eq_true]
            exact ⟨L[j], List.getElem_mem hlt, by simpa using hq⟩
          have hR2 : R = ((3, []), c, l) := by rw [hR.out]; exact put_twice (by omega) ha
          subst hR2
          replace g1 := Lib.hid g1; replace hq := Lib.hid hq; replace H4 := Lib.hid H4; replace hg := Lib.hid hg; replace ha := Lib.hid ha
          go_wp2_with fail
          refine wp_region_near (by kernel_rfl) (by kernel_rfl) ?_
          intro hs
          repeat (go_big_quiet_step (fail))
          refine wpQuiet_nil ?_
          clear hs
          intro w4 hb4
          have H5 := (refA_shut hp.out (hst.out.thru hb4)).row_nil (size := 2)
          replace H5 := Lib.hid H5
          go_wp2_with fail
          go_ret2
          exact ⟨_, rfl, H5.out.drops 2⟩
        · have q2 : decide (L[j].1 = d1) = false := decide_eq_false hq
          have q3 : (L[j].1 == d1) = false := by simpa using hq
          replace g1 := Lib.hid g1; replace hq := Lib.hid hq; replace H4 := Lib.hid H4; replace hg := Lib.hid hg
          go_wp2_with fail
          refine wp_region_near (by kernel_rfl) (by kernel_rfl) ?_
          intro hs
          repeat (go_big_quiet_step (fail))
          refine wpQuiet_nil ?_
          clear hs
          intro w4 hb4
          go_wp2_with fail
          go_roundg (L.length - (j + 1))
          case measure => have := hg.out; omega
          case rel => exact ⟨j + 1, by omega, rfl, by go_num, Lib.hid fun m hm hm1 => (Nat.lt_or_eq_of_le (Nat.le_of_lt_succ hm1)).elim (hno.out m hm) fun e => by simpa only [e] using hq.out, Lib.hid (hst.out.thru hb4)⟩
      · have ha : (l.any fun x => x.1 == d1) = false := by
          rw [← perm_any hp.out]
          exact any_none fun i hi => by have := hno.out i hi (by omega); simpa using this
        by_cases g4 : 140737488355327 < d1
        · have q4 : decide (140737488355327 < d1) = true := decide_eq_true g4
          have hR2 : R = ((4, []), c, l) := by rw [hR.out]; exact put_far (by omega) ha (by unfold top; omega)
          subst hR2
          have H5 := (refA_shut hp.out hst.out).row_nil (size := 2)
          replace g1 := Lib.hid g1; replace H4 := Lib.hid H4; replace hg := Lib.hid hg; replace ha := Lib.hid ha; replace g4 := Lib.hid g4; replace H5 := Lib.hid H5
          go_wp2_with fail
          go_ret2
          exact ⟨_, rfl, H5.out.drops 2⟩
        · have q4 : decide (140737488355327 < d1) = false := decide_eq_false g4
          have hf : (fitsM c l d1).2 = true := fits_yes (by omega) ha (by unfold top; omega)
          have hfo : Ok c (lay (d1, d2) till l) := lay_ok (d1, d2) till hok.out hf
          have hlp : (L ++ [(d1, d2, till)]).Perm (lay (d1, d2) till l) := (List.perm_append_singleton _ _).trans ((hp.out.cons _).trans (lay_perm (d1, d2) till l).symm)
          have hll := lay_len (d1, d2) till l
          have hR2 : R = if d1 = c + 1 then ((0, (runM (lay (d1, d2) till l) c).1), (runM (lay (d1, d2) till l) c).2)
              else if 32 < (lay (d1, d2) till l).length then ((1, (upM (headV (lay (d1, d2) till l)).1 c (lay (d1, d2) till l)).1), (upM (headV (lay (d1, d2) till l)).1 c (lay (d1, d2) till l)).2)
              else ((1, []), c, lay (d1, d2) till l) := by
            rw [hR.out]; unfold putM; rw [if_pos hf]
          have g1' : c < d1 := by omega
          have g4' : d1 ≤ 140737488355327 := by omega
          clear hf ha hno hok g1 g4 hR hst
          generalize lay (d1, d2) till l = M at *
          have ga0 : ga = none → L.length = 0 := by
            intro e
            subst e
            rcases R1 with R1 | ⟨_, _, e, _⟩
            · have := congrArg List.length R1
              rw [encs_len, List.length_nil] at this
              omega
            · cases e
          replace H4 := Lib.hid H4; replace hg := Lib.hid hg; replace hR2 := Lib.hid hR2; replace hfo := Lib.hid hfo; replace hlp := Lib.hid hlp; replace hll := Lib.hid hll; replace R1 := Lib.hid R1; replace ga0 := Lib.hid ga0
          go_wp2_with fail
          refine wp_region_to 14 [0, 2, 3, 4, 5, 7, 8, 9] [true, false, true, true, true, true, false, true, true, true, false, false, false, false, false] 6 #[true, false, true, true, true, true, false, true, true, true, false, false, false, false, false] (by kernel_rfl) rfl (by kernel_rfl) (by kernel_rfl) rfl (by kernel_rfl) (by kernel_rfl) (by intro c a a' w e h; obtain ⟨t, d⟩ := a; obtain ⟨t', d'⟩ := a'; obtain rfl : d = d' := e; exact h) ?_
          intro hs
          simp only [pickB]
          repeat (go_big_quiet_step (fail))
          refine wpQuiet_nil ?_
          clear hs
          intro W hW
          rw [← hW] at H4
          replace hW := Lib.hid hW
          have Z : St W none0 W.drew [] := (St.zero W).drew
          have hr : Rd W ga (encs L) := St.rd (by omega) 1 H4.out rfl
          refine to_two (i := 1) (j := 10) (by kernel_rfl) (fun K hK => ?_) (fun K hK => ?_) <;> simp only [List.drop_succ_cons, List.drop_zero, List.take_succ_cons, List.take_zero]
          · go_wp2_with fail
            have E1 := Z.alloc [] 109
            refine hK _ _ E1.below ?_
            clear hK K
            have E2 := E1.row_empty (size := 3) 0 rfl
            have hr2 := hr.of_st E2
            refine to_two (i := 6) (j := 10) (by kernel_rfl) (fun K hK => ?_) (fun K hK => ?_) <;> simp only [List.drop_succ_cons, List.drop_zero, List.take_succ_cons, List.take_zero]
            · go_wp2_with (at_builtin; (refine wpList_appRd rfl (.tmp 41) (.tmp 45) _ rfl 109 i0 _ 3 32 Try.underlying53 hi hz hz1 hz2 rfl (by omega) 0 _ 0 [] rfl E2 rfl ga L.length cap (encs L) rfl (encs_len L) hr2 ga0.out (encs_one L) (by omega) (by omega) ?_; intro wv5 w5 HA; (try simp only [Nat.zero_add, List.nil_append] at HA)))
              refine hK _ _ HA.below ?_
              clear hK K
              refine to_one (i := 10) (by kernel_rfl) fun K hK => ?_
              simp only [List.drop_succ_cons, List.drop_zero, List.take_succ_cons, List.take_zero]
              go_wp2_with fail
              have HB := St.alloc HA [.int .i64 d1, .string d2, .int .i64 till] 109
              try simp only [World.size_alloc, World.size_drew] at HB
              refine hK _ _ (St.below HB) ?_
              clear hK K
              refine to_one (i := 11) (by kernel_rfl) fun K hK => ?_
              simp only [List.drop_succ_cons, List.drop_zero, List.take_succ_cons, List.take_zero]
              go_wp2_with (at_builtin; (refine wpList_appRd rfl (.tmp 46) (.tmp 50) _ rfl 109 i0 _ 3 32 Try.underlying53 hi hz hz1 hz2 rfl (by omega) 1 _ L.length (encs L) rfl HB rfl _ 1 1 [.int .i64 d1, .string d2, .int .i64 till] rfl rfl (St.box 0 HB rfl).rd (by simp) (by simp [Value.oneCell']) (by omega) (by omega) ?_; intro wv6 w6 HC))
              refine hK _ _ HC.below ?_
              clear hK K
              have hb6 := HC.below
              refine to_one (i := 12) (by kernel_rfl) fun K hK => ?_
              simp only [List.drop_succ_cons, List.drop_zero, List.take_succ_cons, List.take_zero]
              go_wp2_with fail
              refine hK _ _ hb6 ?_
              clear hK K
              refine to_one (i := 13) (by kernel_rfl) fun K hK => ?_
              simp only [List.drop_succ_cons, List.drop_zero, List.take_succ_cons, List.take_zero]
              go_wp2_with fail
              refine hK _ _ hb6 ?_
              clear hK K
              refine to_last (by kernel_rfl) (by kernel_rfl) fun K hK => ?_
              simp only [List.drop_succ_cons, List.drop_zero, List.take_succ_cons, List.take_zero]
              have HD : St W none0 w6 [rowA 3 wv6 (L.length + 1) (encs L ++ enc (d1, d2, till))] := ((HC).front 0 rfl).drops 1
              rw [encs_app] at HD
              obtain ⟨ga6, cap6, rfl, _⟩ := St.slice (by omega) 0 HD rfl
              have HF := H4.out.add HD
              clear HC HD H4
              obtain ⟨zq, cq, fq⟩ := HF.box 1 rfl
              have HG := HF.set 1 rfl 0 (.slice ga6 (L.length + 1) cap6) (by simp)
              clear HF
              simp only [List.set_cons_zero, List.cons_append, List.nil_append, List.eraseIdx_cons_succ, List.eraseIdx_cons_zero] at HG
              replace HG := Lib.hid HG
              go_wp2_with fail
              have HI := HG.out
              obtain ⟨w7, hw7⟩ : ∃ w7, w7 = w6.setCell ⟨q, 0, none⟩ (Value.slice ga6 (L.length + 1) cap6) := ⟨_, rfl⟩
              rw [← hw7] at HI ⊢
              obtain ⟨zr, cr, fr⟩ := HI.box 0 rfl
              obtain ⟨zb, cb, fb⟩ := HI.box 3 rfl
              have HJ := refS_shut (L := L ++ [(d1, d2, till)]) (by rw [List.length_append]; rfl) (HI.arrN [0, 1] rfl)
              have hw : IntKind.i64.wrap (c + 1) = c + 1 := by rw [IntKind.wrap_i64]; omega
              clear cq fq zq hW Z hr
              replace hw7 := Lib.hid hw7
              replace HI := Lib.hid HI
              replace HJ := Lib.hid HJ
              refine wp_region_near (by kernel_rfl) (by kernel_rfl) ?_
              intro hs
              repeat (go_big_quiet_step (fail))
              refine wpQuiet_nil ?_
              clear hs
              intro w8 hb8
              have HK := (refA_shut hlp.out (HJ.out.thru hb8)).drops 1
              clear HG HJ HI cr fr cb fb
              by_cases hq : d1 = c + 1
              · have q5 : decide (d1 = c + 1) = true := decide_eq_true hq
                have q6 : (d1 == c + 1) = true := by simpa using hq
                have hR3 := hR2.out
                rw [if_pos hq] at hR3
                have H8 := (HK.row_nil (size := 2)).all
                have P3 := ex_at 0 H8 rfl fun S1 h1 => rrun_any q c M (.slice none 0 0) [] hfo.out.up (by have := hll.out; omega) (by simp) (by omega) (by unfold top; omega) (fun x hx => (hfo.out.mem x hx).2) _ S1 h1
                replace hq := Lib.hid hq
                clear HK H8 hR2 hb8
                replace P3 := Lib.hid P3; replace hR3 := Lib.hid hR3
                go_wp2_with fail
                refine Calls.mono P3.out ?_
                rintro e w9 ⟨v', rfl, H9⟩
                clear P3
                replace H9 := Lib.hid H9
                go_wp2_with fail
                go_ret2
                rw [hR3.out]
                exact ⟨v', rfl, H9.out⟩
              · have q5 : decide (d1 = c + 1) = false := decide_eq_false hq
                have q6 : (d1 == c + 1) = false := by simpa using hq
                have hR3 := hR2.out
                rw [if_neg hq] at hR3
                replace hq := Lib.hid hq
                obtain ⟨L8, hp8, HL⟩ := refA_parts HK
                obtain ⟨ga8, cap8, HM⟩ := refS_parts HL
                obtain ⟨z8, k8, f8⟩ := HM.box 0 rfl
                have hL8 : L8.length = M.length := hp8.length_eq
                have hM : M.length ≤ 33 := by have := hll.out; omega
                clear HL HM hR2 hb8
                by_cases hq3 : 32 < M.length
                · have q7 : decide ((32 : Int) < (L8.length : Int)) = true := decide_eq_true (by omega)
                  rw [if_pos hq3] at hR3
                  replace hq3 := Lib.hid hq3
                  cases M with
                  | nil => have := hq3.out; simp at this
                  | cons x M =>
                    have hup := hfo.out.up
                    rw [show (headV (x :: M)) = x from rfl, up_head hup] at hR3
                    have hlM : M.length ≤ 900 := by simp only [List.length_cons] at hM; omega
                    have P3 := Calls.st_at 0 HK rfl fun S1 h1 => rrel_any q c x M hup hlM _ S1 h1
                    have hxt := (hfo.out.mem x (by simp))
                    have hMt : ∀ y ∈ M, y.1 ≤ top := fun y hy => (hfo.out.mem y (List.mem_cons_of_mem _ hy)).2
                    have huM := (List.pairwise_cons.1 hup).2
                    obtain ⟨x1, x2, x3⟩ := x
                    simp only at hR3 hxt P3
                    clear HK
                    replace P3 := Lib.hid P3; replace hR3 := Lib.hid hR3; replace hL8 := Lib.hid hL8; replace hM := Lib.hid hM; replace hup := Lib.hid hup; replace hMt := Lib.hid hMt; replace huM := Lib.hid huM; replace hxt := Lib.hid hxt
                    go_wp2_with fail
                    refine Calls.mono P3.out ?_
                    rintro e w9 ⟨rfl, H9⟩
                    clear P3
                    have H10 := (H9.alloc [.int .i64 x1, .string x2] 45).row_grown (size := 2) (n := 1) (G := 1) 0 rfl rfl (by omega) (by unfold maxLen; omega)
                    have P4 := ex_at 0 H10.all rfl fun S1 h1 => rrun_any q x1 M (.slice (some ⟨w9.heap.size, 0, none⟩) 1 1) [(x1, x2)] huM.out hlM (by simp) (by have := hxt.out; have := hfo.out.c0; omega) hxt.out.2 hMt.out _ S1 h1
                    clear H9 H10
                    replace P4 := Lib.hid P4
                    go_wp2_with fail
                    refine Calls.mono P4.out ?_
                    rintro e w10 ⟨v', rfl, H11⟩
                    clear P4
                    replace H11 := Lib.hid H11
                    go_wp2_with fail
                    go_ret2
                    rw [hR3.out]
                    exact ⟨v', rfl, H11.out⟩
                · have q7 : decide ((32 : Int) < (L8.length : Int)) = false := decide_eq_false (by omega)
                  rw [if_neg hq3] at hR3
                  have H9 := (HK.row_nil (size := 2))
                  replace hq3 := Lib.hid hq3
                  replace HK := Lib.hid HK; replace hR3 := Lib.hid hR3; replace hL8 := Lib.hid hL8; replace hM := Lib.hid hM; replace H9 := Lib.hid H9
                  go_wp2_with fail
                  go_ret2
                  rw [hR3.out]
                  exact ⟨_, rfl, H9.out⟩
            · go_wp2_with fail
              have HB := St.alloc E2 [.int .i64 d1, .string d2, .int .i64 till] 109
              try simp only [World.size_alloc, World.size_drew] at HB
              refine hK _ _ (St.below HB) ?_
              clear hK K
              have hr3 := hr.of_st HB
              refine to_one (i := 6) (by kernel_rfl) fun K hK => ?_
              simp only [List.drop_succ_cons, List.drop_zero, List.take_succ_cons, List.take_zero]
              go_wp2_with (at_builtin; (refine wpList_appRd rfl (.tmp 41) (.tmp 45) _ rfl 109 i0 _ 3 32 Try.underlying53 hi hz hz1 hz2 rfl (by omega) 1 _ 0 [] rfl HB rfl ga L.length cap (encs L) rfl (encs_len L) hr3 ga0.out (encs_one L) (by omega) (by omega) ?_; intro wv5 w5 HA; (try simp only [Nat.zero_add, List.nil_append] at HA)))
              refine hK _ _ HA.below ?_
              clear hK K
              refine to_one (i := 11) (by kernel_rfl) fun K hK => ?_
              simp only [List.drop_succ_cons, List.drop_zero, List.take_succ_cons, List.take_zero]
              go_wp2_with (at_builtin; (refine wpList_appRd rfl (.tmp 46) (.tmp 50) _ rfl 109 i0 _ 3 32 Try.underlying53 hi hz hz1 hz2 rfl (by omega) 0 _ L.length (encs L) rfl HA rfl _ 1 1 [.int .i64 d1, .string d2, .int .i64 till] rfl rfl (St.box 1 HA rfl).rd (by simp) (by simp [Value.oneCell']) (by omega) (by omega) ?_; intro wv6 w6 HC))
              refine hK _ _ HC.below ?_
              clear hK K
              have hb6 := HC.below
              refine to_one (i := 12) (by kernel_rfl) fun K hK => ?_
              simp only [List.drop_succ_cons, List.drop_zero, List.take_succ_cons, List.take_zero]
              go_wp2_with fail
              refine hK _ _ hb6 ?_
              clear hK K
              refine to_one (i := 13) (by kernel_rfl) fun K hK => ?_
              simp only [List.drop_succ_cons, List.drop_zero, List.take_succ_cons, List.take_zero]
              go_wp2_with fail
              refine hK _ _ hb6 ?_
              clear hK K
              refine to_last (by kernel_rfl) (by kernel_rfl) fun K hK => ?_
              simp only [List.drop_succ_cons, List.drop_zero, List.take_succ_cons, List.take_zero]
              have HD : St W none0 w6 [rowA 3 wv6 (L.length + 1) (encs L ++ enc (d1, d2, till))] := ((HC).front 0 rfl).drops 1
              rw [encs_app] at HD
              obtain ⟨ga6, cap6, rfl, _⟩ := St.slice (by omega) 0 HD rfl
              have HF := H4.out.add HD
              clear HC HD H4
              obtain ⟨zq, cq, fq⟩ := HF.box 1 rfl
              have HG := HF.set 1 rfl 0 (.slice ga6 (L.length + 1) cap6) (by simp)
              clear HF
              simp only [List.set_cons_zero, List.cons_append, List.nil_append, List.eraseIdx_cons_succ, List.eraseIdx_cons_zero] at HG
              replace HG := Lib.hid HG
              go_wp2_with fail
              have HI := HG.out
              obtain ⟨w7, hw7⟩ : ∃ w7, w7 = w6.setCell ⟨q, 0, none⟩ (Value.slice ga6 (L.length + 1) cap6) := ⟨_, rfl⟩
              rw [← hw7] at HI ⊢
              obtain ⟨zr, cr, fr⟩ := HI.box 0 rfl
              obtain ⟨zb, cb, fb⟩ := HI.box 3 rfl
              have HJ := refS_shut (L := L ++ [(d1, d2, till)]) (by rw [List.length_append]; rfl) (HI.arrN [0, 1] rfl)
              have hw : IntKind.i64.wrap (c + 1) = c + 1 := by rw [IntKind.wrap_i64]; omega
              clear cq fq zq hW Z hr
              replace hw7 := Lib.hid hw7
              replace HI := Lib.hid HI
              replace HJ := Lib.hid HJ
              refine wp_region_near (by kernel_rfl) (by kernel_rfl) ?_
              intro hs
              repeat (go_big_quiet_step (fail))
              refine wpQuiet_nil ?_
              clear hs
              intro w8 hb8
              have HK := (refA_shut hlp.out (HJ.out.thru hb8)).drops 1
              clear HG HJ HI cr fr cb fb
              by_cases hq : d1 = c + 1
              · have q5 : decide (d1 = c + 1) = true := decide_eq_true hq
                have q6 : (d1 == c + 1) = true := by simpa using hq
                have hR3 := hR2.out
                rw [if_pos hq] at hR3
                have H8 := (HK.row_nil (size := 2)).all
                have P3 := ex_at 0 H8 rfl fun S1 h1 => rrun_any q c M (.slice none 0 0) [] hfo.out.up (by have := hll.out; omega) (by simp) (by omega) (by unfold top; omega) (fun x hx => (hfo.out.mem x hx).2) _ S1 h1
                replace hq := Lib.hid hq
                clear HK H8 hR2 hb8
                replace P3 := Lib.hid P3; replace hR3 := Lib.hid hR3
                go_wp2_with fail
                refine Calls.mono P3.out ?_
                rintro e w9 ⟨v', rfl, H9⟩
                clear P3
                replace H9 := Lib.hid H9
                go_wp2_with fail
                go_ret2
                rw [hR3.out]
                exact ⟨v', rfl, H9.out⟩
              · have q5 : decide (d1 = c + 1) = false := decide_eq_false hq
                have q6 : (d1 == c + 1) = false := by simpa using hq
                have hR3 := hR2.out
                rw [if_neg hq] at hR3
                replace hq := Lib.hid hq
                obtain ⟨L8, hp8, HL⟩ := refA_parts HK
                obtain ⟨ga8, cap8, HM⟩ := refS_parts HL
                obtain ⟨z8, k8, f8⟩ := HM.box 0 rfl
                have hL8 : L8.length = M.length := hp8.length_eq
                have hM : M.length ≤ 33 := by have := hll.out; omega
                clear HL HM hR2 hb8
                by_cases hq3 : 32 < M.length
                · have q7 : decide ((32 : Int) < (L8.length : Int)) = true := decide_eq_true (by omega)
                  rw [if_pos hq3] at hR3
                  replace hq3 := Lib.hid hq3
                  cases M with
                  | nil => have := hq3.out; simp at this
                  | cons x M =>
                    have hup := hfo.out.up
                    rw [show (headV (x :: M)) = x from rfl, up_head hup] at hR3
                    have hlM : M.length ≤ 900 := by simp only [List.length_cons] at hM; omega
                    have P3 := Calls.st_at 0 HK rfl fun S1 h1 => rrel_any q c x M hup hlM _ S1 h1
                    have hxt := (hfo.out.mem x (by simp))
                    have hMt : ∀ y ∈ M, y.1 ≤ top := fun y hy => (hfo.out.mem y (List.mem_cons_of_mem _ hy)).2
                    have huM := (List.pairwise_cons.1 hup).2
                    obtain ⟨x1, x2, x3⟩ := x
                    simp only at hR3 hxt P3
                    clear HK
                    replace P3 := Lib.hid P3; replace hR3 := Lib.hid hR3; replace hL8 := Lib.hid hL8; replace hM := Lib.hid hM; replace hup := Lib.hid hup; replace hMt := Lib.hid hMt; replace huM := Lib.hid huM; replace hxt := Lib.hid hxt
                    go_wp2_with fail
                    refine Calls.mono P3.out ?_
                    rintro e w9 ⟨rfl, H9⟩
                    clear P3
                    have H10 := (H9.alloc [.int .i64 x1, .string x2] 45).row_grown (size := 2) (n := 1) (G := 1) 0 rfl rfl (by omega) (by unfold maxLen; omega)
                    have P4 := ex_at 0 H10.all rfl fun S1 h1 => rrun_any q x1 M (.slice (some ⟨w9.heap.size, 0, none⟩) 1 1) [(x1, x2)] huM.out hlM (by simp) (by have := hxt.out; have := hfo.out.c0; omega) hxt.out.2 hMt.out _ S1 h1
                    clear H9 H10
                    replace P4 := Lib.hid P4
                    go_wp2_with fail
                    refine Calls.mono P4.out ?_
                    rintro e w10 ⟨v', rfl, H11⟩
                    clear P4
                    replace H11 := Lib.hid H11
                    go_wp2_with fail
                    go_ret2
                    rw [hR3.out]
                    exact ⟨v', rfl, H11.out⟩
                · have q7 : decide ((32 : Int) < (L8.length : Int)) = false := decide_eq_false (by omega)
                  rw [if_neg hq3] at hR3
                  have H9 := (HK.row_nil (size := 2))
                  replace hq3 := Lib.hid hq3
                  replace HK := Lib.hid HK; replace hR3 := Lib.hid hR3; replace hL8 := Lib.hid hL8; replace hM := Lib.hid hM; replace H9 := Lib.hid H9
                  go_wp2_with fail
                  go_ret2
                  rw [hR3.out]
                  exact ⟨_, rfl, H9.out⟩
          · go_wp2_with fail
            have HB := St.alloc Z [.int .i64 d1, .string d2, .int .i64 till] 109
            try simp only [World.size_alloc, World.size_drew] at HB
            refine hK _ _ (St.below HB) ?_
            clear hK K
            refine to_one (i := 1) (by kernel_rfl) fun K hK => ?_
            simp only [List.drop_succ_cons, List.drop_zero, List.take_succ_cons, List.take_zero]
            go_wp2_with fail
            have E1 := HB.alloc [] 109
            try simp only [World.size_alloc, World.size_drew] at E1
            refine hK _ _ E1.below ?_
            clear hK K
            have E2 := E1.row_empty (size := 3) 0 rfl
            have hr2 := hr.of_st E2
            refine to_one (i := 6) (by kernel_rfl) fun K hK => ?_
            simp only [List.drop_succ_cons, List.drop_zero, List.take_succ_cons, List.take_zero]
            go_wp2_with (at_builtin; (refine wpList_appRd rfl (.tmp 41) (.tmp 45) _ rfl 109 i0 _ 3 32 Try.underlying53 hi hz hz1 hz2 rfl (by omega) 0 _ 0 [] rfl E2 rfl ga L.length cap (encs L) rfl (encs_len L) hr2 ga0.out (encs_one L) (by omega) (by omega) ?_; intro wv5 w5 HA; (try simp only [Nat.zero_add, List.nil_append] at HA)))
            refine hK _ _ HA.below ?_
            clear hK K
            refine to_one (i := 11) (by kernel_rfl) fun K hK => ?_
            simp only [List.drop_succ_cons, List.drop_zero, List.take_succ_cons, List.take_zero]
            go_wp2_with (at_builtin; (refine wpList_appRd rfl (.tmp 46) (.tmp 50) _ rfl 109 i0 _ 3 32 Try.underlying53 hi hz hz1 hz2 rfl (by omega) 0 _ L.length (encs L) rfl HA rfl _ 1 1 [.int .i64 d1, .string d2, .int .i64 till] rfl rfl (St.box 1 HA rfl).rd (by simp) (by simp [Value.oneCell']) (by omega) (by omega) ?_; intro wv6 w6 HC))
            refine hK _ _ HC.below ?_
            clear hK K
            have hb6 := HC.below
            refine to_one (i := 12) (by kernel_rfl) fun K hK => ?_
            simp only [List.drop_succ_cons, List.drop_zero, List.take_succ_cons, List.take_zero]
            go_wp2_with fail
            refine hK _ _ hb6 ?_
            clear hK K
            refine to_one (i := 13) (by kernel_rfl) fun K hK => ?_
            simp only [List.drop_succ_cons, List.drop_zero, List.take_succ_cons, List.take_zero]
            go_wp2_with fail
            refine hK _ _ hb6 ?_
            clear hK K
            refine to_last (by kernel_rfl) (by kernel_rfl) fun K hK => ?_
            simp only [List.drop_succ_cons, List.drop_zero, List.take_succ_cons, List.take_zero]
            have HD : St W none0 w6 [rowA 3 wv6 (L.length + 1) (encs L ++ enc (d1, d2, till))] := ((HC).front 0 rfl).drops 1
            rw [encs_app] at HD
            obtain ⟨ga6, cap6, rfl, _⟩ := St.slice (by omega) 0 HD rfl
            have HF := H4.out.add HD
            clear HC HD H4
            obtain ⟨zq, cq, fq⟩ := HF.box 1 rfl
            have HG := HF.set 1 rfl 0 (.slice ga6 (L.length + 1) cap6) (by simp)
            clear HF
            simp only [List.set_cons_zero, List.cons_append, List.nil_append, List.eraseIdx_cons_succ, List.eraseIdx_cons_zero] at HG
            replace HG := Lib.hid HG
            go_wp2_with fail
            have HI := HG.out
            obtain ⟨w7, hw7⟩ : ∃ w7, w7 = w6.setCell ⟨q, 0, none⟩ (Value.slice ga6 (L.length + 1) cap6) := ⟨_, rfl⟩
            rw [← hw7] at HI ⊢
            obtain ⟨zr, cr, fr⟩ := HI.box 0 rfl
            obtain ⟨zb, cb, fb⟩ := HI.box 3 rfl
            have HJ := refS_shut (L := L ++ [(d1, d2, till)]) (by rw [List.length_append]; rfl) (HI.arrN [0, 1] rfl)
            have hw : IntKind.i64.wrap (c + 1) = c + 1 := by rw [IntKind.wrap_i64]; omega
            clear cq fq zq hW Z hr
            replace hw7 := Lib.hid hw7
            replace HI := Lib.hid HI
            replace HJ := Lib.hid HJ
            refine wp_region_near (by kernel_rfl) (by kernel_rfl) ?_
            intro hs
            repeat (go_big_quiet_step (fail))
            refine wpQuiet_nil ?_
            clear hs
            intro w8 hb8
            have HK := (refA_shut hlp.out (HJ.out.thru hb8)).drops 1
            clear HG HJ HI cr fr cb fb
            by_cases hq : d1 = c + 1
            · have q5 : decide (d1 = c + 1) = true := decide_eq_true hq
              have q6 : (d1 == c + 1) = true := by simpa using hq
              have hR3 := hR2.out
              rw [if_pos hq] at hR3
              have H8 := (HK.row_nil (size := 2)).all
              have P3 := ex_at 0 H8 rfl fun S1 h1 => rrun_any q c M (.slice none 0 0) [] hfo.out.up (by have := hll.out; omega) (by simp) (by omega) (by unfold top; omega) (fun x hx => (hfo.out.mem x hx).2) _ S1 h1
              replace hq := Lib.hid hq
              clear HK H8 hR2 hb8
              replace P3 := Lib.hid P3; replace hR3 := Lib.hid hR3
              go_wp2_with fail
              refine Calls.mono P3.out ?_
              rintro e w9 ⟨v', rfl, H9⟩
              clear P3
              replace H9 := Lib.hid H9
              go_wp2_with fail
              go_ret2
              rw [hR3.out]
              exact ⟨v', rfl, H9.out⟩
            · have q5 : decide (d1 = c + 1) = false := decide_eq_false hq
              have q6 : (d1 == c + 1) = false := by simpa using hq
              have hR3 := hR2.out
              rw [if_neg hq] at hR3
              replace hq := Lib.hid hq
              obtain ⟨L8, hp8, HL⟩ := refA_parts HK
              obtain ⟨ga8, cap8, HM⟩ := refS_parts HL
              obtain ⟨z8, k8, f8⟩ := HM.box 0 rfl
              have hL8 : L8.length = M.length := hp8.length_eq
              have hM : M.length ≤ 33 := by have := hll.out; omega
              clear HL HM hR2 hb8
              by_cases hq3 : 32 < M.length
              · have q7 : decide ((32 : Int) < (L8.length : Int)) = true := decide_eq_true (by omega)
                rw [if_pos hq3] at hR3
                replace hq3 := Lib.hid hq3
                cases M with
                | nil => have := hq3.out; simp at this
                | cons x M =>
                  have hup := hfo.out.up
                  rw [show (headV (x :: M)) = x from rfl, up_head hup] at hR3
                  have hlM : M.length ≤ 900 := by simp only [List.length_cons] at hM; omega
                  have P3 := Calls.st_at 0 HK rfl fun S1 h1 => rrel_any q c x M hup hlM _ S1 h1
                  have hxt := (hfo.out.mem x (by simp))
                  have hMt : ∀ y ∈ M, y.1 ≤ top := fun y hy => (hfo.out.mem y (List.mem_cons_of_mem _ hy)).2
                  have huM := (List.pairwise_cons.1 hup).2
                  obtain ⟨x1, x2, x3⟩ := x
                  simp only at hR3 hxt P3
                  clear HK
                  replace P3 := Lib.hid P3; replace hR3 := Lib.hid hR3; replace hL8 := Lib.hid hL8; replace hM := Lib.hid hM; replace hup := Lib.hid hup; replace hMt := Lib.hid hMt; replace huM := Lib.hid huM; replace hxt := Lib.hid hxt
                  go_wp2_with fail
                  refine Calls.mono P3.out ?_
                  rintro e w9 ⟨rfl, H9⟩
                  clear P3
                  have H10 := (H9.alloc [.int .i64 x1, .string x2] 45).row_grown (size := 2) (n := 1) (G := 1) 0 rfl rfl (by omega) (by unfold maxLen; omega)
                  have P4 := ex_at 0 H10.all rfl fun S1 h1 => rrun_any q x1 M (.slice (some ⟨w9.heap.size, 0, none⟩) 1 1) [(x1, x2)] huM.out hlM (by simp) (by have := hxt.out; have := hfo.out.c0; omega) hxt.out.2 hMt.out _ S1 h1
                  clear H9 H10
                  replace P4 := Lib.hid P4
                  go_wp2_with fail
                  refine Calls.mono P4.out ?_
                  rintro e w10 ⟨v', rfl, H11⟩
                  clear P4
                  replace H11 := Lib.hid H11
                  go_wp2_with fail
                  go_ret2
                  rw [hR3.out]
                  exact ⟨v', rfl, H11.out⟩
              · have q7 : decide ((32 : Int) < (L8.length : Int)) = false := decide_eq_false (by omega)
                rw [if_neg hq3] at hR3
                have H9 := (HK.row_nil (size := 2))
                replace hq3 := Lib.hid hq3
                replace HK := Lib.hid HK; replace hR3 := Lib.hid hR3; replace hL8 := Lib.hid hL8; replace hM := Lib.hid hM; replace H9 := Lib.hid H9
                go_wp2_with fail
                go_ret2
                rw [hR3.out]
                exact ⟨_, rfl, H9.out⟩
end Go.Proofs.Ytiaefmmcakagpaa.Sift
