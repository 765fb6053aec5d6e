/- The walk of run of the sift's answer. -/
import Derived.Test.YtiaefmmcakagpaaSiftRef
namespace Go.Proofs.Ytiaefmmcakagpaa.Sift
set_option linter.unusedSimpArgs false
set_option linter.unusedVariables false
open Go Go.RowKit Go.Shelf Go.Proofs.Ytiaefmmcakagpaa
open Go.Proofs.Ytiaefmmcakagpaa.DockWait (El enc val encs encs_len encs_one encs_take encs_drop enc_len placed headV)
attribute [local irreducible] Calls

set_option maxRecDepth 100000 in
set_option maxHeartbeats 1000000 in
theorem rrun_any (q : Nat) (c : Int) (l : List El) (v : Value) (xs : List Dg) (hu : Up l) (hl : l.length ≤ 900) (hxs : xs.length ≤ 900) (hc0 : 0 ≤ c) (hc1 : c ≤ top) (hb : ∀ x ∈ l, x.1 ≤ top) (w : World) (S : Nat → Prop) (h : (sepA [rowA 2 v xs.length (dgs xs), refA q c l]).holds w S) :
    Calls Try.prog 72 #[.pointer (some ⟨q, 0, none⟩), v] w (fun e w' => ∃ v', e = .returned v' ∧ St w S w' [rowA 2 v' (xs ++ (runM l c).1).length (dgs (xs ++ (runM l c).1)), refA q (runM l c).2.1 (runM l c).2.2]) := by
  obtain ⟨i0, hi, hz, hz1, hz2⟩ := info_parts DelDg.el_info
  obtain ⟨L, hp, H⟩ := refA_parts ((St.unsep 0 (St.start (Sep.one h)) rfl).arr [1, 0] rfl)
  obtain ⟨R, hR⟩ : ∃ R, R = runM l c := ⟨_, rfl⟩
  rw [← hR]
  obtain ⟨n, hn⟩ : ∃ n, n = l.length := ⟨_, rfl⟩
  unfold top at hc1 hb
  obtain ⟨S1, hS1⟩ := H.held 0 rfl
  have P := least_any q c L w S1 hS1 (by rw [hp.length_eq]; omega)
  clear h hS1
  replace H := Lib.hid H; replace hR := Lib.hid hR; replace hn := Lib.hid hn; replace hb := Lib.hid hb; replace P := Lib.hid P; replace hp := Lib.hid hp; replace hu := Lib.hid hu
  go_enter Try.func72, Try.ntmps72
  go_wp2_with fail
  refine Calls.mono P.out ?_
  rintro e w1 ⟨i, rfl, hb1, hi1⟩
  have H1 := H.out.thru hb1
  clear P H
  replace H1 := Lib.hid H1; replace hi1 := Lib.hid hi1
  go_wp2_with fail
  go_loopg [1, 5] n (fun g v1 v5 wr => ∃ (pre : List Dg) (l' : List El) (c' i : Int) (L : List El), l'.length = g ∧ g ≤ n ∧ 0 ≤ c' ∧ c' ≤ 140737488355327 ∧ v5 = .int .i64 i ∧ Hid (∀ x ∈ l', x.1 ≤ 140737488355327) ∧ Hid (R = (pre ++ (runM l' c').1, (runM l' c').2)) ∧ pre.length + l'.length = n ∧ Hid (Up l') ∧ Hid (L.Perm l') ∧ Hid (IsLeast L i) ∧
    St w S wr [refS q c' L, rowA 2 v1 (xs ++ pre).length (dgs (xs ++ pre))])
  case atStart =>
    refine ⟨[], l, c, i, L, hn.out.symm, Nat.le_refl _, hc0, hc1, rfl, hb, Lib.hid (by rw [hR.out, List.nil_append]), by simp [hn.out], hu, hp, hi1, ?_⟩
    rw [List.append_nil]
    exact H1.out
  case round =>
    obtain ⟨pre, l', c', i', L', hg, hgn, hc0', hc1', rfl, hb', hR', hpl, hu', hp', hi', hst⟩ := hrel
    clear H1 hc0 hc1 hp hi1 hu
    cases l' with
    | nil =>
      obtain rfl : L' = [] := hp'.out.eq_nil
      rcases hi'.out with ⟨_, rfl⟩ | ⟨k, hk, _⟩
      · replace hst := Lib.hid hst; replace hg := Lib.hid hg; replace hpl := Lib.hid hpl
        go_wp2_with fail
        refine wp_region_near (by kernel_rfl) (by kernel_rfl) ?_
        intro hs
        repeat (go_big_quiet_step (fail))
        refine wpQuiet_nil ?_
        clear hs
        intro w2 hb2
        have H2 := hst.out.thru hb2
        replace H2 := Lib.hid H2
        go_wp2_with fail
        go_ret
        have he := hR'.out
        simp only [runM, List.append_nil] at he
        rw [he]
        exact ⟨_, rfl, (refA_shut hp'.out H2.out).arr [1, 0] rfl⟩
      · simp at hk
    | cons x l' =>
      obtain ⟨k, hk, rfl, hx, hp2⟩ := least_is hp'.out hu'.out hi'.out
      have hL : L'.length = l'.length + 1 := hp'.out.length_eq
      obtain ⟨ga, cap, H2⟩ := refS_parts hst
      obtain ⟨z2, k2, f2⟩ := H2.box 0 rfl
      obtain ⟨b, off, rfl, hbb, hc⟩ := wait_at (St.rd (by omega) 1 H2 rfl) rfl (by omega)
      obtain ⟨e0, e1, e2⟩ := hc k hk
      rw [hx] at e0 e1 e2
      obtain ⟨x1, x2, x3⟩ := x
      simp only at e0 e1 e2
      have hx1 : x1 ≤ 140737488355327 := hb'.out (x1, x2, x3) (by simp)
      have hq1 : (k : Int) < L'.length := by omega
      have hw : IntKind.i64.wrap (c' + 1) = c' + 1 := by rw [IntKind.wrap_i64]; omega
      clear hc H2
      by_cases hq : x1 = c' + 1
      · have q1 : decide (x1 = c' + 1) = true := decide_eq_true hq
        have q2 : (x1 == c' + 1) = true := by simpa using hq
        have hR2 : R = ((pre ++ [(x1, x2)]) ++ (runM l' x1).1, (runM l' x1).2) := by rw [hR'.out, runM, if_pos hq]; simp
        replace hq := Lib.hid hq
        have hl9 : l'.length ≤ 900 := by
          have h1 := hn.out
          have h2 := hpl
          simp only [List.length_cons] at h2
          omega
        replace hst := Lib.hid hst; replace hg := Lib.hid hg; replace hpl := Lib.hid hpl; replace hR2 := Lib.hid hR2; replace hL := Lib.hid hL; replace hx := Lib.hid hx
        go_wp2_with fail
        refine wp_region_near (by kernel_rfl) (by kernel_rfl) ?_
        intro hs
        repeat (go_big_quiet_step (fail))
        refine wpQuiet_nil ?_
        clear hs
        intro w2 hb2
        have H3 := refA_shut hp'.out (hst.out.thru hb2)
        have P2 := Calls.st_at 0 H3 rfl fun S h => rrel_any q c' (x1, x2, x3) l' hu'.out hl9 _ S h
        clear hst hR' hi' hp' H3 k2 f2 z2 e0 e1 e2
        replace P2 := Lib.hid P2
        go_wp2_with fail
        refine Calls.mono P2.out ?_
        rintro e w3 ⟨rfl, H4⟩
        clear P2
        have hnl : n ≤ 900 := by rw [hn.out]; exact hl
        have hpl2 := hpl.out
        simp only [List.length_cons] at hpl2
        have hlen : (xs ++ pre).length ≤ 3000 := by rw [List.length_append]; omega
        replace H4 := Lib.hid H4; replace hp2 := Lib.hid hp2
        go_wp2_with (at_builtin; (refine wpList_appS rfl (.tmp 29) (.tmp 32) _ rfl 45 i0 _ 2 24 Try.underlying48 hi hz hz1 hz2 rfl (by omega) 1 _ (xs ++ pre).length (dgs (xs ++ pre)) rfl H4.out rfl 1 1 [.int .i64 x1, .string x2] rfl rfl (by simp [Value.oneCell']) (by omega) (by omega) ?_; intro v5 w5 H5; replace H5 := Lib.hid H5))
        obtain ⟨L2, hp3, H6⟩ := refA_parts (H5.out.front 1 rfl)
        have H7 : St w S w5 [refS q x1 L2, rowA 2 v5 ((xs ++ pre).length + 1) (dgs (xs ++ pre) ++ [Value.int IntKind.i64 x1, Value.string x2])] := H6
        obtain ⟨S1, hS1⟩ := H7.held 0 rfl
        have P3 := least_any q x1 L2 w5 S1 hS1 (by rw [hp3.length_eq]; omega)
        clear H4 H5 H6 hS1
        replace P3 := Lib.hid P3; replace H7 := Lib.hid H7; replace hp3 := Lib.hid hp3
        refine Calls.mono P3.out ?_
        rintro e w6 ⟨i2, rfl, hb6, hi2⟩
        have H8 := H7.out.thru hb6
        clear P3 H7
        replace H8 := Lib.hid H8; replace hi2 := Lib.hid hi2
        go_wp2_with fail
        go_roundg l'.length
        case measure => have := hg.out; simp only [List.length_cons] at this; omega
        case rel =>
          have hq' := hq.out
          refine ⟨pre ++ [(x1, x2)], l', x1, i2, L2, rfl, by omega, by omega, hx1, rfl, Lib.hid (fun x hx => hb'.out x (List.mem_cons_of_mem _ hx)), hR2, by rw [List.length_append]; simp only [List.length_cons, List.length_nil]; omega, Lib.hid (List.pairwise_cons.1 hu'.out).2, hp3, hi2, ?_⟩
          rw [← List.append_assoc, List.length_append, show dgs (xs ++ pre ++ [(x1, x2)]) = dgs (xs ++ pre) ++ [.int .i64 x1, .string x2] from (DockDg.encs_app _ _).symm]
          exact H8.out
      · have q1 : decide (x1 = c' + 1) = false := decide_eq_false hq
        have q2 : (x1 == c' + 1) = false := by simpa using hq
        have he : R = (pre, c', (x1, x2, x3) :: l') := by rw [hR'.out, runM, if_neg hq, List.append_nil]
        replace hq := Lib.hid hq
        replace hst := Lib.hid hst; replace hg := Lib.hid hg; replace hpl := Lib.hid hpl; replace he := Lib.hid he; replace hL := Lib.hid hL; replace hx := Lib.hid hx
        go_wp2_with fail
        refine wp_region_near (by kernel_rfl) (by kernel_rfl) ?_
        intro hs
        repeat (go_big_quiet_step (fail))
        refine wpQuiet_nil ?_
        clear hs
        intro w2 hb2
        have H3 := refA_shut hp'.out (hst.out.thru hb2)
        replace H3 := Lib.hid H3
        go_wp2_with fail
        go_ret
        rw [he.out]
        exact ⟨_, rfl, H3.out.arr [1, 0] rfl⟩
end Go.Proofs.Ytiaefmmcakagpaa.Sift
