/- The walks of Due and Latest of the sift's answer. -/
import Derived.Test.YtiaefmmcakagpaaSiftRefP
namespace Go.Proofs.Ytiaefmmcakagpaa.Sift
set_option linter.unusedSimpArgs false
set_option linter.unusedVariables false
open Go Go.RowKit Go.Shelf Go.Proofs.Ytiaefmmcakagpaa
open Go.Proofs.Ytiaefmmcakagpaa.DockWait (El enc val encs encs_len encs_one encs_take encs_drop encs_app enc_len placed headV)
attribute [local irreducible] Calls

def maxN (now : Int) (l : List El) : Int := l.foldl (fun a x => if x.2.2 ≤ now then max a x.1 else a) 0
theorem maxN_perm {now : Int} {L l : List El} (hp : L.Perm l) : maxN now L = maxN now l := by
  unfold maxN
  refine hp.foldl_eq' (fun x _ y _ z => ?_) 0
  by_cases h1 : x.2.2 ≤ now <;> by_cases h2 : y.2.2 ≤ now <;> simp [h1, h2]
  omega
theorem maxN_up {now : Int} : ∀ (l : List El) (a : Int), Up l → (∀ x ∈ l, a < x.1) → l.foldl (fun a x => if x.2.2 ≤ now then max a x.1 else a) a = l.foldl (fun a x => if x.2.2 ≤ now then x.1 else a) a
  | [], _, _, _ => rfl
  | x :: l, a, hu, ha => by
    have h' := List.pairwise_cons.1 hu
    have hx := ha x (by simp)
    simp only [List.foldl_cons]
    by_cases h1 : x.2.2 ≤ now
    · rw [if_pos h1, if_pos h1, show max a x.1 = x.1 by omega]
      exact maxN_up l _ h'.2 h'.1
    · rw [if_neg h1, if_neg h1]
      exact maxN_up l _ h'.2 fun y hy => ha y (List.mem_cons_of_mem _ hy)
theorem maxN_is {now c : Int} {L l : List El} (hp : L.Perm l) (h : Ok c l) : maxN now L = dueN now l := by
  rw [maxN_perm hp]
  exact maxN_up l 0 h.up fun x hx => (h.pos x hx).1
theorem maxN_snoc (now : Int) (l : List El) (x : El) : maxN now (l ++ [x]) = if x.2.2 ≤ now then max (maxN now l) x.1 else maxN now l := by simp [maxN]
theorem up_cons {num c : Int} {x : El} {l : List El} (h : x.1 ≤ num) : upM num c (x :: l) = (dg x :: (upM num x.1 l).1, (upM num x.1 l).2) := by
  unfold upM
  rw [List.filter_cons_of_pos (by simpa using h), List.filter_cons_of_neg (by simpa using h)]
  simp [lastN]
theorem up_stop {num c : Int} {l : List El} (h : ∀ y ∈ l, num < y.1) : upM num c l = runM l c := by
  obtain ⟨h1, h2⟩ := filter_gt l num h
  unfold upM
  rw [h1, h2]
  simp [lastN]
theorem maxN_bd {now : Int} : ∀ (l : List El) (a : Int), 0 ≤ a → a ≤ top → (∀ x ∈ l, 0 < x.1 ∧ x.1 ≤ top) → 0 ≤ l.foldl (fun a x => if x.2.2 ≤ now then max a x.1 else a) a ∧ l.foldl (fun a x => if x.2.2 ≤ now then max a x.1 else a) a ≤ top
  | [], _, h0, h1, _ => ⟨h0, h1⟩
  | x :: l, a, h0, h1, h => by
    have hx := h x (by simp)
    simp only [List.foldl_cons]
    split
    · exact maxN_bd l _ (by omega) (by omega) fun y hy => h y (List.mem_cons_of_mem _ hy)
    · exact maxN_bd l _ h0 h1 fun y hy => h y (List.mem_cons_of_mem _ hy)

set_option maxRecDepth 100000 in
set_option maxHeartbeats 2000000 in
theorem rdue_any (q : Nat) (c : Int) (l : List El) (now : Int) (hok : Ok c l) (hl : l.length ≤ 100) (w : World) (S : Nat → Prop) (h : (refA q c l).holds w S) :
    Calls Try.prog 28 #[.pointer (some ⟨q, 0, none⟩), .int .i64 now] w (fun e w' => ∃ v', e = .returned v' ∧ St w S w' [rowA 2 v' (dueM c l now).1.length (dgs (dueM c l now).1), refA q (dueM c l now).2.1 (dueM c l now).2.2]) := by
  obtain ⟨i0, hi, hz, hz1, hz2⟩ := info_parts DelDg.el_info
  obtain ⟨R, hR⟩ : ∃ R, R = dueM c l now := ⟨_, rfl⟩
  rw [← hR]
  obtain ⟨L, hp, H0⟩ := refA_parts (St.start (Sep.one h))
  have hL : L.length = l.length := hp.length_eq
  have hL9 : L.length ≤ 100 := by omega
  obtain ⟨ga, cap, H2⟩ := refS_parts H0
  obtain ⟨z0, k0, f0⟩ := H2.box 0 rfl
  have hgb : ∀ i, 0 ≤ maxN now (L.take i) ∧ maxN now (L.take i) ≤ 140737488355327 := fun i => by
    refine maxN_bd _ 0 (by omega) (by unfold top; omega) fun x hx => ?_
    exact hok.pos x (hp.mem_iff.1 (List.mem_of_mem_take hx))
  clear h H2
  replace H0 := Lib.hid H0; replace hR := Lib.hid hR; replace hp := Lib.hid hp; replace hok := Lib.hid hok; replace hL := Lib.hid hL; replace hgb := Lib.hid hgb
  go_enter Try.func28, Try.ntmps28
  go_wp2_with fail
  go_loopg [5, 6] L.length (fun g v5 v6 wr => ∃ j : Nat, j ≤ L.length ∧ g = L.length - j ∧ v6 = .int .i64 j ∧ v5 = .int .i64 (maxN now (L.take j)) ∧ Hid (St w S wr [refS q c L]))
  case atStart => exact ⟨0, by omega, by omega, rfl, rfl, H0⟩
  case round =>
    obtain ⟨j, hj, hg, rfl, rfl, hst⟩ := hrel
    obtain ⟨ga, cap, H4⟩ := refS_parts hst.out
    obtain ⟨z2, k2, f2⟩ := H4.box 0 rfl
    have R1 := St.rd (by omega) 1 H4 rfl
    clear H0 k0 f0 z0
    by_cases hlt : j < L.length
    · obtain ⟨b, off, rfl, hb, hc⟩ := wait_at R1 rfl (by omega)
      obtain ⟨e0, e1, e2⟩ := hc j hlt
      clear hc R1
      have t1 : (0 : Int) ≤ j ∧ (j : Int) < L.length := ⟨by omega, by omega⟩
      have hsn : maxN now (L.take (j + 1)) = if L[j].2.2 ≤ now then max (maxN now (L.take j)) L[j].1 else maxN now (L.take j) := by rw [List.take_succ_eq_append_getElem hlt, maxN_snoc]
      generalize maxN now (L.take j) = a at *
      generalize L[j] = x at *
      obtain ⟨x1, x2, x3⟩ := x
      simp only at e0 e1 e2 hsn
      by_cases hq : x3 ≤ now
      · have q1 : decide (x3 ≤ now) = true := decide_eq_true hq
        rw [if_pos hq] at hsn
        replace hq := Lib.hid hq; replace H4 := Lib.hid H4; replace hg := Lib.hid hg; replace hsn := Lib.hid hsn
        go_wp2_with fail
        go_roundg (L.length - (j + 1))
        case measure => have := hg.out; omega
        case rel => exact ⟨j + 1, by omega, rfl, by go_num, by rw [hsn.out], hst⟩
      · have q1 : decide (x3 ≤ now) = false := decide_eq_false hq
        rw [if_neg hq] at hsn
        replace hq := Lib.hid hq; replace H4 := Lib.hid H4; replace hg := Lib.hid hg; replace hsn := Lib.hid hsn
        go_wp2_with fail
        go_roundg (L.length - (j + 1))
        case measure => have := hg.out; omega
        case rel => exact ⟨j + 1, by omega, rfl, by go_num, by rw [hsn.out], hst⟩
    · have hj2 : j = L.length := by omega
      rw [hj2, List.take_length, maxN_is hp.out hok.out]
      have hd : 0 ≤ dueN now l ∧ dueN now l ≤ 140737488355327 := by
        have h1 := hgb.out L.length
        rwa [List.take_length, maxN_is hp.out hok.out] at h1
      have hR2 := hR.out
      unfold dueM at hR2
      generalize dueN now l = num at *
      clear hj2 H4 hgb R1 hR
      by_cases h0 : num = 0
      · have q1 : decide (num = 0) = true := decide_eq_true h0
        have q2 : (num == 0) = true := by simpa using h0
        rw [if_pos h0] at hR2
        subst hR2
        have H5 := (refA_shut hp.out hst.out).row_nil (size := 2)
        replace h0 := Lib.hid h0; replace hg := Lib.hid hg; replace H5 := Lib.hid H5
        go_wp2_with fail
        go_ret
        exact ⟨_, rfl, H5.out⟩
      · have q1 : decide (num = 0) = false := decide_eq_false h0
        have q2 : (num == 0) = false := by simpa using h0
        rw [if_neg h0] at hR2
        obtain ⟨S1, hS1⟩ := hst.out.held 0 rfl
        have P1 := least_any q c L _ S1 hS1 (by omega)
        clear hS1
        replace h0 := Lib.hid h0; replace hg := Lib.hid hg; replace hR2 := Lib.hid hR2; replace P1 := Lib.hid P1
        go_wp2_with fail
        refine Calls.mono P1.out ?_
        rintro e w1 ⟨i1, rfl, hb1, hi1⟩
        have H5 := ((hst.out.thru hb1).row_nil (size := 2)).arr [1, 0] rfl
        have hgl : L.length = l.length := hL.out
        clear P1 hst
        replace H5 := Lib.hid H5; replace hi1 := Lib.hid hi1
        go_wp2_with fail
        go_loopg [7, 8] l.length (fun g v7 v8 wr => ∃ (pre : List Dg) (l' : List El) (c' i : Int) (L : List El), l'.length = g ∧ g ≤ l.length ∧ v8 = .int .i64 i ∧ Hid (Ok c' l') ∧ Hid (R = (pre ++ (upM num c' l').1, (upM num c' l').2)) ∧ pre.length + l'.length = l.length ∧ Hid (L.Perm l') ∧ Hid (IsLeast L i) ∧
          Hid (St w S wr [refS q c' L, rowA 2 v7 pre.length (dgs pre)]))
        case atStart => exact ⟨[], l, c, i1, L, rfl, Nat.le_refl _, rfl, hok, Lib.hid (by rw [hR2.out, List.nil_append]), by simp, hp, hi1, H5⟩
        case round =>
          obtain ⟨pre, l', c', i', L', hgg, hgn, rfl, hok', hR', hpl, hp', hi', hst⟩ := hrel
          clear H5 hp hi1 hok hL hgl hL9 hj hlt
          have hstop : (∀ y ∈ l', num < y.1) → ∃ P : Prop, P := fun _ => ⟨True, trivial⟩
          clear hstop
          cases l' with
          | nil =>
            obtain rfl : L' = [] := hp'.out.eq_nil
            rcases hi'.out with ⟨_, rfl⟩ | ⟨k, hk, _⟩
            · have hR3 := hR'.out
              rw [up_stop (by simp)] at hR3
              have H6 := ((refA_shut hp'.out hst.out).arr [1, 0] rfl).all
              have P2 := ex_at 0 H6 rfl fun S1 h1 => rrun_any q c' [] u7 pre hok'.out.up (by simp) (by simp only [List.length_nil] at hpl; omega) hok'.out.c0 hok'.out.c1 (by simp) _ S1 h1
              clear H6
              replace hgg := Lib.hid hgg; replace hpl := Lib.hid hpl; replace P2 := Lib.hid P2; replace hR3 := Lib.hid hR3
              go_wp2_with fail
              refine Calls.mono P2.out ?_
              rintro e w2 ⟨v', rfl, H7⟩
              clear P2
              replace H7 := Lib.hid H7
              go_wp2_with fail
              go_ret
              rw [hR3.out]
              exact ⟨v', rfl, H7.out⟩
            · simp at hk
          | cons x l' =>
            obtain ⟨k, hk, rfl, hx, hp2⟩ := least_is hp'.out hok'.out.up hi'.out
            have hL : L'.length = l'.length + 1 := hp'.out.length_eq
            obtain ⟨ga, cap, H2⟩ := refS_parts hst.out
            obtain ⟨z2, k2, f2⟩ := H2.box 0 rfl
            obtain ⟨b, off, rfl, hbb, hc⟩ := wait_at (St.rd (by omega) 1 H2 rfl) rfl (by omega)
            obtain ⟨e0, e1, e2⟩ := hc k hk
            rw [hx] at e0 e1 e2
            obtain ⟨x1, x2, x3⟩ := x
            simp only at e0 e1 e2
            have hq1 : (k : Int) < L'.length := by omega
            have hl9 : l'.length ≤ 100 ∧ pre.length ≤ 100 := by simp only [List.length_cons] at hpl; omega
            clear hc H2
            by_cases hq : x1 ≤ num
            · have q3 : decide (x1 ≤ num) = true := decide_eq_true hq
              have hR3 : R = ((pre ++ [(x1, x2)]) ++ (upM num x1 l').1, (upM num x1 l').2) := by rw [hR'.out, up_cons hq]; simp [dg]
              have H3 := refA_shut hp'.out hst.out
              have P2 := Calls.st_at 0 H3 rfl fun S h => rrel_any q c' (x1, x2, x3) l' hok'.out.up (by omega) _ S h
              have hok2 : Ok x1 l' := ⟨by have := (hok'.out.mem (x1, x2, x3) (by simp)).1; have := hok'.out.c0; simp only at *; omega, (hok'.out.mem (x1, x2, x3) (by simp)).2, fun y hy => ⟨(List.pairwise_cons.1 hok'.out.up).1 y hy, (hok'.out.mem y (List.mem_cons_of_mem _ hy)).2⟩, (List.pairwise_cons.1 hok'.out.up).2⟩
              replace hq := Lib.hid hq
              clear H3 hst hok' hR' hi' hp'
              replace hgg := Lib.hid hgg; replace hpl := Lib.hid hpl; replace hR3 := Lib.hid hR3; replace hL := Lib.hid hL; replace hx := Lib.hid hx; replace P2 := Lib.hid P2; replace hok2 := Lib.hid hok2
              go_wp2_with fail
              refine Calls.mono P2.out ?_
              rintro e w3 ⟨rfl, H4⟩
              clear P2 k2 f2 z2 e0 e1 e2
              have hpl2 := hpl.out
              simp only [List.length_cons] at hpl2
              replace H4 := Lib.hid H4; replace hp2 := Lib.hid hp2
              go_wp2_with (at_builtin; (refine wpList_appS rfl (.tmp 60) (.tmp 63) _ rfl 45 i0 _ 2 24 Try.underlying48 hi hz hz1 hz2 rfl (by omega) 1 _ pre.length (dgs pre) rfl H4.out rfl 1 1 [.int .i64 x1, .string x2] rfl rfl (by simp [Value.oneCell']) (by omega) (by omega) ?_; intro v5 w5 H5; replace H5 := Lib.hid H5))
              obtain ⟨L2, hp3, H6⟩ := refA_parts (H5.out.front 1 rfl)
              have H7 : St w S w5 [refS q x1 L2, rowA 2 v5 (pre.length + 1) (dgs pre ++ [Value.int IntKind.i64 x1, Value.string x2])] := H6
              obtain ⟨S1, hS1⟩ := H7.held 0 rfl
              have P3 := least_any q x1 L2 w5 S1 hS1 (by rw [hp3.length_eq]; omega)
              clear H4 H5 H6 hS1
              replace P3 := Lib.hid P3; replace H7 := Lib.hid H7; replace hp3 := Lib.hid hp3
              refine Calls.mono P3.out ?_
              rintro e w6 ⟨i2, rfl, hb6, hi2⟩
              have H8 := H7.out.thru hb6
              clear P3 H7
              replace H8 := Lib.hid H8; replace hi2 := Lib.hid hi2
              go_wp2_with fail
              go_roundg l'.length
              case measure => have := hgg.out; simp only [List.length_cons] at this; omega
              case rel =>
                refine ⟨pre ++ [(x1, x2)], l', x1, i2, L2, rfl, by omega, rfl, hok2, hR3, by rw [List.length_append]; simp only [List.length_cons, List.length_nil]; omega, hp3, hi2, Lib.hid ?_⟩
                rw [List.length_append, show dgs (pre ++ [(x1, x2)]) = dgs pre ++ [.int .i64 x1, .string x2] from (DockDg.encs_app _ _).symm]
                exact H8.out
            · have q3 : decide (x1 ≤ num) = false := decide_eq_false hq
              have hR3 := hR'.out
              rw [up_stop (fun y hy => by
                rcases List.mem_cons.1 hy with rfl | hy
                · simp only; omega
                · have := (List.pairwise_cons.1 hok'.out.up).1 y hy; simp only at this; omega)] at hR3
              have H6 := ((refA_shut hp'.out hst.out).arr [1, 0] rfl).all
              have P2 := ex_at 0 H6 rfl fun S1 h1 => rrun_any q c' ((x1, x2, x3) :: l') u7 pre hok'.out.up (by simp only [List.length_cons]; omega) (by omega) hok'.out.c0 hok'.out.c1 (fun y hy => (hok'.out.mem y hy).2) _ S1 h1
              replace hq := Lib.hid hq
              clear H6
              replace hgg := Lib.hid hgg; replace hpl := Lib.hid hpl; replace P2 := Lib.hid P2; replace hR3 := Lib.hid hR3; replace hL := Lib.hid hL; replace hx := Lib.hid hx
              go_wp2_with fail
              refine Calls.mono P2.out ?_
              rintro e w2 ⟨v', rfl, H7⟩
              clear P2
              replace H7 := Lib.hid H7
              go_wp2_with fail
              go_ret
              rw [hR3.out]
              exact ⟨v', rfl, H7.out⟩
end Go.Proofs.Ytiaefmmcakagpaa.Sift
