/- The walks of feat.Ask, great. -/
import Derived.Test.YtljgmephajocaaaFeatWorks
import Derived.Test.YtljgmephajocaaaMadeTC
namespace Go.Proofs.Ytljgmephajocaaa.Feat
set_option linter.unusedSimpArgs false
set_option linter.unusedVariables false
open Go Go.RowKit Go.Shelf Go.Proofs.Ytljgmephajocaaa
open Go.Proofs.Ytljgmephajocaaa.Opts (El encs Few el_info rows_up)
attribute [local irreducible] Calls

theorem rdF_take {w : World} {a : Option Addr} {l : List Fe} (h : RdF w a l) (k : Nat) : RdF w a (l.take k) := by
  refine ⟨?_, fun x hx => h.2 x (List.mem_of_mem_take hx)⟩
  have e : l.flatMap encF = (l.take k).flatMap encF ++ (l.drop k).flatMap encF := by rw [← List.flatMap_append, List.take_append_drop]
  have h1 := h.1
  rw [e] at h1
  exact Go.Proofs.Ytljgmephajocaaa.Opts.Rd.left h1
def twiceAt (l : List Fe) (i : Nat) : Bool := match l[i]? with | some x => (l.take i).any (isN x.num) | none => false
def askP : List Fe → List El → List El × Int
  | [], out => (out, 0)
  | x :: t, out => if putE 34 x.num x.likes = 0 then askP t (out ++ [putO 34 x.num x.likes]) else ([], putE 34 x.num x.likes)
def askV (l : List Fe) : List El × Int := if (List.range l.length).any (twiceAt l) then ([], 9) else askP l []
set_option maxRecDepth 100000 in
set_option maxHeartbeats 1600000 in
theorem ask_any (l : List Fe) (n cap : Nat) (a : Option Addr) (hl : l.length = n) (hf : FewF l) (w : World) (h : RdF w a l) (hcap : n ≤ cap) :
    Calls Try.prog 60 #[.slice a n cap] w (AnsS (askV l) w) := by
  obtain ⟨i0, hi, hz, hz1, hz2⟩ := info_parts el_info
  have hn : n ≤ 100000 := by rw [← hl]; exact hf.1
  have PF := fun j k W hW => find_any (l.take j) (l.take j).length rfl (by simp; omega) a cap W (rdF_take (h.below hW) j) k
  obtain ⟨R, hR⟩ : ∃ R, askV l = R := ⟨_, rfl⟩
  rw [hR]
  unfold AnsS
  replace PF := Lib.hid PF; replace hR := Lib.hid hR; replace h := Lib.hid h; replace hf := Lib.hid hf; replace hl := Lib.hid hl
  go_enter Try.func60, Try.ntmps60
  go_wp2_with fail
  go_loopg [4, 5, 6, 7, 15] n (fun g _ _ _ _ i wr => ∃ j : Nat, j ≤ n ∧ g = n - j ∧ i = .int .i64 j ∧ Hid (∀ k, k < j → twiceAt l k = false) ∧ Below w.heap.size w wr)
  case atStart => exact ⟨0, by omega, by omega, rfl, Lib.hid (fun k h => by omega), (by repeat (first | with_reducible exact Below.refl _ _ | (with_reducible refine Below.al ?_) | (with_reducible refine Below.drew ?_) | (with_reducible refine Below.set ?_ (by first | (simp; done) | omega | (simp; omega))) | (with_reducible refine Below.thru ?_ (by assumption)) | (with_reducible refine Below.chg ?_ (by assumption) (by first | (simp; done) | omega | (simp; omega)))))⟩
  case round =>
    obtain ⟨j, hj, hg, rfl, hno, hbw⟩ := hrel
    by_cases hlt : j < n
    · have hjl : j < l.length := by have := hl.out; omega
      obtain ⟨b, off, rfl, hb, e0, e1⟩ := fes_at (h.out.below hbw) hjl
      have H1 := ((St.zero w).thru hbw).alloc [.int .i64 l[j].num, .slice l[j].a l[j].likes.length l[j].cap] 88
      have P := fun W hW => PF.out j l[j].num W hW
      have hlj : (l.take j).length = j := by simp; omega
      simp only [hlj] at P
      have hta : twiceAt l j = (l.take j).any (isN l[j].num) := by unfold twiceAt; rw [List.getElem?_eq_getElem hjl]
      simp only [← hta] at P
      have hit : twiceAt l j = true → R = ([], 9) := fun h => by rw [← hR.out]; unfold askV; rw [if_pos (List.any_eq_true.2 ⟨j, List.mem_range.2 hjl, h⟩)]
      have hnx : twiceAt l j = false → ∀ k, k < j + 1 → twiceAt l k = false := fun h k hk => by
        by_cases e : k = j
        · subst e; exact h
        · exact hno.out k (by omega)
      clear hta hno
      generalize findV (l.take j) l[j].num = fv at P
      clear hlj
      have hjc : j ≤ cap := by omega
      unfold valF at P
      generalize l[j] = x at *
      obtain ⟨tw, htw⟩ : ∃ tw, twiceAt l j = tw := ⟨_, rfl⟩
      rw [htw] at hit hnx
      simp only [htw] at P
      clear htw
      have hcl : ∀ (t : Cls w none0 [cellA wr.heap.size [.int .i64 x.num, .slice x.a x.likes.length x.cap]]) (o : Nat), t.it.cell? ⟨wr.heap.size, o, none⟩ = [Value.int .i64 x.num, .slice x.a x.likes.length x.cap][o]? := fun t => (t.st.box 0 rfl).cells
      replace H1 := Lib.hid H1; replace P := Lib.hid P; replace hit := Lib.hid hit; replace hnx := Lib.hid hnx
      go_wp2_with fail
      have H1d := Lib.hid H1.out.drew
      haveI := St.ne H1.out
      refine wp_region_madeC H1.out [0, 1, 2, 3, 4] [true, true, true, true, true, false, false, false, false, false, false, false] 7 #[true, true, true, true, true, false, false, false, false, false, false, false] (by kernel_rfl) rfl (by kernel_rfl) (by kernel_rfl) rfl (by kernel_rfl) (by kernel_rfl) (by intro c a a' w e h; obtain ⟨t, d⟩ := a; obtain ⟨t', d'⟩ := a'; obtain rfl : d = d' := e; exact h) ?_
      simp only [pickB]
      repeat (go_big_quiet_step (fail))
      refine wpQuiet_nil ?_
      refine held_two (i := 5) (j := 9) (by kernel_rfl) (fun K hK => ?_) (fun K hK => ?_) <;> simp only [List.drop_succ_cons, List.drop_zero, List.take_succ_cons, List.take_zero]
      · have P1 := P.out _ H1d.out.below
        go_wp2_with fail
        refine Calls.mono P1 ?_
        rintro e w5 ⟨rfl, hb5⟩
        have H5 := Lib.hid (H1d.out.thru hb5)
        clear P1 H1d
        go_wp2_with fail
        refine hK _ _ H5.out ?_
        clear hK K
        haveI := St.ne H5.out
        refine calmC H5.out [6, 7, 8] [false, false, false, false, false, false, true, true, true, false, false, false] 3 6 #[true, true, true, true, true, true, false, false, false, false, false, false] #[true, true, true, true, true, true, true, true, true, false, false, false] rfl (by kernel_rfl) (by kernel_rfl) rfl (by kernel_rfl) (by kernel_rfl) (by intro c a a' w e h; obtain ⟨t, d⟩ := a; obtain ⟨t', d'⟩ := a'; obtain rfl : d = d' := e; exact h) ?_
        simp only [pickB]
        repeat (go_big_quiet_step (fail))
        refine wpQuiet_nil ?_
        refine held_one (i := 9) (by kernel_rfl) fun K hK => ?_
        simp only [List.drop_succ_cons, List.drop_zero, List.take_succ_cons, List.take_zero]
        go_wp2_with fail
        refine hK _ _ (H5.out.skip _) ?_
        clear hK K
        refine held_one (i := 10) (by kernel_rfl) fun K hK => ?_
        simp only [List.drop_succ_cons, List.drop_zero, List.take_succ_cons, List.take_zero]
        go_wp2_with fail
        refine hK _ _ (H5.out.skip _) ?_
        clear hK K
        have H6 := Lib.hid (H5.out.skip (.cells #[.int .i64 fv.num, .slice fv.a fv.likes.length fv.cap] 88))
        haveI := St.ne H6.out
        refine calmC H6.out [11] [false, false, false, false, false, false, false, false, false, false, false, true] 0 1 #[true, true, true, true, true, true, true, true, true, true, true, false] #[true, true, true, true, true, true, true, true, true, true, true, true] rfl (by kernel_rfl) (by kernel_rfl) rfl (by kernel_rfl) (by kernel_rfl) (by intro c a a' w e h; obtain ⟨t, d⟩ := a; obtain ⟨t', d'⟩ := a'; obtain rfl : d = d' := e; exact h) ?_
        simp only [pickB]
        repeat (go_big_quiet_step (fail))
        refine wpQuiet_nil ?_
        refine held_done (by kernel_rfl) ?_
        cases tw with
        | true =>
          have hr9 := hit.out rfl
          subst hr9
          clear hnx hit
          go_wp2_with fail
          go_ret2
          exact ⟨_, rfl, ((St.zero w).thru H6.out.below).row_nil (size := 2)⟩
        | false =>
          have hn2 := Lib.hid (hnx.out rfl)
          clear hnx hit
          go_wp2_with fail
          go_roundg (n - (j + 1))
          case measure => omega
          case rel => exact ⟨j + 1, by omega, rfl, by go_num, hn2, H6.out.below⟩
      · go_wp2_with fail
        have E1 := H1d.out.alloc [.int .i64 0, .slice none 0 0] 88
        simp only [World.size_alloc, World.size_drew] at E1
        refine hK _ _ (E1.drop 0 rfl) ?_
        clear hK K
        have P1 := P.out _ E1.below
        replace E1 := Lib.hid E1
        clear H1d
        refine held_one (i := 5) (by kernel_rfl) fun K hK => ?_
        simp only [List.drop_succ_cons, List.drop_zero, List.take_succ_cons, List.take_zero]
        go_wp2_with fail
        refine Calls.mono P1 ?_
        rintro e w5 ⟨rfl, hb5⟩
        have E5 := E1.out.thru hb5
        obtain ⟨z5, c5, f5⟩ := E5.box 0 rfl
        have H5 := Lib.hid (E5.drop 0 rfl)
        have H6 := ((((E5).set 0 rfl 0 (.int .i64 fv.num) (by simp))).set 0 rfl 1 (.slice fv.a fv.likes.length fv.cap) (by simp))
        have H7 := Lib.hid (H6.drop 0 rfl)
        clear P1 E1 H6 E5
        go_wp2_with fail
        refine hK _ _ H5.out ?_
        clear hK K
        haveI := St.ne H5.out
        refine calmC H5.out [6, 7, 8] [false, false, false, false, false, false, true, true, true, false, false, false] 2 5 #[true, true, true, true, true, true, false, false, false, true, false, false] #[true, true, true, true, true, true, true, true, true, true, false, false] rfl (by kernel_rfl) (by kernel_rfl) rfl (by kernel_rfl) (by kernel_rfl) (by intro c a a' w e h; obtain ⟨t, d⟩ := a; obtain ⟨t', d'⟩ := a'; obtain rfl : d = d' := e; exact h) ?_
        simp only [pickB]
        repeat (go_big_quiet_step (fail))
        refine wpQuiet_nil ?_
        refine held_one (i := 10) (by kernel_rfl) fun K hK => ?_
        simp only [List.drop_succ_cons, List.drop_zero, List.take_succ_cons, List.take_zero]
        go_wp2_with fail
        refine hK _ _ H7.out ?_
        clear hK K
        haveI := St.ne H7.out
        refine calmC H7.out [11] [false, false, false, false, false, false, false, false, false, false, false, true] 0 1 #[true, true, true, true, true, true, true, true, true, true, true, false] #[true, true, true, true, true, true, true, true, true, true, true, true] rfl (by kernel_rfl) (by kernel_rfl) rfl (by kernel_rfl) (by kernel_rfl) (by intro c a a' w e h; obtain ⟨t, d⟩ := a; obtain ⟨t', d'⟩ := a'; obtain rfl : d = d' := e; exact h) ?_
        simp only [pickB]
        repeat (go_big_quiet_step (fail))
        refine wpQuiet_nil ?_
        refine held_done (by kernel_rfl) ?_
        cases tw with
        | true =>
          have hr9 := hit.out rfl
          subst hr9
          clear hnx hit
          go_wp2_with fail
          go_ret2
          exact ⟨_, rfl, ((St.zero w).thru H7.out.below).row_nil (size := 2)⟩
        | false =>
          have hn2 := Lib.hid (hnx.out rfl)
          clear hnx hit
          go_wp2_with fail
          go_roundg (n - (j + 1))
          case measure => omega
          case rel => exact ⟨j + 1, by omega, rfl, by go_num, hn2, H7.out.below⟩
    · obtain rfl : j = n := by omega
      have hnt : (List.range l.length).any (twiceAt l) = false := by
        rw [List.any_eq_false]
        intro i hi
        rw [hno.out i (by have := hl.out; have := List.mem_range.1 hi; omega)]
        simp
      have hR2 : askP l [] = R := by
        have := hR.out
        unfold askV at this
        rwa [hnt, if_neg (by simp)] at this
      clear hno hR PF hnt hlt
      obtain ⟨wo, hwo⟩ : ∃ wo : World, wo = wr := ⟨_, rfl⟩
      subst hwo
      have H0 := ((St.zero w).thru hbw).row_nil (size := 2)
      replace H0 := Lib.hid H0; replace hR2 := Lib.hid hR2
      go_wp2_with fail
      go_loopg [8, 10, 11, 12, 33] j (fun g ov _ _ _ i wr => ∃ (k : Nat) (out : List El), k ≤ j ∧ g = j - k ∧ i = .int .i64 k ∧ out.length ≤ k ∧ Hid (askP (l.drop k) out = R) ∧ St w none0 wr [rowA 2 ov out.length (encs out)])
      case atStart => exact ⟨0, [], by omega, by omega, rfl, Nat.le_refl _, hR2, H0.out⟩
      case round =>
        obtain ⟨ov, hov⟩ : ∃ v, v = u8 := ⟨_, rfl⟩
        subst hov
        obtain ⟨k, out, hk, hg2, rfl, hol, hw, hst⟩ := hrel
        obtain ⟨oa, oc, rfl, _⟩ := St.slice (by omega) 0 hst rfl
        clear H0 hg hj
        by_cases hlt : k < j
        · have hkl : k < l.length := by have := hl.out; omega
          obtain ⟨b, off, rfl, hb, e0, e1⟩ := fes_at (h.out.below hst.below) hkl
          have hsl := hf.out.2 l[k] (List.getElem_mem hkl)
          have P := fun W (hW : Below w.heap.size w W) => put_any 34 l[k].num l[k].likes l[k].likes.length rfl (by omega) l[k].a l[k].cap W ((h.out.2 l[k] (List.getElem_mem hkl)).below hW)
          have hstep := hw.out
          rw [List.drop_eq_getElem_cons hkl] at hstep
          simp only [askP] at hstep
          obtain ⟨pe, hpe⟩ : ∃ pe, putE 34 l[k].num l[k].likes = pe := ⟨_, rfl⟩
          obtain ⟨po, hpo⟩ : ∃ po, putO 34 l[k].num l[k].likes = po := ⟨_, rfl⟩
          simp only [hpe, hpo] at P hstep
          clear hpe hpo hw
          generalize l[k] = x at *
          have H1 := hst.alloc [.int .i64 x.num, .slice x.a x.likes.length x.cap] 88
          have P1 := P _ H1.below
          clear P hst
          replace H1 := Lib.hid H1
          go_wp2_with fail
          refine Calls.mono P1 ?_
          rintro e w5 ⟨rfl, hb5⟩
          have H2 := (H1.out.thru hb5).alloc [.int .i64 po.1, .string po.2] 73
          have H3 := H2.front 2 rfl |>.drops 2
          clear P1 H1
          by_cases hp0 : pe = 0
          · subst hp0
            simp only [if_true] at hstep
            replace H2 := Lib.hid H2; replace H3 := Lib.hid H3; replace hstep := Lib.hid hstep
            go_wp2_with (at_builtin; (refine wpList_appS rfl (.tmp 45) (.tmp 47) _ rfl 73 i0 _ 2 24 Try.underlying62 hi hz hz1 hz2 rfl (by omega) 0 _ out.length _ rfl H3.out rfl 1 1 [.int .i64 po.1, .string po.2] rfl rfl (by simp [Value.oneCell']) (by omega) (by omega) ?_; intro wv5 w7 H12; have H13 := rows_up (x := po) H12; clear H12; replace H13 := Lib.hid H13))
            go_roundg (j - (k + 1))
            case measure => omega
            case rel => exact ⟨k + 1, out ++ [po], by omega, rfl, by go_num, by simp; omega, hstep, H13.out.drops 1⟩
          · have q : (pe != 0) = true := by simp [hp0]
            simp only [if_neg hp0] at hstep
            subst hstep
            replace H2 := Lib.hid H2; replace hp0 := Lib.hid hp0
            go_wp2_with fail
            go_ret2
            exact ⟨_, rfl, ((St.zero w).thru H2.out.below).row_nil (size := 2)⟩
        · obtain rfl : k = j := by omega
          have hw2 := hw.out
          rw [List.drop_of_length_le (by have := hl.out; omega)] at hw2
          simp only [askP] at hw2
          subst hw2
          replace hst := Lib.hid hst
          go_wp2_with fail
          go_ret2
          exact ⟨_, rfl, hst.out⟩
end Go.Proofs.Ytljgmephajocaaa.Feat
