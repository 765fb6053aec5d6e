
/- The walk of slices.Insert of one element into the middle of a row of the call's own. -/
import Derived.Test.YtiaefmmcakagpaaDelInt
import Derived.Test.YtiaefmmcakagpaaInsK
import Derived.WalkLawsBesides
import Derived.Laws.Externs
namespace Go.Proofs.Ytiaefmmcakagpaa.InsInt
set_option linter.unusedSimpArgs false
set_option linter.unusedVariables false
open Go Go.RowKit Go.Proofs.Ytiaefmmcakagpaa Go.Proofs.Ytiaefmmcakagpaa.DelInt
attribute [local irreducible] Calls

theorem apart_any (w : World) (q g o la ca lb cb : Nat) (new : List Value) (hq : Box w q new) (hn : new ≠ []) (hne : q ≠ g) (hg : ∃ p, (w.cell? ⟨g, p, none⟩).isSome = true) :
    (callFunc 109 #[.slice (some ⟨q, 0, none⟩) la ca, .slice (some ⟨g, o, none⟩) lb cb]).run Try.prog w = .ok (.value (.bool false)) w := by
  obtain ⟨i0, hi, hz, hz1, hz2⟩ := info_parts el_info
  obtain ⟨tA, hsa⟩ := hq.shape hn
  obtain ⟨p, hp⟩ := hg
  obtain ⟨tB, kB, hsb, hkB⟩ := shape_cell hp
  rw [run_callFunc_extern Try.func109 (by kernel_rfl) (by kernel_rfl) (by kernel_rfl) (e := Extern.SlicesOverlaps.overlaps #[34, 34] #[4]) (by kernel_rfl),
    Lib.run_overlaps_apart w 34 4 3 Try.underlying34 1 (fun w => by simp [sizeOf, typeInfo, hi, hz1, Sem.run_bind, Sem.run_pure, Result.andThen, go_sem]) ⟨q, 0, none⟩ ⟨g, o, none⟩ la ca lb cb hne tA tB _ kB hsa hsb hkB (hq.free 0) (hq.free _)]
  rfl

set_option maxRecDepth 100000 in
set_option maxHeartbeats 800000 in
theorem insert_grow (g o n cap i q : Nat) (xs new : List Value) (S : Nat → Prop) (w : World) (hr : (rowA 1 (.slice (some ⟨g, o, none⟩) n cap) n xs).holds w S) (hi : i < n) (hsm : n ≤ 100000) (hcap : cap < n + 1)
    (h1 : ∀ u ∈ xs, u.oneCell' = true) (hq : Box w q new) (hnl : new.length = 1) (h2 : ∀ u ∈ new, u.oneCell' = true) (hns : ¬ S q) :
    Calls Try.prog 90 #[.slice (some ⟨g, o, none⟩) n cap, .int .i64 (i : Int), .slice (some ⟨q, 0, none⟩) 1 1] w fun e w' =>
      ∃ v', e = .returned v' ∧ St w S w' [rowA 1 v' (n + 1) (xs.take (i * 1) ++ new ++ xs.drop (i * 1))] := by
  obtain ⟨i0, hi0, hz, hz1, hz2⟩ := info_parts el_info
  have H0 : St w S w [rowA 1 (.slice (some ⟨g, o, none⟩) n cap) n xs] := St.start (Sep.one hr)
  obtain ⟨hlen, _, hlt, hnc, hcm, hx, hrm⟩ := (H0.row 0 rfl).parts
  unfold maxLen at hcm
  obtain ⟨G, w1, hrun, hG1, hG2, hB, hsz, ys, hys, H1⟩ := run_appMake (P := Try.prog) (n := n) (g := g) (o := o) (cap := cap) (xs := xs) (k := 0) 34 3 3 i0 _ .i64 .i64 Try.underlying34 Try.underlying3 hi0 hz hz1 hz2 rfl (by omega) H0 rfl i (n + 1 - i) (by omega) (by omega) (by omega) (by omega) (by omega)
  rw [show i + (n + 1 - i) = n + 1 by omega] at hrun H1 hG1
  unfold maxLen at hG2
  have hq1 := hq.below hB
  -- the first copy
  obtain ⟨w2, hc1, H2⟩ := run_copyAt (P := Try.prog) 34 3 3 i0 Try.underlying34 hi0 hz1 H1 (k := 0) rfl i 1 (n + 1 - i) (G - i) 1 1 ⟨q, 0, none⟩ (by simp only [Nat.min_def]; split <;> omega) (by omega) new (by omega) (fun j u hu => by rw [Addr.add_lit, hq1.cells, Nat.zero_add]; exact hu) h2
  have hL1 : (xs.take (i * 1) ++ ys).take (i * 1) ++ new ++ (xs.take (i * 1) ++ ys).drop (i * 1 + new.length) = xs.take (i * 1) ++ new ++ ys.drop 1 := by
    have ht : (xs.take (i * 1)).length = i * 1 := by rw [List.length_take]; omega
    rw [List.take_append_of_le_length (by omega), List.take_take, Nat.min_self, hnl, List.drop_append, ht, List.drop_of_length_le (by omega), List.nil_append, show i * 1 + 1 - i * 1 = 1 by omega]
  rw [hL1] at H2
  obtain ⟨Y, hY⟩ : ∃ Y, Y = xs.take (i * 1) ++ new ++ ys.drop 1 := ⟨_, rfl⟩
  rw [← hY] at H2
  simp only [List.eraseIdx_cons_zero, List.eraseIdx_cons_succ] at H2
  replace hY := Lib.hid hY
  clear hL1 H1 hB hsz hq1 hx
  have hkk : (n : Int) + 1 - (i : Int) = ((n + 1 - i : Nat) : Int) := by omega
  have b1 : decide ((cap : Int) < (n : Int) + 1) = true := decide_eq_true (by omega)
  have b2 : decide ((i : Int) = (n : Int)) = false := decide_eq_false (by omega)
  have b3 : ((i : Int) == (n : Int)) = false := by simp; omega
  have htn : ((i : Int) + 1).toNat = i + 1 := by omega
  have hb1 : (0 : Int) ≤ (i : Int) + 1 := by omega
  have hin : i ≤ n := by omega
  have hb3 : (i : Int) ≤ (n : Int) := by omega
  have hGi : ¬ (G = i) := by omega
  have hGim : ¬ (G = i + 1) := by omega
  have hci : ¬ (cap = i) := by omega
  rw [← hkk] at hrun
  simp only [Nat.zero_add] at hc1
  try simp only [Nat.mul_one] at hc1
  replace hlen := Lib.hid hlen
  replace hys := Lib.hid hys
  replace hkk := Lib.hid hkk
  replace hnl := Lib.hid hnl
  replace H0 := Lib.hid H0; replace H2 := Lib.hid H2
  go_enter Try.func90, Try.ntmps90
  go_wp2_with (first
    | (at_builtin; refine Lib.wpList_append_run _ rfl _ _ _ _ rfl _ _ rfl rfl _ _ (hrun _) ?_)
    | (at_builtin; refine wpList_copy_run _ rfl _ _ _ _ rfl _ _ rfl rfl hc1 ?_))
  haveI := H2.out.ne
  refine wp_region_cls_tail 8 (by kernel_rfl) (by kernel_rfl) H2.out ?_
  simp only [List.take_succ_cons, List.take_zero, List.drop_succ_cons, List.drop_zero]
  repeat (go_big_quiet_step (fail))
  refine wpQuiet_nil ?_
  intro w3 H3
  obtain ⟨hxl, _, _, _, _, hx, _⟩ := (H3.row 1 rfl).parts
  have hle : i * 1 + 1 ≤ n * 1 := by omega
  have hdl : (xs.drop (i * 1)).length = (n - i) * 1 := by rw [List.length_drop, hxl]; omega
  obtain ⟨w4, hc2, H4⟩ := run_copyAt (P := Try.prog) 34 3 3 i0 Try.underlying34 hi0 hz1 H3 (k := 0) rfl (i + 1) (n - i) (n - i) (G - (i + 1)) (n - i) (cap - i) ⟨g, o + i * 1, none⟩ (by simp only [Nat.min_def]; split <;> omega) (by omega) (xs.drop (i * 1)) hdl (fun j u hu => by rw [Addr.add_lit, Nat.add_assoc]; exact hx _ _ (by rwa [List.getElem?_drop] at hu)) (fun u hu => h1 u (List.mem_of_mem_drop hu))
  have hL2 : (xs.take (i * 1) ++ new ++ ys.drop 1).take ((i + 1) * 1) ++ xs.drop (i * 1) ++ (xs.take (i * 1) ++ new ++ ys.drop 1).drop ((i + 1) * 1 + (xs.drop (i * 1)).length) = xs.take (i * 1) ++ new ++ xs.drop (i * 1) := by
    have ht : (xs.take (i * 1) ++ new).length = (i + 1) * 1 := by rw [List.length_append, List.length_take, hnl.out]; omega
    have hyl : (ys.drop 1).length = (n - i) * 1 := by rw [List.length_drop, hys.out]; omega
    have hll : (xs.take (i * 1) ++ new ++ ys.drop 1).length = (i + 1) * 1 + (xs.drop (i * 1)).length := by rw [List.length_append, ht, hyl, hdl]
    rw [List.take_left' ht, List.drop_of_length_le (Nat.le_of_eq hll), List.append_nil]
  rw [hY.out, hL2] at H4
  simp only [Nat.zero_add] at hc2
  try simp only [Nat.mul_one] at hc2
  clear hx hle hxl hdl hL2 H3
  replace H4 := Lib.hid H4
  refine wpList_copy_run _ rfl _ _ _ _ rfl _ _ rfl rfl hc2 ?_
  go_wp2_with fail
  go_ret
  exact ⟨_, rfl, H4.out.drops 1⟩
set_option maxRecDepth 100000 in
set_option maxHeartbeats 800000 in
theorem insert_room (g o n cap i q : Nat) (xs new : List Value) (S : Nat → Prop) (w : World) (hr : (rowA 1 (.slice (some ⟨g, o, none⟩) n cap) n xs).holds w S) (hi : i < n) (hsm : n ≤ 100000) (hcap : n + 1 ≤ cap)
    (h1 : ∀ u ∈ xs, u.oneCell' = true) (hq : Box w q new) (hnl : new.length = 1) (h2 : ∀ u ∈ new, u.oneCell' = true) (hns : ¬ S q) :
    Calls Try.prog 90 #[.slice (some ⟨g, o, none⟩) n cap, .int .i64 (i : Int), .slice (some ⟨q, 0, none⟩) 1 1] w fun e w' =>
      ∃ v', e = .returned v' ∧ St w S w' [rowA 1 v' (n + 1) (xs.take (i * 1) ++ new ++ xs.drop (i * 1))] := by
  obtain ⟨i0, hi0, hz, hz1, hz2⟩ := info_parts el_info
  have H0 : St w S w [rowA 1 (.slice (some ⟨g, o, none⟩) n cap) n xs] := St.start (Sep.one hr)
  obtain ⟨hlen, _, hlt, hnc, hcm, hx, hrm⟩ := (H0.row 0 rfl).parts
  unfold maxLen at hcm
  have hne : q ≠ g := fun e => hns (by rw [e]; exact (hr.2 g).2 rfl)
  have hov : ∀ lb cb, (callFunc 109 #[.slice (some ⟨q, 0, none⟩) 1 1, .slice (some ⟨g, o + (i + 1) * 1, none⟩) lb cb]).run Try.prog w = .ok (.value (.bool false)) w := fun lb cb =>
    apart_any w q g _ 1 1 lb cb new hq (fun e => by rw [e] at hnl; simp at hnl) hne ⟨_, (hrm 0 (by omega)).1⟩
  obtain ⟨ys, hys, H1⟩ := H0.extend (m := 1) (k := 0) rfl hcap
  simp only [List.eraseIdx_cons_zero, List.eraseIdx_cons_succ] at H1
  have b1 : decide ((cap : Int) < (n : Int) + 1) = false := decide_eq_false (by omega)
  have b2 : decide ((i : Int) = (n : Int)) = false := decide_eq_false (by omega)
  have b3 : ((i : Int) == (n : Int)) = false := by simp; omega
  have htn : ((i : Int) + 1).toNat = i + 1 := by omega
  have hb1 : (0 : Int) ≤ (i : Int) + 1 := by omega
  have hin : i ≤ n := by omega
  have hb3 : (i : Int) ≤ (n : Int) := by omega
  have hb4 : (i : Int) ≤ (n : Int) + 1 := by omega
  have hb5 : (i : Int) + 1 ≤ (n : Int) + 1 := by omega
  have hci : ¬ (cap = i) := by omega
  have hci2 : ¬ (cap = i + 1) := by omega
  clear hx hrm
  obtain ⟨Y, hY⟩ : ∃ Y, Y = xs ++ ys := ⟨_, rfl⟩
  rw [← hY] at H1
  replace hY := Lib.hid hY
  replace hlen := Lib.hid hlen
  replace hys := Lib.hid hys
  replace hnl := Lib.hid hnl
  try simp only [Nat.mul_one] at hov
  replace H0 := Lib.hid H0; replace H1 := Lib.hid H1
  go_enter Try.func90, Try.ntmps90
  go_wp2_with (simp only [hov])
  haveI := H1.out.ne
  refine wp_region_cls_tail 8 (by kernel_rfl) (by kernel_rfl) H1.out ?_
  simp only [List.take_succ_cons, List.take_zero, List.drop_succ_cons, List.drop_zero]
  repeat (go_big_quiet_step (fail))
  refine wpQuiet_nil ?_
  intro w3 H3
  have hle : i * 1 + 1 ≤ n * 1 := by omega
  have hdl : (xs.drop (i * 1)).length = (n - i) * 1 := by rw [List.length_drop, hlen.out]; omega
  obtain ⟨hxl, _, _, _, _, hx, _⟩ := (H3.row 0 rfl).parts
  obtain ⟨w4, hc2, H4⟩ := run_copyAt (P := Try.prog) 34 3 3 i0 Try.underlying34 hi0 hz1 H3 (k := 0) rfl (i + 1) (n - i) (n - i) (cap - (i + 1)) (n + 1 - i) (cap - i) ⟨g, o + i * 1, none⟩ (by simp only [Nat.min_def]; split <;> omega) (by omega) (xs.drop (i * 1)) hdl (fun j u hu => by
      rw [Addr.add_lit, Nat.add_assoc]
      refine hx _ _ ?_
      rw [List.getElem?_drop] at hu
      rw [hY.out, List.getElem?_append_left (List.getElem?_eq_some_iff.1 hu).1]
      exact hu) (fun u hu => h1 u (List.mem_of_mem_drop hu))
  simp only [List.eraseIdx_cons_zero, List.eraseIdx_cons_succ] at H4
  have hY2 : (Y.take ((i + 1) * 1) ++ xs.drop (i * 1)).length = Y.length := by
    rw [hY.out, List.length_append, List.length_take, List.length_append, hdl, hlen.out, hys.out]
    omega
  have hY3 : Y.take ((i + 1) * 1) ++ xs.drop (i * 1) ++ Y.drop ((i + 1) * 1 + (xs.drop (i * 1)).length) = Y.take ((i + 1) * 1) ++ xs.drop (i * 1) := by
    have hd0 : Y.drop ((i + 1) * 1 + (xs.drop (i * 1)).length) = [] := List.drop_of_length_le (by rw [hdl, hxl]; omega)
    rw [hd0, List.append_nil]
  rw [hY3] at H4
  have hq4 : ∀ j, w4.cell? ⟨q, j, none⟩ = new[j]? := fun j => ((H4.old hq.lt hns).1 j).trans (hq.cells j)
  obtain ⟨w5, hc5, H5⟩ := run_copyAt (P := Try.prog) 34 3 3 i0 Try.underlying34 hi0 hz1 H4 (k := 0) rfl i 1 (n + 1 - i) (cap - i) 1 1 ⟨q, 0, none⟩ (by simp only [Nat.min_def]; split <;> omega) (by omega) new (by rw [hnl.out]) (fun j u hu => by rw [Addr.add_lit, Nat.zero_add, hq4]; exact hu) h2
  simp only [List.eraseIdx_cons_zero, List.eraseIdx_cons_succ] at H5
  have hE : (Y.take ((i + 1) * 1) ++ xs.drop (i * 1)).take (i * 1) ++ new ++ (Y.take ((i + 1) * 1) ++ xs.drop (i * 1)).drop (i * 1 + new.length) = xs.take (i * 1) ++ new ++ xs.drop (i * 1) := by
    have hyt : (Y.take ((i + 1) * 1)).length = i * 1 + new.length := by rw [List.length_take, hxl, hnl.out]; omega
    rw [List.drop_left' hyt, List.take_append_of_le_length (by rw [hyt]; omega), List.take_take, Nat.min_eq_left (by omega), hY.out, List.take_append_of_le_length (by have := hlen.out; omega)]
  rw [hE] at H5
  clear hE hY2 hY3 hq4 hx hxl hdl hle H3 H4
  replace H5 := Lib.hid H5
  try simp only [Nat.mul_one] at hc2 hc5
  refine wpList_copy_run _ rfl _ _ _ _ rfl _ _ rfl rfl hc2 ?_
  go_wp2_with fail
  go_ret
  exact ⟨_, rfl, H5.out⟩
set_option maxRecDepth 100000 in
set_option maxHeartbeats 400000 in
theorem insert_end (v : Value) (n q : Nat) (xs new : List Value) (S : Nat → Prop) (w : World) (hr : (rowA 1 v n xs).holds w S) (hsm : n ≤ 100000)
    (hq : Rd w (some ⟨q, 0, none⟩) new) (hnl : new.length = 1) (h2 : ∀ u ∈ new, u.oneCell' = true) :
    Calls Try.prog 90 #[v, .int .i64 (n : Int), .slice (some ⟨q, 0, none⟩) 1 1] w (fun e w' => ∃ v', e = .returned v' ∧ St w S w' [rowA 1 v' (n + 1) (xs ++ new)]) := by
  obtain ⟨i0, hi, hz, hz1, hz2⟩ := info_parts el_info
  have H := St.start (Sep.one hr)
  obtain ⟨a, cap, rfl, hn, hcm, ha0, hR⟩ := St.slice (by omega) 0 H rfl
  clear hr hR ha0
  replace hnl := Lib.hid hnl
  replace H := Lib.hid H; replace hq := Lib.hid hq
  go_enter Try.func90, Try.ntmps90
  go_wp2_with (at_builtin; (refine wpList_appRd rfl (.tmp 23) (.tmp 24) _ rfl 3 i0 _ 1 8 Try.underlying34 hi hz hz1 hz2 rfl (by omega) 0 _ n xs rfl H.out rfl _ 1 1 new rfl (by rw [hnl.out]) hq.out (by simp) h2 (by omega) (by omega) ?_; intro wv6 w6 HC; replace HC := Lib.hid HC))
  all_goals
    go_ret
    exact ⟨_, rfl, HC.out⟩
theorem insert_any (v : Value) (n i q : Nat) (xs new : List Value) (S : Nat → Prop) (w : World) (hr : (rowA 1 v n xs).holds w S) (hi : i ≤ n) (hsm : n ≤ 100000)
    (h1 : ∀ u ∈ xs, u.oneCell' = true) (hq : Box w q new) (hnl : new.length = 1) (h2 : ∀ u ∈ new, u.oneCell' = true) (hns : ¬ S q) :
    Calls Try.prog 90 #[v, .int .i64 (i : Int), .slice (some ⟨q, 0, none⟩) 1 1] w fun e w' =>
      ∃ v', e = .returned v' ∧ St w S w' [rowA 1 v' (n + 1) (xs.take (i * 1) ++ new ++ xs.drop (i * 1))] := by
  have hl : xs.length = n * 1 := hr.1.1
  by_cases he : i = n
  · subst he
    rw [List.take_of_length_le (by omega), List.drop_of_length_le (by omega), List.append_nil]
    exact insert_end v i q xs new S w hr hsm hq.rd hnl h2
  · have hr' := hr
    rcases hr.1.2 with ⟨rfl, rfl⟩ | ⟨g, o, cap, rfl, _⟩
    · omega
    · by_cases hc : n + 1 ≤ cap
      · exact insert_room g o n cap i q xs new S w hr (by omega) hsm hc h1 hq hnl h2 hns
      · exact insert_grow g o n cap i q xs new S w hr (by omega) hsm (by omega) h1 hq hnl h2 hns
end Go.Proofs.Ytiaefmmcakagpaa.InsInt
