/- The walks of feat.Answer, Agreed. -/
import Derived.Test.YtljgmephajocaaaFeatFind
import Derived.Test.YtljgmephajocaaaOptsMust
namespace Go.Proofs.Ytljgmephajocaaa.Feat
set_option linter.unusedSimpArgs false
set_option linter.unusedVariables false
open Go Go.RowKit Go.Shelf Go.Proofs.Ytljgmephajocaaa
open Go.Proofs.Ytljgmephajocaaa.Opts (El encs Few mustV must_any els_at el_info rows_up)
attribute [local irreducible] Calls

def ansStep (own : List Fe) (must : Bool) (o : El) : Int × Option El :=
  if getE o.1 o.2.data.toList = 0 ∧ o.1 = 34 then
    let mine := findV own (getN o.1 o.2.data.toList)
    let m := meetV mine.likes (getL o.1 o.2.data.toList)
    if m.2 then (putE 33 mine.num (confL mine.likes m.1), if putE 33 mine.num (confL mine.likes m.1) = 0 then some (putO 33 mine.num (confL mine.likes m.1)) else none)
    else if must then (15, none) else (0, none)
  else (0, none)
def ansF (own : List Fe) (must : Bool) : List El → List El → List El × Int
  | [], out => (out, 0)
  | o :: t, out => if (ansStep own must o).1 = 0 then ansF own must t (out ++ (ansStep own must o).2.toList) else ([], (ansStep own must o).1)
def ansV (own : List Fe) (asked : List El) : List El × Int := ansF own (mustV asked 34) asked []
def AnsS (R : List El × Int) (w : World) (e : Ending) (w' : World) : Prop := ∃ v, e = .returned (.tuple #[v, .int .i64 R.2]) ∧ St w none0 w' [rowA 2 v R.1.length (encs R.1)]
def FewF (own : List Fe) : Prop := own.length ≤ 100000 ∧ ∀ x ∈ own, x.likes.length ≤ 100000
theorem findV_few {own : List Fe} (h : FewF own) (k : Int) : (findV own k).likes.length ≤ 100000 := by
  unfold findV
  cases hf : own.find? (isN k) with
  | none => simp [zeroF]
  | some x => exact h.2 x (List.mem_of_find?_eq_some hf)
theorem findV_rd {own : List Fe} {w : World} {a : Option Addr} (h : RdF w a own) (k : Int) : Rd w (findV own k).a (i64s (findV own k).likes) := by
  unfold findV
  cases hf : own.find? (isN k) with
  | none => exact Rd.nil _ _
  | some x => exact h.2 x (List.mem_of_find?_eq_some hf)
theorem getL_len (k : Int) (l : List UInt8) : (getL k l).length ≤ l.length := by
  unfold getL
  split
  · exact likes_len l
  · simp
theorem confL_len (l : List Int) (n : Int) : (confL l n).length ≤ l.length + 1 := by
  unfold confL
  have := List.length_filter_le (fun k => k != n) l
  simp only [List.length_cons]
  omega
theorem ansF_len (own : List Fe) (must : Bool) : ∀ (t out : List El), (ansF own must t out).1.length ≤ out.length + t.length
  | [], out => by simp [ansF]
  | o :: t, out => by
    simp only [ansF]
    split
    · have := ansF_len own must t (out ++ (ansStep own must o).2.toList)
      have h2 : (ansStep own must o).2.toList.length ≤ 1 := by cases (ansStep own must o).2 <;> simp
      simp only [List.length_append, List.length_cons] at *
      omega
    · simp

set_option maxRecDepth 100000 in
set_option maxHeartbeats 2000000 in
theorem answer_any (own : List Fe) (no co : Nat) (ao : Option Addr) (ho : own.length = no) (hfo : FewF own) (asked : List El) (n ca : Nat) (aa : Option Addr) (ha : asked.length = n) (hfa : Few asked) (w : World) (h1 : RdF w ao own) (h2 : Rd w aa (encs asked)) :
    Calls Try.prog 61 #[.slice ao no co, .slice aa n ca] w (AnsS (ansV own asked) w) := by
  obtain ⟨i0, hi, hz, hz1, hz2⟩ := info_parts el_info
  have hn : n ≤ 3000 := by rw [← ha]; exact hfa.1
  have hno : no ≤ 100000 := by rw [← ho]; exact hfo.1
  have PF := fun k W hW => find_any own no ho (by omega) ao co W (h1.below hW) k
  have PM := fun W hW => must_any asked n ca 34 ha (by omega) aa W (h2.below hW)
  obtain ⟨mu, hmu⟩ : ∃ mu, mustV asked 34 = mu := ⟨_, rfl⟩
  obtain ⟨R, hR⟩ : ∃ R, ansV own asked = R := ⟨_, rfl⟩
  rw [hR]
  unfold ansV at hR
  rw [hmu] at hR PM
  clear hmu
  unfold AnsS
  have H0 : St w none0 w [rowA 2 (.slice none 0 0) 0 []] := (St.zero w).row_nil (size := 2)
  replace PF := Lib.hid PF; replace PM := Lib.hid PM; replace hR := Lib.hid hR; replace h1 := Lib.hid h1; replace h2 := Lib.hid h2; replace hfa := Lib.hid hfa; replace hfo := Lib.hid hfo; replace ha := Lib.hid ha; replace ho := Lib.hid ho; replace H0 := Lib.hid H0
  go_enter Try.func61, Try.ntmps61
  go_wp2_with fail
  go_loopg [6, 8, 9, 10, 11, 12, 13, 14, 15, 18] n (fun g ov _ _ _ _ _ _ _ _ i wr => ∃ (j : Nat) (out : List El), j ≤ n ∧ g = n - j ∧ i = .int .i64 j ∧ out.length ≤ j ∧ Hid (ansF own mu (asked.drop j) out = R) ∧ St w none0 wr [rowA 2 ov out.length (encs out)])
  case atStart => exact ⟨0, [], by omega, by omega, rfl, Nat.le_refl _, hR, H0.out⟩
  case round =>
    obtain ⟨ov, hov⟩ : ∃ v, v = u6 := ⟨_, rfl⟩
    subst hov
    obtain ⟨j, out, hj, hg, rfl, hol, hw, hst⟩ := hrel
    obtain ⟨oa, oc, rfl, _⟩ := St.slice (by omega) 0 hst rfl
    clear H0
    by_cases hlt : j < n
    · have hjl : j < asked.length := by have := ha.out; omega
      obtain ⟨b, off, rfl, hb, hc⟩ := els_at (h2.out.below hst.below) ha.out (by omega)
      obtain ⟨e0, e1⟩ := hc j hjl
      have hsz := (hfa.out.2 asked[j] (List.getElem_mem hjl)).2
      have hstep := hw.out
      rw [List.drop_eq_getElem_cons hjl] at hstep
      simp only [ansF] at hstep
      clear hc hw
      generalize asked[j] = ob at *
      obtain ⟨k, v⟩ := ob
      simp only at e0 e1 hsz
      have H1 := hst.alloc [.int .i64 k, .string v] 73
      have P1 := get_any k v (by omega) (wr.alloc (.cells #[.int .i64 k, .string v] 73))
      unfold FeatS at P1
      have hgl := getL_len k v.data.toList
      have hvl : v.data.toList.length = v.size := by simp
      clear hst
      replace H1 := Lib.hid H1
      go_wp2_with fail
      refine Calls.mono P1 ?_
      rintro e w2 ⟨lv, rfl, H2⟩
      have H3 := H1.out.add H2
      obtain ⟨fa, fc, rfl, _⟩ := St.slice (by omega) 0 H3 rfl
      clear P1 H1 H2
      by_cases hE : getE k v.data.toList = 0 ∧ k = 34
      · obtain ⟨hE0, rfl⟩ := hE
        have hst1 : ansStep own mu (34, v) = (if (meetV (findV own (getN 34 v.data.toList)).likes (getL 34 v.data.toList)).2 then (putE 33 (findV own (getN 34 v.data.toList)).num (confL (findV own (getN 34 v.data.toList)).likes (meetV (findV own (getN 34 v.data.toList)).likes (getL 34 v.data.toList)).1), if putE 33 (findV own (getN 34 v.data.toList)).num (confL (findV own (getN 34 v.data.toList)).likes (meetV (findV own (getN 34 v.data.toList)).likes (getL 34 v.data.toList)).1) = 0 then some (putO 33 (findV own (getN 34 v.data.toList)).num (confL (findV own (getN 34 v.data.toList)).likes (meetV (findV own (getN 34 v.data.toList)).likes (getL 34 v.data.toList)).1)) else none)
            else if mu then (15, none) else (0, none)) := by
          unfold ansStep
          rw [if_pos ⟨hE0, rfl⟩]
        rw [hE0]
        have P2 := PF.out (getN 34 v.data.toList)
        have hml := findV_few hfo.out (getN 34 v.data.toList)
        have hmrd := fun W (hW : Below w.heap.size w W) => findV_rd (h1.out.below hW) (getN 34 v.data.toList)
        generalize getN 34 v.data.toList = N at *
        generalize getL 34 v.data.toList = G at *
        generalize findV own N = mine at *
        obtain ⟨mn, ml, ma, mc⟩ := mine
        unfold valF at P2
        simp only at P2 hml hmrd hst1
        have H4 := H3.alloc [.int .i64 N, .slice fa G.length fc] 88
        obtain ⟨z4, c4, f4⟩ := H4.box 2 rfl
        have P2' := P2 _ H4.below
        clear H3 P2
        replace H4 := Lib.hid H4; replace hmrd := Lib.hid hmrd; replace hst1 := Lib.hid hst1; replace hgl := Lib.hid hgl; replace hvl := Lib.hid hvl; replace hE0 := Lib.hid hE0
        go_wp2_with fail
        refine Calls.mono P2' ?_
        rintro e w3 ⟨rfl, hb3⟩
        have H5 := (H4.out.thru hb3).alloc [.int .i64 mn, .slice ma ml.length mc] 88
        obtain ⟨z5, c5, f5⟩ := H5.box 1 rfl
        have P3 := meet_any ml G ml.length G.length rfl rfl (by omega) (by have := hgl.out; have := hvl.out; omega) ma fa mc fc _ (hmrd.out _ H5.below) (St.rd (by omega) 2 H5 rfl)
        obtain ⟨mv, hmv⟩ : ∃ mv, meetV ml G = mv := ⟨_, rfl⟩
        rw [hmv] at P3
        have hst2 := hst1.out
        rw [hmv] at hst2
        clear P2' H4 c4 f4 z4 hmv hst1
        obtain ⟨mx, mb⟩ := mv
        simp only at P3 hst2
        replace H5 := Lib.hid H5; replace hst2 := Lib.hid hst2
        go_wp2_with fail
        refine Calls.mono P3 ?_
        rintro e w4 ⟨rfl, hb4⟩
        have H6 := H5.out.thru hb4
        obtain ⟨z6, c6, f6⟩ := H6.box 0 rfl
        clear P3 H5 c5 f5 z5
        cases mb with
        | true =>
          have hst3 := hst2.out
          simp only [if_true] at hst3
          have P4 := conf_any ⟨mn, ml, ma, mc⟩ mx hml w4 (hmrd.out _ H6.below)
          unfold valF at P4
          simp only at P4
          have hcl := confL_len ml mx
          generalize confL ml mx = cl at *
          clear hst2
          replace H6 := Lib.hid H6; replace hst3 := Lib.hid hst3
          go_wp2_with fail
          refine Calls.mono P4 ?_
          rintro e w5 ⟨la, lc, rfl, H7⟩
          have H8 := H6.out.add H7
          have P5 := put_any 33 mn cl cl.length rfl (by omega) la lc w5 (St.rd (by omega) 0 H8 rfl)
          clear P4 H6 H7
          obtain ⟨pe, hpe⟩ : ∃ pe, putE 33 mn cl = pe := ⟨_, rfl⟩
          obtain ⟨po, hpo⟩ : ∃ po, putO 33 mn cl = po := ⟨_, rfl⟩
          rw [hpe, hpo] at P5
          have hst4 := hst3.out
          rw [hpe, hpo] at hst4
          clear hpe hpo hst3
          replace H8 := Lib.hid H8
          go_wp2_with fail
          refine Calls.mono P5 ?_
          rintro e w6 ⟨rfl, hb6⟩
          have H9 := ((H8.out.thru hb6).alloc [.int .i64 po.1, .string po.2] 73)
          clear P5 H8
          by_cases hp0 : pe = 0
          · subst hp0
            simp only [if_true] at hst4
            rw [hst4] at hstep
            simp only [if_true, Option.toList_some] at hstep
            have H10 := H9.front 6 rfl
            have H11 := H10.drops 2
            clear H9 H10
            replace H11 := Lib.hid H11; replace hstep := Lib.hid hstep; replace hst4 := Lib.hid hst4
            go_wp2_with (at_builtin; (refine wpList_appS rfl (.tmp 63) (.tmp 65) _ rfl 73 i0 _ 2 24 Try.underlying62 hi hz hz1 hz2 rfl (by omega) 0 _ out.length _ rfl H11.out rfl 1 1 [.int .i64 po.1, .string po.2] rfl rfl (by simp [Value.oneCell']) (by omega) (by omega) ?_; intro wv5 w7 H12; have H13 := rows_up (x := po) H12; clear H12; replace H13 := Lib.hid H13))
            go_roundg (n - (j + 1))
            case measure => omega
            case rel => exact ⟨j + 1, out ++ [po], by omega, rfl, by go_num, by simp; omega, hstep, H13.out.drops 1⟩
          · have q3 : (pe != 0) = true := by simp [hp0]
            rw [hst4] at hstep
            simp only [if_neg hp0] at hstep
            subst hstep
            clear hst4
            replace H9 := Lib.hid H9; replace hp0 := Lib.hid hp0
            go_wp2_with fail
            go_ret2
            exact ⟨_, rfl, ((St.zero w).thru H9.out.below).row_nil (size := 2)⟩
        | false =>
          have hst3 := hst2.out
          simp only [Bool.false_eq_true, if_false] at hst3
          have P4 := PM.out w4 H6.below
          clear hst2
          cases mu with
          | true =>
            simp only [if_true] at hst3
            rw [hst3] at hstep
            simp only [show ¬ (15 : Int) = 0 by omega, if_false] at hstep
            subst hstep
            replace H6 := Lib.hid H6; replace hst3 := Lib.hid hst3
            go_wp2_with fail
            refine Calls.mono P4 ?_
            rintro e w5 ⟨rfl, hb5⟩
            have H7 := H6.out.thru hb5
            clear P4 H6
            replace H7 := Lib.hid H7
            go_wp2_with fail
            go_ret2
            exact ⟨_, rfl, ((St.zero w).thru H7.out.below).row_nil (size := 2)⟩
          | false =>
            simp only [Bool.false_eq_true, if_false] at hst3
            rw [hst3] at hstep
            simp only [if_true, Option.toList_none, List.append_nil] at hstep
            replace H6 := Lib.hid H6; replace hst3 := Lib.hid hst3; replace hstep := Lib.hid hstep
            go_wp2_with fail
            refine Calls.mono P4 ?_
            rintro e w5 ⟨rfl, hb5⟩
            have H7 := H6.out.thru hb5
            clear P4 H6
            replace H7 := Lib.hid H7
            go_wp2_with fail
            go_roundg (n - (j + 1))
            case measure => omega
            case rel => exact ⟨j + 1, out, by omega, rfl, by go_num, by omega, hstep, (H7.out.front 4 rfl).drops 1⟩
      · have hst0 : ansStep own mu (k, v) = (0, none) := by unfold ansStep; rw [if_neg hE]
        by_cases hE0 : getE k v.data.toList = 0
        · have q1 : (getE k v.data.toList != 0) = false := by simp [hE0]
          have q2 : (k != 34) = true := by simp; exact fun h => hE ⟨hE0, h⟩
          have H4 := H3.alloc [.int .i64 (getN k v.data.toList), .slice fa (getL k v.data.toList).length fc] 88
          obtain ⟨z4, c4, f4⟩ := H4.box 2 rfl
          clear hE H3
          replace H4 := Lib.hid H4; replace hE0 := Lib.hid hE0; replace hgl := Lib.hid hgl; replace hvl := Lib.hid hvl
          have hs2 : ansF own mu (asked.drop (j + 1)) out = R := by rw [hst0] at hstep; simpa using hstep
          clear hstep
          replace hs2 := Lib.hid hs2; replace hst0 := Lib.hid hst0
          go_wp2_with fail
          go_roundg (n - (j + 1))
          case measure => omega
          case rel => exact ⟨j + 1, out, by omega, rfl, by go_num, by omega, hs2, (H4.out.front 3 rfl).drops 1⟩
        · have q1 : (getE k v.data.toList != 0) = true := by simp [hE0]
          have H4 := H3.alloc [.int .i64 (getN k v.data.toList), .slice fa (getL k v.data.toList).length fc] 88
          clear hE H3
          replace H4 := Lib.hid H4; replace hE0 := Lib.hid hE0; replace hgl := Lib.hid hgl; replace hvl := Lib.hid hvl
          have hs2 : ansF own mu (asked.drop (j + 1)) out = R := by rw [hst0] at hstep; simpa using hstep
          clear hstep
          replace hs2 := Lib.hid hs2; replace hst0 := Lib.hid hst0
          go_wp2_with fail
          go_roundg (n - (j + 1))
          case measure => omega
          case rel => exact ⟨j + 1, out, by omega, rfl, by go_num, by omega, hs2, (H4.out.front 3 rfl).drops 1⟩
    · obtain rfl : j = n := by omega
      have hw2 := hw.out
      rw [List.drop_of_length_le (by have := ha.out; omega)] at hw2
      simp only [ansF] at hw2
      subst hw2
      replace hst := Lib.hid hst
      go_wp2_with fail
      go_ret2
      exact ⟨_, rfl, hst.out⟩
end Go.Proofs.Ytljgmephajocaaa.Feat
