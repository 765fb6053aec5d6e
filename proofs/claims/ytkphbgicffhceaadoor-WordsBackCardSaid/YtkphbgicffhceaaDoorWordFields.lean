/- The words of a line; the walk of the answer of Fields. -/
import Derived.Test.YtkphbgicffhceaaDoorWordWorks
namespace Go.Proofs.YtkphbgicffhceaaDoor.Words
set_option linter.unusedSimpArgs false
set_option linter.unusedVariables false
open Go Go.RowKit Go.Proofs.YtkphbgicffhceaaDoor
attribute [local irreducible] Calls

def fStep (st : List (List UInt8) × List UInt8) (b : UInt8) : List (List UInt8) × List UInt8 :=
  if b = 32 then (if st.2 = [] then (st.1, []) else (st.1 ++ [st.2], [])) else (st.1, st.2 ++ [b])
def fFold (l : List UInt8) : List (List UInt8) × List UInt8 := l.foldl fStep ([], [])
def fEnd (st : List (List UInt8) × List UInt8) : List (List UInt8) := if st.2 = [] then st.1 else st.1 ++ [st.2]
/-- The words of a line. -/
def fieldsL (l : List UInt8) : List (List UInt8) := fEnd (fFold l)
theorem fold_snoc (l : List UInt8) (b : UInt8) : fFold (l ++ [b]) = fStep (fFold l) b := by unfold fFold; rw [List.foldl_append]; rfl
theorem fold_take {l : List UInt8} {j : Nat} (hj : j < l.length) : fFold (l.take (j + 1)) = fStep (fFold (l.take j)) l[j] := by
  rw [List.take_succ_eq_append_getElem hj, fold_snoc]
theorem fold_len : ∀ (l : List UInt8) (st : List (List UInt8) × List UInt8), (l.foldl fStep st).1.length + (l.foldl fStep st).2.length ≤ st.1.length + st.2.length + l.length
  | [], st => by simp
  | b :: l, st => by
    have h := fold_len l (fStep st b)
    have h2 : (fStep st b).1.length + (fStep st b).2.length ≤ st.1.length + st.2.length + 1 := by
      unfold fStep
      split
      · split
        · simp only [List.length_nil]; omega
        · rename_i h3
          have : 0 < st.2.length := List.length_pos_iff.2 h3
          simp only [List.length_append, List.length_cons, List.length_nil]; omega
      · simp only [List.length_append, List.length_cons, List.length_nil]; omega
    simp only [List.foldl_cons, List.length_cons]
    omega
theorem fold_len0 (l : List UInt8) : (fFold l).1.length + (fFold l).2.length ≤ l.length := by
  have := fold_len l ([], [])
  simp only [List.length_nil] at this
  unfold fFold
  omega
def strsL (o : List (List UInt8)) : List Value := strs (o.map strL)
theorem strsL_app (o : List (List UInt8)) (x : List UInt8) : strsL o ++ [Value.string (strL x)] = strsL (o ++ [x]) := by simp [strsL, strs]
theorem str_info : (Tryd.prog.info? 9).map (fun i => (i.zero, i.size, i.bytes)) = some (some (.string ⟨#[]⟩), 1, 16) := by kernel_rfl
theorem isEmpty_strL {l : List UInt8} (h : l ≠ []) : (strL l).toList.isEmpty = false := by
  refine str_ne ?_
  rw [strL_size]
  exact List.length_pos_iff.2 h
theorem cut_one {s : ByteArray} {l : List UInt8} (hl : l = s.data.toList) {j : Nat} (hj : j < s.size) (hjl : j < l.length) : s.extract j (j + 1) = strL [l[j]] := by
  refine strL_inj ?_
  rw [ByteArray.data_extract, Array.toList_extract, List.extract_eq_take_drop, ← hl, show j + 1 - j = 1 by omega, List.drop_eq_getElem_cons hjl]
  rfl
theorem emp0 : (strL []).toList.isEmpty = true := by rw [ByteArray.toList_eq]; rfl
set_option maxRecDepth 100000 in
theorem rfields_any (s : ByteArray) (hs : s.size ≤ 1000000) (w : World) : Calls Tryd.prog 14 #[.string s] w (fun e w' => ∃ v, e = .returned v ∧ St w none0 w' [rowA 1 v (fieldsL s.data.toList).length (strsL (fieldsL s.data.toList))]) := by
  obtain ⟨l, hl⟩ : ∃ l, l = s.data.toList := ⟨_, rfl⟩
  have hsz : l.length = s.size := by rw [hl]; simp
  rw [← hl]
  obtain ⟨F, hF⟩ : ∃ F, F = fieldsL l := ⟨_, rfl⟩
  rw [← hF]
  obtain ⟨i0, hi, hz, hz1, hz2⟩ := info_parts str_info
  replace hl := Lib.hid hl; replace hsz := Lib.hid hsz; replace hF := Lib.hid hF
  go_enter Tryd.func14, Tryd.ntmps14
  go_wp2_with fail
  go_loopg [3, 4, 5] (s.size + 1) (fun g ov wv i wr => ∃ (j : Nat) (a : Option Addr) (c : Nat) (out : List (List UInt8)) (cur : List UInt8), j ≤ s.size + 1 ∧ Hid (g = s.size + 1 - j) ∧ i = .int .i64 j ∧ ov = .slice a out.length c ∧ wv = .string (strL cur) ∧
    Hid (j ≤ s.size → fFold (l.take j) = (out, cur)) ∧ Hid (j = s.size + 1 → out = F) ∧ Hid (out.length ≤ s.size) ∧ Hid (cur.length ≤ s.size) ∧ Hid (St w none0 wr [rowA 1 (.slice a out.length c) out.length (strsL out)]))
  case atStart => exact ⟨0, none, 0, [], [], by omega, Lib.hid rfl, rfl, rfl, rfl, Lib.hid (fun _ => rfl), Lib.hid (fun h => by omega), Lib.hid (by simp), Lib.hid (by simp), Lib.hid ((St.zero w).row_nil)⟩
  case round =>
    obtain ⟨j, a, c, out, cur, hj, hg, rfl, rfl, rfl, hfo, hfin, hlo, hlc, HL⟩ := hrel
    by_cases hle : j ≤ s.size
    · have q : decide ((j : Int) ≤ (s.size : Int)) = true := decide_eq_true (by omega)
      have hst := hfo.out hle
      have hcs : (strL cur).size ≤ s.size := by rw [strL_size]; exact hlc.out
      clear hfo hfin
      by_cases hlt : j < s.size
      · have q2 : decide ((j : Int) < (s.size : Int)) = true := decide_eq_true (by omega)
        have hjl : j < l.length := by have := hsz.out; omega
        have hcj : s[j] = l[j] := at_list hl.out hlt hjl
        have hnx := fold_take hjl
        have hcut := cut_one hl.out hlt hjl
        rw [hst] at hnx
        unfold fStep at hnx
        rw [← hcj] at hnx hcut
        have hn0 := fold_len0 (l.take (j + 1))
        rw [List.length_take] at hn0
        by_cases hb : s[j] = 32
        · have kb : (((s[j]).toNat : Int) != 32) = false := by rw [hb]; rfl
          rw [if_pos hb] at hnx
          by_cases hc : cur = []
          · subst hc
            rw [if_pos rfl] at hnx
            simp only at hnx
            clear hcj hst hcut hn0 hb
            have hA := Lib.hid (fun _ : j + 1 ≤ s.size => hnx)
            have hB : Hid (j + 1 = s.size + 1 → out = F) := Lib.hid (fun h => by omega)
            clear hnx
            have e0 := emp0
            go_wp2_with fail
            go_roundg (s.size + 1 - (j + 1))
            case measure => have := hg.out; omega
            case rel => exact ⟨j + 1, a, c, out, [], by omega, Lib.hid rfl, by go_num, rfl, rfl, hA, hB, hlo, Lib.hid (by simp), HL⟩
          · rw [if_neg hc] at hnx
            simp only at hnx
            rw [hnx] at hn0
            simp only [List.length_append, List.length_cons, List.length_nil] at hn0
            have hlo' : Hid ((out ++ [cur]).length ≤ s.size) := Lib.hid (by simp only [List.length_append, List.length_cons, List.length_nil]; omega)
            clear hcj hst hcut hn0 hb
            have hA := Lib.hid (fun _ : j + 1 ≤ s.size => hnx)
            have hB : Hid (j + 1 = s.size + 1 → out ++ [cur] = F) := Lib.hid (fun h => by omega)
            clear hnx
            have e1 := isEmpty_strL hc
            have hlo2 := hlo.out
            clear hc
            go_wp2_with (at_builtin; (refine wpList_appS rfl (.tmp 31) (.tmp 33) _ rfl 9 i0 _ 1 16 Tryd.underlying27 hi hz hz1 hz2 rfl (by omega) 0 _ out.length (strsL out) rfl HL.out rfl 1 1 [.string (strL cur)] rfl rfl (by simp [Value.oneCell']) (by omega) (by omega) ?_; intro v5 w5 H5; obtain ⟨l5, c5, rfl, _⟩ := St.slice (by omega) 0 H5 rfl; replace H5 := Lib.hid H5))
            go_roundg (s.size + 1 - (j + 1))
            case measure => have := hg.out; omega
            case rel =>
              refine ⟨j + 1, l5, c5, out ++ [cur], [], by omega, Lib.hid rfl, by go_num, by rw [List.length_append]; rfl, rfl, hA, hB, hlo', Lib.hid (by simp), Lib.hid ?_⟩
              rw [List.length_append, ← strsL_app]
              exact H5.out.drops 1
        · have kb : (((s[j]).toNat : Int) != 32) = true := by
            rw [bne_iff_ne]
            intro h
            exact hb (UInt8.toNat_inj.1 (by show (s[j]).toNat = 32; omega))
          rw [if_neg hb] at hnx
          simp only at hnx
          rw [hnx] at hn0
          simp only [List.length_append, List.length_cons, List.length_nil] at hn0
          have hlo' : Hid (out.length ≤ s.size) := hlo
          have hlc' : Hid ((cur ++ [s[j]]).length ≤ s.size) := Lib.hid (by simp only [List.length_append, List.length_cons, List.length_nil]; omega)
          have hA := Lib.hid (fun _ : j + 1 ≤ s.size => hnx)
          have hB : Hid (j + 1 = s.size + 1 → out = F) := Lib.hid (fun h => by omega)
          have hs1 : (strL [s[j]]).size = 1 := rfl
          clear hnx hcj hst hn0 hb
          go_wp2_with fail
          go_roundg (s.size + 1 - (j + 1))
          case measure => have := hg.out; omega
          case rel => exact ⟨j + 1, a, c, out, cur ++ [s[j]], by omega, Lib.hid rfl, by go_num, rfl, by rw [strL_app], hA, hB, hlo', hlc', HL⟩
      · have hjs : j = s.size := by omega
        have q2 : decide ((j : Int) < (s.size : Int)) = false := decide_eq_false (by omega)
        have hall : l.take j = l := List.take_of_length_le (by have := hsz.out; omega)
        rw [hall] at hst
        have hFE : F = fEnd (out, cur) := by rw [hF.out]; unfold fieldsL; rw [hst]
        have hn0 := fold_len0 l
        rw [hst] at hn0
        have hszl := hsz.out
        unfold fEnd at hFE
        by_cases hc : cur = []
        · subst hc
          rw [if_pos rfl] at hFE
          simp only at hFE
          have hA : Hid (j + 1 ≤ s.size → fFold (l.take (j + 1)) = (out, [])) := Lib.hid (fun h => by omega)
          have hB := Lib.hid (fun _ : j + 1 = s.size + 1 => hFE.symm)
          clear hst hn0 hall hFE hszl
          replace hjs := Lib.hid hjs
          have e0 := emp0
          go_wp2_with fail
          go_roundg (s.size + 1 - (j + 1))
          case measure => have := hg.out; omega
          case rel => exact ⟨j + 1, a, c, out, [], by omega, Lib.hid rfl, by go_num, rfl, rfl, hA, hB, hlo, Lib.hid (by simp), HL⟩
        · rw [if_neg hc] at hFE
          simp only at hFE
          have hA : Hid (j + 1 ≤ s.size → fFold (l.take (j + 1)) = (out ++ [cur], [])) := Lib.hid (fun h => by omega)
          have hB := Lib.hid (fun _ : j + 1 = s.size + 1 => hFE.symm)
          have hlo' : Hid ((out ++ [cur]).length ≤ s.size) := Lib.hid (by have : 0 < cur.length := List.length_pos_iff.2 hc; simp only [List.length_append, List.length_cons, List.length_nil]; simp only at hn0; omega)
          clear hst hn0 hall hFE hszl
          replace hjs := Lib.hid hjs
          have e1 := isEmpty_strL hc
          have hlo2 := hlo.out
          clear hc
          go_wp2_with (at_builtin; (refine wpList_appS rfl (.tmp 31) (.tmp 33) _ rfl 9 i0 _ 1 16 Tryd.underlying27 hi hz hz1 hz2 rfl (by omega) 0 _ out.length (strsL out) rfl HL.out rfl 1 1 [.string (strL cur)] rfl rfl (by simp [Value.oneCell']) (by omega) (by omega) ?_; intro v5 w5 H5; obtain ⟨l5, c5, rfl, _⟩ := St.slice (by omega) 0 H5 rfl; replace H5 := Lib.hid H5))
          go_roundg (s.size + 1 - (j + 1))
          case measure => have := hg.out; omega
          case rel =>
            refine ⟨j + 1, l5, c5, out ++ [cur], [], by omega, Lib.hid rfl, by go_num, by rw [List.length_append]; rfl, rfl, hA, hB, hlo', Lib.hid (by simp), Lib.hid ?_⟩
            rw [List.length_append, ← strsL_app]
            exact H5.out.drops 1
    · have q : decide ((j : Int) ≤ (s.size : Int)) = false := decide_eq_false (by omega)
      have hF2 := hfin.out (by omega)
      clear hfo hfin
      replace hF2 := Lib.hid hF2
      go_wp2_with fail
      go_ret
      rw [← hF2.out]
      exact ⟨_, rfl, HL.out⟩
end Go.Proofs.YtkphbgicffhceaaDoor.Words
