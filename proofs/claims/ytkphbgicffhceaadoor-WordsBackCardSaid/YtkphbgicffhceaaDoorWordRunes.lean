/- The walk of words.Fields: the runes of a line, whatever its bytes. -/
import Derived.Test.YtkphbgicffhceaaDoorWordFields
import Derived.Test.YtkphbgicffhceaaDoorRange
import Derived.Lib.OthersKept
namespace Go.Proofs.YtkphbgicffhceaaDoor.Words
set_option linter.unusedSimpArgs false
set_option linter.unusedVariables false
open Go Go.RowKit Go.Proofs.YtkphbgicffhceaaDoor
attribute [local irreducible] Calls

theorem get_at {s : ByteArray} {i : Nat} (h : i < s.size) : s.get! i = s[i] := by
  simp [ByteArray.get!, getElem!_pos, h]
  rfl
/-- How far a rune goes: no byte behind its first one is one of ASCII. -/
theorem decode_w (s : ByteArray) (pos : Nat) (h : pos < s.size) : 1 ≤ (Utf8.decode s pos).2 ∧ pos + (Utf8.decode s pos).2 ≤ s.size ∧ ∀ i, 1 ≤ i → i < (Utf8.decode s pos).2 → 128 ≤ (s.get! (pos + i)).toNat := by
  have key : ∀ k, (decide (pos + k < s.size) && ((s.get! (pos + k)).toNat / 64 == 2)) = true → pos + k < s.size ∧ 128 ≤ (s.get! (pos + k)).toNat := by
    intro k hk
    simp only [Bool.and_eq_true, decide_eq_true_eq, beq_iff_eq] at hk
    omega
  simp only [Utf8.decode]
  repeat' split
  all_goals first
    | exact ⟨by omega, by omega, fun i h1 h2 => by omega⟩
    | (rename_i hc _
       simp only [Bool.and_eq_true] at hc
       have c1 := key 1 (by simp only [Bool.and_eq_true]; exact hc.2)
       exact ⟨by omega, by omega, fun i h1 h2 => by obtain rfl : i = 1 := by omega
                                                    exact c1.2⟩)
    | (rename_i hc _
       simp only [Bool.and_eq_true] at hc
       have c1 := key 1 (by simp only [Bool.and_eq_true]; exact hc.1.2)
       have c2 := key 2 (by simp only [Bool.and_eq_true]; exact hc.2)
       exact ⟨by omega, by omega, fun i h1 h2 => by rcases (by omega : i = 1 ∨ i = 2) with rfl | rfl
                                                    exact c1.2
                                                    exact c2.2⟩)
    | (rename_i hc _
       simp only [Bool.and_eq_true] at hc
       have c1 := key 1 (by simp only [Bool.and_eq_true]; exact hc.1.1.2)
       have c2 := key 2 (by simp only [Bool.and_eq_true]; exact hc.1.2)
       have c3 := key 3 (by simp only [Bool.and_eq_true]; exact hc.2)
       exact ⟨by omega, by omega, fun i h1 h2 => by rcases (by omega : i = 1 ∨ i = 2 ∨ i = 3) with rfl | rfl | rfl
                                                    exact c1.2
                                                    exact c2.2
                                                    exact c3.2⟩)
theorem fold_more : ∀ (x : List UInt8) (o : List (List UInt8)) (c : List UInt8), (∀ b ∈ x, b ≠ 32) → x.foldl fStep (o, c) = (o, c ++ x)
  | [], o, c, _ => by simp
  | b :: x, o, c, h => by
    rw [List.foldl_cons]
    have : fStep (o, c) b = (o, c ++ [b]) := by unfold fStep; rw [if_neg (h b (List.mem_cons_self ..))]
    rw [this, fold_more x o (c ++ [b]) fun y hy => h y (List.mem_cons_of_mem _ hy), List.append_assoc]
    rfl
/-- A rune that is no blank goes to the word. -/
theorem fold_rune {s : ByteArray} {l : List UInt8} (hl : l = s.data.toList) {pos : Nat} (h : pos < s.size) (hne : (s[pos]).toNat ≠ 32) {out : List (List UInt8)} {cur : List UInt8} (hf : fFold (l.take pos) = (out, cur)) :
    fFold (l.take (pos + (Utf8.decode s pos).2)) = (out, cur ++ (l.drop pos).take (Utf8.decode s pos).2) := by
  obtain ⟨h1, h2, h3⟩ := decode_w s pos h
  have hsz : l.length = s.size := by rw [hl]; simp
  rw [List.take_add]
  unfold fFold at hf ⊢
  rw [List.foldl_append, hf]
  refine fold_more _ _ _ fun b hb => ?_
  obtain ⟨i, hi, rfl⟩ := List.getElem_of_mem hb
  rw [List.length_take, List.length_drop] at hi
  rw [List.getElem_take, List.getElem_drop]
  have e : l[pos + i]'(by omega) = s[pos + i]'(by omega) := (at_list hl (by omega) (by omega)).symm
  rw [e]
  intro hb32
  by_cases h0 : i = 0
  · subst h0
    exact hne (by simp only [Nat.add_zero] at hb32; rw [hb32]; rfl)
  · have := h3 i (by omega) (by omega)
    rw [get_at (by omega), hb32] at this
    exact absurd this (by decide)
theorem st_iter {W w : World} {S : Nat → Prop} {k pos : Nat} {s : ByteArray} {r : List Asn} (h : St W S w (objA k (.stringIter s pos) :: r)) (pos' : Nat) : St W S (w.iterAt k s pos') (objA k (.stringIter s pos') :: r) :=
  St.putObj 0 h rfl (.stringIter s pos')
theorem cut_at {s : ByteArray} {l : List UInt8} (hl : l = s.data.toList) (f p : Nat) : s.extract f p = strL ((l.take p).drop f) := by
  refine strL_inj ?_
  rw [ByteArray.data_extract, Array.toList_extract, List.extract_eq_take_drop, ← hl, List.drop_take]
end Go.Proofs.YtkphbgicffhceaaDoor.Words
