/- Both like it: in plain Lean. -/
import Derived.Test.YtljgmephajocaaaFeatAsk
import Derived.Test.YtljgmephajocaaaFeatCodes
import Derived.Test.YtljgmephajocaaaFeatBoth
namespace Go.Proofs.Ytljgmephajocaaa.Feat
set_option linter.unusedSimpArgs false
set_option linter.unusedVariables false
open Go Go.RowKit Go.Shelf Go.Proofs.Ytljgmephajocaaa
open Go.Proofs.Ytljgmephajocaaa.Opts (El encs Few mustV mustAt must_none arr_ext)

def lastV (l : List Fe) (number : Int) : Fe := (l.reverse.find? (isN number)).getD zeroF
theorem last_step {l : List Fe} {j : Nat} {k : Int} (hj : j < l.length) : lastV (l.take (j + 1)) k = if isN k l[j] then l[j] else lastV (l.take j) k := by
  unfold lastV
  rw [List.take_succ_eq_append_getElem hj, List.reverse_append]
  simp only [List.reverse_cons, List.reverse_nil, List.nil_append, List.cons_append, List.find?_cons]
  cases isN k l[j] <;> rfl
theorem find_step {l : List Fe} {j : Nat} {k : Int} (hj : j < l.length) : findV (l.take (j + 1)) k = if (l.take j).any (isN k) then findV (l.take j) k else if isN k l[j] then l[j] else zeroF := by
  unfold findV
  rw [List.take_succ_eq_append_getElem hj, List.find?_append]
  rcases find_idx (l.take j) (isN k) with ⟨h1, h2, _⟩ | ⟨i, hi, h1, h2, _⟩
  · rw [h1, h2]
    simp only [Bool.false_eq_true, if_false, Option.none_or, List.find?_cons, List.find?_nil]
    cases isN k l[j] <;> rfl
  · rw [h1, h2]
    rfl
theorem find_drop {l : List Fe} {i : Nat} {k : Int} (hi : i < l.length) : findV (l.drop i) k = if isN k l[i] then l[i] else findV (l.drop (i + 1)) k := by
  unfold findV
  rw [List.drop_eq_getElem_cons hi, List.find?_cons]
  cases isN k l[i] <;> rfl
theorem last_eq {l : List Fe} {k : Int} (h : ∀ i, i < l.length → twiceAt l i = false) : ∀ j, j ≤ l.length → lastV (l.take j) k = findV (l.take j) k := by
  intro j
  induction j with
  | zero => intro _; rfl
  | succ j ih =>
    intro hj
    have hjl : j < l.length := by omega
    rw [last_step hjl, find_step hjl, ih (by omega)]
    cases hq : isN k l[j] with
    | true =>
      have ht := h j hjl
      unfold twiceAt at ht
      rw [List.getElem?_eq_getElem hjl] at ht
      simp only at ht
      have hk : l[j].num = k := by unfold isN at hq; simpa using hq
      rw [hk] at ht
      rw [ht]
      simp
    | false =>
      simp only [Bool.false_eq_true, if_false]
      cases ha : (l.take j).any (isN k) with
      | true => simp
      | false =>
        rcases find_idx (l.take j) (isN k) with ⟨_, h2, _⟩ | ⟨i, hi, h1, _⟩
        · simp [findV, h2]
        · rw [ha] at h1; cases h1
theorem apart {l : List Fe} (h : ∀ i, i < l.length → twiceAt l i = false) : l.Pairwise (fun x y => x.num ≠ y.num) := by
  rw [List.pairwise_iff_getElem]
  intro i j hi hj hij e
  have ht := h j hj
  unfold twiceAt at ht
  rw [List.getElem?_eq_getElem hj] at ht
  simp only at ht
  have := List.any_eq_false.1 ht l[i] (by rw [List.mem_take_iff_getElem]; exact ⟨i, by omega, rfl⟩)
  unfold isN at this
  simp [e] at this
theorem ask_ok : ∀ (l : List Fe) (out : List El), (askP l out).2 = 0 → (∀ x ∈ l, putE 34 x.num x.likes = 0) ∧ (askP l out).1 = out ++ l.map (fun x => putO 34 x.num x.likes)
  | [], out, _ => by simp [askP]
  | x :: t, out, h => by
    simp only [askP] at h ⊢
    split at h
    · rename_i h0
      obtain ⟨h1, h2⟩ := ask_ok t _ h
      rw [if_pos h0]
      refine ⟨fun y hy => ?_, by rw [h2]; simp⟩
      rcases List.mem_cons.1 hy with rfl | hy
      · exact h0
      · exact h1 y hy
    · rename_i h0
      exact absurd h h0
def mOf (own : List Fe) (x : Fe) : Int × Bool := meetV (findV own x.num).likes x.likes
def yOf (own : List Fe) (x : Fe) : Option El := if (mOf own x).2 then some (putO 33 (findV own x.num).num (confL (findV own x.num).likes (mOf own x).1)) else none
theorem putO_34 {x : Fe} (h : putE 34 x.num x.likes = 0) : (putO 34 x.num x.likes).1 = 34 ∧ (putO 34 x.num x.likes).2.data.toList = bytesF x.num x.likes := by
  unfold putO
  rw [if_pos h]
  exact ⟨rfl, rfl⟩
theorem step_34 {own : List Fe} {x : Fe} (h : putE 34 x.num x.likes = 0) : ansStep own false (putO 34 x.num x.likes) = if (mOf own x).2 then (putE 33 (findV own x.num).num (confL (findV own x.num).likes (mOf own x).1), if putE 33 (findV own x.num).num (confL (findV own x.num).likes (mOf own x).1) = 0 then yOf own x else none) else (0, none) := by
  obtain ⟨e1, e2⟩ := putO_34 h
  obtain ⟨g1, g2, g3⟩ := get_put h
  unfold ansStep
  rw [e1, e2, if_pos ⟨g1, rfl⟩, g2, g3]
  simp only
  unfold yOf mOf
  by_cases hm : (meetV (findV own x.num).likes x.likes).2 = true
  · simp only [hm, if_true]
  · simp [hm]
theorem ans_ok (own : List Fe) : ∀ (l : List Fe) (out : List El), (∀ x ∈ l, putE 34 x.num x.likes = 0) → (ansF own false (l.map (fun x => putO 34 x.num x.likes)) out).2 = 0 →
    (∀ x ∈ l, (mOf own x).2 = true → putE 33 (findV own x.num).num (confL (findV own x.num).likes (mOf own x).1) = 0) ∧ (ansF own false (l.map (fun x => putO 34 x.num x.likes)) out).1 = out ++ l.filterMap (yOf own)
  | [], out, _, _ => by simp [ansF]
  | x :: t, out, hp, h => by
    simp only [List.map_cons, ansF] at h ⊢
    have hx := hp x (List.mem_cons_self ..)
    rw [step_34 hx] at h ⊢
    by_cases hm : (mOf own x).2 = true
    · simp only [hm, if_true] at h ⊢
      by_cases h0 : putE 33 (findV own x.num).num (confL (findV own x.num).likes (mOf own x).1) = 0
      · simp only [h0, if_true] at h ⊢
        obtain ⟨i1, i2⟩ := ans_ok own t _ (fun y hy => hp y (List.mem_cons_of_mem _ hy)) h
        refine ⟨fun y hy hym => ?_, ?_⟩
        · rcases List.mem_cons.1 hy with rfl | hy
          · exact h0
          · exact i1 y hy hym
        · rw [i2]
          have hy : ∃ z, yOf own x = some z := ⟨_, by unfold yOf; rw [if_pos hm]⟩
          obtain ⟨z, hz⟩ := hy
          simp [List.filterMap_cons, hz]
      · simp only [h0, if_false] at h
    · have hmf : (mOf own x).2 = false := by simpa using hm
      simp only [hmf, Bool.false_eq_true, if_false, if_true, Option.toList_none, List.append_nil] at h ⊢
      obtain ⟨i1, i2⟩ := ans_ok own t _ (fun y hy => hp y (List.mem_cons_of_mem _ hy)) h
      refine ⟨fun y hy hym => ?_, ?_⟩
      · rcases List.mem_cons.1 hy with rfl | hy
        · rw [hmf] at hym; cases hym
        · exact i1 y hy hym
      · have hz : yOf own x = none := by unfold yOf; rw [if_neg hm]
        rw [i2, List.filterMap_cons, hz]
theorem meet_nil (s : List Int) : meetV s [] = (0, false) := by
  unfold meetV
  rw [List.find?_eq_none.2 (by intro x _; simp)]
theorem nil_meet (c : List Int) : meetV [] c = (0, false) := rfl
theorem found {own : List Fe} {x : Fe} (h : (mOf own x).2 = true) : (findV own x.num).num = x.num := by
  unfold findV
  cases hf : own.find? (isN x.num) with
  | none =>
    unfold mOf findV at h
    rw [hf] at h
    simp only [Option.getD_none] at h
    have : meetV zeroF.likes x.likes = (0, false) := nil_meet _
    rw [this] at h
    cases h
  | some y =>
    have := List.find?_some hf
    unfold isN at this
    simpa using this
theorem agr_all (own : List Fe) (k : Int) : ∀ (l : List Fe), l.Pairwise (fun x y => x.num ≠ y.num) → (∀ x ∈ l, (mOf own x).2 = true → putE 33 (findV own x.num).num (confL (findV own x.num).likes (mOf own x).1) = 0) →
    agrF k (l.filterMap (yOf own)) = meetV (findV own k).likes (findV l k).likes
  | [], _, _ => by
    have : (findV [] k).likes = [] := rfl
    rw [this, meet_nil]
    rfl
  | x :: t, hp, hc => by
    obtain ⟨hx, ht⟩ := List.pairwise_cons.1 hp
    have ih := agr_all own k t ht (fun y hy => hc y (List.mem_cons_of_mem _ hy))
    have hfx : findV (x :: t) k = if isN k x then x else findV t k := by
      unfold findV
      rw [List.find?_cons]
      cases isN k x <;> rfl
    rw [hfx]
    by_cases hk : x.num = k
    · have hq : isN k x = true := by unfold isN; simpa using hk
      rw [hq, if_pos rfl]
      have hnone : findV t k = zeroF := by
        unfold findV
        rw [List.find?_eq_none.2 (by
          intro y hy
          have := hx y hy
          unfold isN
          simp
          omega)]
        rfl
      have hmo : mOf own x = meetV (findV own k).likes x.likes := by unfold mOf; rw [hk]
      by_cases hm : (mOf own x).2 = true
      · have hy : yOf own x = some (putO 33 (findV own x.num).num (confL (findV own x.num).likes (mOf own x).1)) := by unfold yOf; rw [if_pos hm]
        have h0 := hc x (List.mem_cons_self ..) hm
        rw [List.filterMap_cons, hy]
        simp only [agrF]
        obtain ⟨g1, g2, g3⟩ := get_put h0
        have hpo : putO 33 (findV own x.num).num (confL (findV own x.num).likes (mOf own x).1) = (33, ⟨(bytesF (findV own x.num).num (confL (findV own x.num).likes (mOf own x).1)).toArray⟩) := by unfold putO; rw [if_pos h0]
        rw [hpo]
        simp only
        rw [if_pos ⟨g1, trivial, by rw [g2, found hm, hk]⟩, g3, ← hmo]
        unfold confL
        exact Prod.ext rfl hm.symm
      · have hmf : (mOf own x).2 = false := by simpa using hm
        have hy : yOf own x = none := by unfold yOf; rw [if_neg hm]
        rw [List.filterMap_cons, hy]
        simp only
        rw [ih, hnone, ← hmo]
        have e1 : mOf own x = (0, false) := by unfold mOf at hmf ⊢; exact meet_no hmf
        rw [e1]
        exact meet_nil _
    · have hq : isN k x = false := by unfold isN; simpa using hk
      rw [hq]
      simp only [Bool.false_eq_true, if_false]
      rw [← ih]
      by_cases hm : (mOf own x).2 = true
      · have hy : yOf own x = some (putO 33 (findV own x.num).num (confL (findV own x.num).likes (mOf own x).1)) := by unfold yOf; rw [if_pos hm]
        have h0 := hc x (List.mem_cons_self ..) hm
        rw [List.filterMap_cons, hy]
        simp only [agrF]
        obtain ⟨g1, g2, g3⟩ := get_put h0
        have hpo : putO 33 (findV own x.num).num (confL (findV own x.num).likes (mOf own x).1) = (33, ⟨(bytesF (findV own x.num).num (confL (findV own x.num).likes (mOf own x).1)).toArray⟩) := by unfold putO; rw [if_pos h0]
        rw [hpo]
        simp only
        rw [if_neg (by rintro ⟨_, _, h⟩; rw [g2, found hm] at h; exact hk h)]
      · have hy : yOf own x = none := by unfold yOf; rw [if_neg hm]
        rw [List.filterMap_cons, hy]
end Go.Proofs.Ytljgmephajocaaa.Feat
