/- What is written is read as it was: in plain Lean. -/
import Derived.Test.YtkphbgicffhceaaDoorWordJoin
namespace Go.Proofs.YtkphbgicffhceaaDoor.Words
set_option linter.unusedSimpArgs false
set_option linter.unusedVariables false
open Go Go.RowKit Go.Proofs.YtkphbgicffhceaaDoor

theorem dec_step {u : Nat} (h : ¬ u < 10) : Lib.decDigits u = Lib.decDigits (u / 10) ++ [UInt8.ofNat (48 + u % 10)] := by rw [Lib.decDigits, dif_neg h]
theorem dig_byte {d : Nat} (h : d < 10) : (UInt8.ofNat (48 + d)).toNat = 48 + d := by rw [UInt8.toNat_ofNat']; exact Nat.mod_eq_of_lt (by omega)
theorem numF_one {d : Nat} (h : d < 10) (n : Int) : numF [UInt8.ofNat (48 + d)] n = some (10 * n + d) := by
  have hb : badD (UInt8.ofNat (48 + d)) = false := by unfold badD; rw [dig_byte h]; simp; omega
  simp only [numF]
  rw [if_neg (by rw [hb]; decide), dig_byte h]
  congr 1
  omega
theorem numF_dec : ∀ (k u : Nat), u < 10 ^ (k + 1) → numF (Lib.decDigits u) 0 = some (u : Int) ∧ (Lib.decDigits u).length ≤ k + 1 ∧ (0 < u → ∀ x, (Lib.decDigits u).head? = some x → x ≠ 48) ∧ Lib.decDigits u ≠ []
  | 0, u, h => by
    have h10 : u < 10 := by simpa using h
    rw [Lib.decDigits_one h10]
    refine ⟨by rw [numF_one h10]; simp, by simp, ?_, by simp⟩
    intro h0 x hx
    obtain rfl := Option.some.inj hx
    intro e
    have := congrArg UInt8.toNat e
    rw [dig_byte h10] at this
    have h48 : (48 : UInt8).toNat = 48 := rfl
    omega
  | k + 1, u, h => by
    by_cases h10 : u < 10
    · obtain ⟨a, b, c, d⟩ := numF_dec 0 u (by simpa using h10)
      exact ⟨a, by omega, c, d⟩
    · have hdiv : u / 10 < 10 ^ (k + 1) := by
        rw [Nat.pow_succ] at h
        exact Nat.div_lt_of_lt_mul (by rw [Nat.mul_comm]; exact h)
      obtain ⟨a, b, c, d⟩ := numF_dec k (u / 10) hdiv
      rw [dec_step h10]
      refine ⟨?_, ?_, ?_, by simp⟩
      · rw [numF_app, a]
        simp only [Option.bind_some]
        rw [numF_one (Nat.mod_lt _ (by omega))]
        congr 1
        omega
      · simp only [List.length_append, List.length_cons, List.length_nil]; omega
      · intro _ x hx
        cases hl : Lib.decDigits (u / 10) with
        | nil => exact absurd hl d
        | cons y t =>
          rw [hl] at hx
          refine c (by omega) x ?_
          rw [hl]
          exact hx
theorem num_back {u : Nat} (h : u < 1000000000000000) : numV (Lib.itoa (u : Int)) = ((u : Int), true) := by
  rw [Lib.itoa_nonneg]
  obtain ⟨a, b, c, d⟩ := numF_dec 14 u (by omega)
  unfold numV
  rw [if_neg ?_, a]
  · rfl
  · rintro (h1 | h1 | h1)
    · exact d (List.eq_nil_of_length_eq_zero (by omega))
    · omega
    · unfold leadZ at h1
      simp only [Bool.and_eq_true, decide_eq_true_eq] at h1
      by_cases h0 : 0 < u
      · exact c h0 48 h1.1 rfl
      · obtain rfl : u = 0 := by omega
        rw [Lib.decDigits_one (by omega)] at h1
        simp at h1
theorem digU_nat {n : Nat} (h : n < 16) : (digU n).toNat = digN n := by
  unfold digU
  rw [UInt8.toNat_ofNat', Nat.mod_eq_of_lt (by unfold digN; split <;> omega)]
theorem hex_back : ∀ l : List UInt8, bytesF (hexL l) = some l
  | [] => rfl
  | b :: l => by
    have hb := b.toNat_lt
    show bytesF (digU (b.toNat / 16) :: digU (b.toNat % 16) :: hexL l) = _
    simp only [bytesF]
    rw [digU_nat (by omega), digU_nat (by omega), dig_hv (by omega), dig_hv (by omega), hex_back l]
    simp only [Option.map_some, Option.some.injEq, List.cons.injEq, and_true]
    rw [show 16 * (b.toNat / 16) + b.toNat % 16 = b.toNat by omega]
    exact UInt8.ofNat_toNat
theorem bytes_back (l : List UInt8) : bytesV (hexS l) = (l, true) := by
  unfold bytesV hexS
  by_cases h0 : l = []
  · rw [if_pos h0, if_pos rfl, h0]
  · have hlen := hex_len l
    have hl : 0 < l.length := List.length_pos_iff.2 h0
    rw [if_neg h0, if_neg ?_, if_neg ?_, hex_back]
    · rfl
    · rintro (h | h)
      · rw [h] at hlen; simp at hlen; omega
      · omega
    · intro h
      rw [h] at hlen
      simp at hlen
      omega
/-- How many bytes are no blanks. -/
def solid (l : List UInt8) : Nat := (l.filter (· != 32)).length
def sumL (o : List (List UInt8)) : Nat := (o.map List.length).sum
theorem sum_app (a b : List (List UInt8)) : sumL (a ++ b) = sumL a + sumL b := by simp [sumL]
theorem fold_solid : ∀ (l : List UInt8) (st : List (List UInt8) × List UInt8), sumL (l.foldl fStep st).1 + (l.foldl fStep st).2.length = sumL st.1 + st.2.length + solid l
  | [], st => by simp [solid]
  | b :: l, st => by
    rw [List.foldl_cons, fold_solid l]
    have h : sumL (fStep st b).1 + (fStep st b).2.length = sumL st.1 + st.2.length + (if b = 32 then 0 else 1) := by
      unfold fStep
      by_cases hb : b = 32
      · rw [if_pos hb, if_pos hb]
        split
        · rename_i h; rw [h]; simp
        · rw [sum_app]; simp [sumL]
      · rw [if_neg hb, if_neg hb]
        simp only [List.length_append, List.length_cons, List.length_nil]
        omega
    rw [h]
    unfold solid
    by_cases hb : b = 32
    · rw [if_pos hb, List.filter_cons_of_neg (by simp [hb])]
      omega
    · rw [if_neg hb, List.filter_cons_of_pos (by simp [hb]), List.length_cons]
      omega
theorem fields_sum (l : List UInt8) : sumL (fieldsL l) = solid l := by
  have h := fold_solid l ([], [])
  unfold fieldsL fEnd
  unfold fFold
  split
  · rename_i h0
    rw [h0] at h
    simpa [sumL] using h
  · rw [sum_app]
    simpa [sumL] using h
theorem word_good {x : List UInt8} (h : fieldsL x = [x]) : x ≠ [] ∧ ∀ b ∈ x, b ≠ 32 := by
  refine ⟨fun e => (by subst e; cases h), fun b hb e => ?_⟩
  have h1 := fields_sum x
  rw [h] at h1
  simp only [sumL, List.map_cons, List.map_nil, List.sum_cons, List.sum_nil, Nat.add_zero] at h1
  unfold solid at h1
  have h2 := (List.filter_sublist (p := (· != 32)) (l := x)).eq_of_length h1.symm
  have h3 := List.filter_eq_self.1 h2 b hb
  rw [e] at h3
  exact absurd h3 (by decide)
theorem fold_join : ∀ (n : Nat) (l : List ByteArray) (x : ByteArray), l.length = n → (∀ y ∈ l ++ [x], fieldsL y.data.toList = [y.data.toList]) → fFold (joinL (l ++ [x])) = (l.map (·.data.toList), x.data.toList)
  | 0, l, x, hn, h => by
    obtain rfl := List.eq_nil_of_length_eq_zero hn
    rw [join_snoc, if_pos rfl]
    obtain ⟨_, h2⟩ := word_good (h x (by simp))
    unfold fFold
    rw [fold_more _ _ _ h2]
    rfl
  | n + 1, l, x, hn, h => by
    have hl : l ≠ [] := by intro e; rw [e] at hn; simp at hn
    obtain ⟨l', y, rfl⟩ : ∃ l' y, l = l' ++ [y] := ⟨l.dropLast, l.getLast hl, (List.dropLast_concat_getLast hl).symm⟩
    have ih := fold_join n l' y (by simpa using hn) fun z hz => h z (List.mem_append_left _ hz)
    rw [join_snoc, if_neg hl]
    obtain ⟨hy, _⟩ := word_good (h y (by simp))
    obtain ⟨_, hx⟩ := word_good (h x (by simp))
    unfold fFold at ih ⊢
    rw [List.foldl_append, List.foldl_append, ih]
    have hs : [32].foldl fStep (l'.map (·.data.toList), y.data.toList) = ((l' ++ [y]).map (·.data.toList), []) := by
      simp only [List.foldl_cons, List.foldl_nil, fStep, if_true, if_neg hy, List.map_append, List.map_cons, List.map_nil]
    rw [hs, fold_more _ _ _ hx]
    rfl
theorem fields_back (l : List ByteArray) (h : ∀ y ∈ l, fieldsL y.data.toList = [y.data.toList]) : fieldsL (joinL l) = l.map (·.data.toList) := by
  by_cases hl : l = []
  · subst hl; rfl
  · obtain ⟨l', y, rfl⟩ : ∃ l' y, l = l' ++ [y] := ⟨l.dropLast, l.getLast hl, (List.dropLast_concat_getLast hl).symm⟩
    unfold fieldsL
    rw [fold_join _ l' y rfl h]
    unfold fEnd
    rw [if_neg (word_good (h y (by simp))).1]
    simp
end Go.Proofs.YtkphbgicffhceaaDoor.Words
