/- Both answers of Get agree. -/
import Derived.Test.YtpajedpkdfacoaaMpRGet
namespace Go.Proofs.Ytpajedpkdfacoaa.Mp
set_option linter.unusedSimpArgs false
set_option linter.unusedVariables false
open Go Go.RowKit Go.Shelf Go.Proofs.Ytpajedpkdfacoaa Go.Proofs.Ytpajedpkdfacoaa.Octets
attribute [local irreducible] Calls

theorem num_one (t : ByteArray) (h : 0 < t.size) : numV t 0 0 1 = ((t[0]).toNat : Int) ∧ numA t 0 0 1 = 1 ∧ numF t 0 0 1 = 0 := by
  obtain ⟨h1, h2, h3⟩ := num_good t 0 1 (by omega) (by omega) (by omega)
  refine ⟨?_, h2, h3⟩
  rw [show (1 : Int) = ((1 : Nat) : Int) from rfl, h1]
  have e : (t.extract 0 (0 + 1)).data.toList = [t[0]] := by
    have hd : t.data.toList = t[0] :: t.data.toList.drop 1 := by
      have := List.drop_eq_getElem_cons (l := t.data.toList) (i := 0) (by simpa using h)
      rw [List.drop_zero] at this
      exact this
    rw [ByteArray.data_extract, Array.toList_extract, List.extract_eq_take_drop]
    rw [hd]
    simp
  rw [e]
  have hb := (t[0]).toNat_lt
  simp only [ofB, List.foldl_cons, List.foldl_nil]
  rw [IntWalk.wrap64_in _ (by omega)]
  omega
theorem wid32 (d : Int) : widest d [32] 32 = 32 := by unfold widest; simp only [List.foldl_cons, List.foldl_nil]; split <;> rfl
theorem wid16 (d : Int) : widest d [8, 16] 8 = if 16 ≤ d then 16 else 8 := by
  unfold widest
  simp only [List.foldl_cons, List.foldl_nil]
  by_cases h1 : 16 ≤ d
  · rw [if_pos (show 8 ≤ d by omega), if_pos h1, if_pos h1]; rfl
  · rw [if_neg h1, if_neg h1]
    split <;> rfl
theorem get_same (k : Int) (t : ByteArray) (kd : Int) (hkd : ∀ h : 0 < t.size, kd = ((t[0]).toNat : Int)) : getV k t = rgetV k t kd := by
  unfold getV rgetV
  by_cases hk : k = 46
  · subst hk
    simp only [ne_eq, not_true_eq_false, if_false]
    by_cases h0 : t.size = 0
    · rw [if_pos h0, if_pos h0]
    · rw [if_neg h0, if_neg h0]
      obtain ⟨h1, h2, h3⟩ := num_one t (by omega)
      rw [h1, h2, h3, ← hkd (by omega)]
      clear h1 h2 h3 hkd
      rw [known_iff]
      rcases kinds_or kd with rfl | rfl | rfl | rfl | rfl | rfl | rfl | rfl | rfl | rfl | rfl | hn
      iterate 11
        · simp +decide only [fieldsO, sizesM, foldN, stepN, datR, rn6, readF, setM, zeroM, List.range, List.range.loop, List.foldl_cons, List.foldl_nil, List.getD_cons_zero, List.getD_cons_succ, List.set_cons_zero, List.set_cons_succ, wid32, wid16, if_true, if_false, List.headD_cons, ite_self]
          try rfl
      · have hf : fieldsO kd = none := by
          cases h : fieldsO kd with
          | none => rfl
          | some l =>
            have := kinds (k := kd) (by rw [h]; simp)
            exact absurd rfl (hn kd (by simp only [List.mem_cons, List.not_mem_nil, or_false]; exact this))
        rw [hf]
        rfl
  · rw [if_pos hk, if_pos hk]
theorem rget_at (k : Int) (t : ByteArray) (ht : t.size ≤ 900000000) (w : World) :
    Calls Try.prog 13 #[.agg #[.int .i64 k, .string t]] w (Ret w (.tuple #[.agg (encM (getV k t).1).toArray, .int .i64 (getV k t).2])) := by
  have hk : ∀ h : 0 < t.size, (if h : 0 < t.size then ((t[0]).toNat : Int) else 0) = ((t[0]).toNat : Int) := fun h => by rw [dif_pos h]
  rw [get_same k t _ hk]
  exact rget_any k t ht w _ hk
end Go.Proofs.Ytpajedpkdfacoaa.Mp
