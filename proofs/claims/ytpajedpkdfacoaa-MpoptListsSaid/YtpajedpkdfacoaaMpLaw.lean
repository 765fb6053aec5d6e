/- Options of several paths: what is put is as the document says; what is put is got. -/
import Derived.Test.YtpajedpkdfacoaaMpRPut
namespace Go.Proofs.Ytpajedpkdfacoaa.Mp
set_option linter.unusedSimpArgs false
set_option linter.unusedVariables false
open Go Go.RowKit Go.Shelf Go.Proofs.Ytpajedpkdfacoaa Go.Proofs.Ytpajedpkdfacoaa.Octets

theorem catB_nil (t : ByteArray) : catB t [] = t := by
  apply ByteArray.ext
  simp [catB]
theorem app_nil {t d : ByteArray} (h : d.size = 0) : t ++ d = t := by
  apply ByteArray.ext
  rw [ByteArray.data_append]
  have : d.data.toList.length = 0 := by simpa using h
  have h2 := List.eq_nil_of_length_eq_zero this
  apply Array.toList_inj.1
  rw [Array.toList_append, h2, List.append_nil]
theorem rcheck_dat {m : Mu} (h : rcheckM m = 0) (hz : (sizesM m.kind).getD 6 0 = 0) : m.dat.size = 0 := by
  unfold rcheckM at h
  simp only [hz] at h
  repeat' split at h
  all_goals first | cases h | skip
  rename_i h1 h2 h3 h4 h5
  exact Decidable.not_not.1 fun h6 => h5 ⟨trivial, h6⟩
theorem text_same (m : Mu) (l : List Fd) (hf : fieldsO m.kind = some l) (hc : rcheckM m = 0) : textM m l = rtextM m := by
  have hk := kinds (k := m.kind) (by rw [hf]; simp)
  have hd := rcheck_dat hc
  obtain ⟨kind, addr, prio, num, token, nonce, dat⟩ := m
  simp only at hf hk hd
  clear hc
  unfold textM rtextM
  generalize hg : catB (⟨#[]⟩ : ByteArray) (putB (Mu.kind ⟨kind, addr, prio, num, token, nonce, dat⟩) 1) = t0
  clear hg
  rcases hk with rfl | rfl | rfl | rfl | rfl | rfl | rfl | rfl | rfl | rfl | rfl <;>
  · simp +decide only [fieldsO, if_true, if_false, reduceIte, Option.some.injEq] at hf
    subst hf
    have e0 : ∀ (t : ByteArray) (n : Int), addP t (0, n) = t := fun t n => catB_nil t
    simp +decide only [sizesM, if_true, if_false, reduceIte] at hd ⊢
    simp only [numsM, List.zip_cons_cons, List.zip_nil_right, List.foldl_cons, List.foldl_nil, e0]
    first | rfl | exact (app_nil (hd trivial)).symm | exact (app_nil (hd rfl)).symm
theorem put_same (m : Mu) : putV m = rputV m := by
  unfold putV rputV
  rw [check_same]
  cases hf : fieldsO m.kind with
  | none =>
    have : rcheckM m = 7 := by rw [← check_same]; unfold checkM; rw [hf]
    simp only [this]
    rfl
  | some l =>
    simp only []
    by_cases hc : rcheckM m = 0
    · rw [if_pos hc, if_pos hc, text_same m l hf hc]
    · rw [if_neg hc, if_neg hc]
end Go.Proofs.Ytpajedpkdfacoaa.Mp
