/- The walk of the statement FeatMeet. -/
import Derived.Test.YtljgmephajocaaaFeatPlain
namespace Go.Proofs.Ytljgmephajocaaa.Feat
set_option linter.unusedSimpArgs false
set_option linter.unusedVariables false
open Go Go.RowKit Go.Shelf Go.Proofs.Ytljgmephajocaaa
open Go.Proofs.Ytljgmephajocaaa.Opts (El encs Few mustV mustAt must_none must_at arr_ext)
attribute [local irreducible] Calls

theorem fe_in {w : World} {cs : List Value} (h : Fits w (.cons 1 (.int .i64) (.cons 1 (.slice 1 (.int .i64)) .nil)) cs) : ∃ x : Fe, encF x = cs ∧ (x.likes.length ≤ maxLen ∧ Rd w x.a (i64s x.likes)) := by
  obtain ⟨num, l, a, cap, e, h1, h2⟩ := feat_in (x := cs.toArray) (by simpa using h)
  refine ⟨⟨num, l, a, cap⟩, ?_, h1, h2⟩
  have h3 := congrArg Array.toList e
  exact h3.symm
theorem fes_in {w : World} {a : Option Addr} {len cap : Nat} (h : Fits w (.slice 2 (.cons 1 (.int .i64) (.cons 1 (.slice 1 (.int .i64)) .nil))) [.slice a len cap]) :
    len ≤ maxLen ∧ len ≤ cap ∧ ∃ l : List Fe, l.length = len ∧ (∀ x ∈ l, x.likes.length ≤ maxLen) ∧ RdF w a l := by
  have hcap : len ≤ cap := by
    have h2 := h
    rcases h2 with h2 | ⟨x, l, c, h2, h3, _⟩
    · simp at h2; omega
    · simp at h2; omega
  obtain ⟨h1, _, l, h3, h4, h5⟩ := rows_in (size := 2) encF (by omega) encF_len (fun cs hf _ => fe_in hf) h
  exact ⟨h1, hcap, l, h3, fun x hx => (h4 x hx).1, h5, fun x hx => (h4 x hx).2⟩
def bigF (l : List Fe) : Bool := decide (30 < l.length) || l.any fun x => decide (60 < x.likes.length)
theorem bigF_no {l : List Fe} (h : bigF l = false) : l.length ≤ 30 ∧ ∀ x ∈ l, x.likes.length ≤ 60 := by
  unfold bigF at h
  simp only [Bool.or_eq_false_iff, decide_eq_false_iff_not, List.any_eq_false] at h
  exact ⟨by omega, fun o ho => by have := h.2 o ho; simp at this; omega⟩
set_option maxRecDepth 100000 in
set_option maxHeartbeats 400000 in
theorem great_any (L : List Fe) (n : Nat) (hl : L.length = n) (hn : n ≤ maxLen) (hgood : ∀ o ∈ L, o.likes.length ≤ maxLen) (a : Option Addr) (cap : Nat) (w : World) (h : RdF w a L) :
    Calls Try.prog 59 #[.slice a n cap] w (Ret w (.bool (bigF L))) := by
  unfold maxLen at hn
  replace h := Lib.hid h; replace hl := Lib.hid hl; replace hgood := Lib.hid hgood
  go_enter Try.func59, Try.ntmps59
  go_wp2_with fail
  go_loopg [3] n (fun g i wr => ∃ j : Nat, j ≤ n ∧ g = n - j ∧ i = .int .i64 j ∧ j ≤ 30 ∧ Below w.heap.size w wr ∧ Hid (∀ i (hi : i < L.length), i < j → L[i].likes.length ≤ 60))
  case atStart => exact ⟨0, by omega, by omega, rfl, by omega, (by repeat (first | with_reducible exact Below.refl _ _ | (with_reducible refine Below.al ?_) | (with_reducible refine Below.drew ?_) | (with_reducible refine Below.set ?_ (by first | (simp; done) | omega | (simp; omega))) | (with_reducible refine Below.thru ?_ (by assumption)) | (with_reducible refine Below.chg ?_ (by assumption) (by first | (simp; done) | omega | (simp; omega))))), fun i _ h => by omega⟩
  case round =>
    obtain ⟨j, hj, hg, rfl, h4, hbw, hno⟩ := hrel
    by_cases hlt : j < n
    · have hjl : j < L.length := by have := hl.out; omega
      obtain ⟨b, off, rfl, hb, _, e1⟩ := fes_at (h.out.below hbw) hjl
      have hs := hgood.out L[j] (List.getElem_mem hjl)
      unfold maxLen at hs
      have hbig : 60 < L[j].likes.length → bigF L = true := fun h => by
        unfold bigF
        rw [Bool.or_eq_true]
        exact .inr (List.any_eq_true.2 ⟨L[j], List.getElem_mem hjl, decide_eq_true h⟩)
      have hbig2 : j = 30 → bigF L = true := fun h => by
        unfold bigF
        rw [decide_eq_true (show 30 < L.length by omega)]
        rfl
      have hnx : L[j].likes.length ≤ 60 → ∀ i (hi : i < L.length), i < j + 1 → L[i].likes.length ≤ 60 := fun h i hi h1 => by
        by_cases e : i = j
        · subst e; exact h
        · exact hno.out i hi (by omega)
      clear hno
      generalize L[j] = y at *
      by_cases h60 : j = 30
      · have q : decide ((30 : Int) ≤ (j : Int)) = true := decide_eq_true (by omega)
        replace hbig2 := Lib.hid (hbig2 h60)
        clear hbig hnx h60
        go_wp2_with fail
        go_ret
        exact Ret.mk (by rw [hbig2.out]; rfl) (by repeat (first | with_reducible exact Below.refl _ _ | (with_reducible refine Below.al ?_) | (with_reducible refine Below.drew ?_) | (with_reducible refine Below.set ?_ (by first | (simp; done) | omega | (simp; omega))) | (with_reducible refine Below.thru ?_ (by assumption)) | (with_reducible refine Below.chg ?_ (by assumption) (by first | (simp; done) | omega | (simp; omega)))))
      · have q : decide ((30 : Int) ≤ (j : Int)) = false := decide_eq_false (by omega)
        by_cases hv : 60 < y.likes.length
        · have q2 : decide ((60 : Int) < (y.likes.length : Int)) = true := decide_eq_true (by omega)
          replace hbig := Lib.hid (hbig hv)
          clear hbig2 hnx h60
          go_wp2_with fail
          go_ret
          exact Ret.mk (by rw [hbig.out]; rfl) (by repeat (first | with_reducible exact Below.refl _ _ | (with_reducible refine Below.al ?_) | (with_reducible refine Below.drew ?_) | (with_reducible refine Below.set ?_ (by first | (simp; done) | omega | (simp; omega))) | (with_reducible refine Below.thru ?_ (by assumption)) | (with_reducible refine Below.chg ?_ (by assumption) (by first | (simp; done) | omega | (simp; omega)))))
        · have q2 : decide ((60 : Int) < (y.likes.length : Int)) = false := decide_eq_false (by omega)
          replace hnx := Lib.hid (hnx (by omega))
          clear hbig hbig2
          go_wp2_with fail
          go_roundg (n - (j + 1))
          case measure => omega
          case rel => exact ⟨j + 1, by omega, rfl, by go_num, by omega, (by repeat (first | with_reducible exact Below.refl _ _ | (with_reducible refine Below.al ?_) | (with_reducible refine Below.drew ?_) | (with_reducible refine Below.set ?_ (by first | (simp; done) | omega | (simp; omega))) | (with_reducible refine Below.thru ?_ (by assumption)) | (with_reducible refine Below.chg ?_ (by assumption) (by first | (simp; done) | omega | (simp; omega))))), hnx.out⟩
    · obtain rfl : j = n := by omega
      have hb : bigF L = false := by
        unfold bigF
        rw [decide_eq_false (by have := hl.out; omega), Bool.false_or, List.any_eq_false]
        intro x hx
        obtain ⟨i, hi, rfl⟩ := List.getElem_of_mem hx
        have := hno.out i hi (by have := hl.out; omega)
        simp
        omega
      replace hb := Lib.hid hb
      clear hno
      go_wp2_with fail
      go_ret
      exact Ret.mk (by rw [hb.out]; rfl) (by repeat (first | with_reducible exact Below.refl _ _ | (with_reducible refine Below.al ?_) | (with_reducible refine Below.drew ?_) | (with_reducible refine Below.set ?_ (by first | (simp; done) | omega | (simp; omega))) | (with_reducible refine Below.thru ?_ (by assumption)) | (with_reducible refine Below.chg ?_ (by assumption) (by first | (simp; done) | omega | (simp; omega)))))

theorem ask_few {m : Nat} : ∀ (l : List Fe) (out : List El), (∀ x ∈ l, x.likes.length ≤ m) → (∀ y ∈ out, isI64 y.1 ∧ y.2.size ≤ m + 1) → (∀ y ∈ (askP l out).1, isI64 y.1 ∧ y.2.size ≤ m + 1) ∧ (askP l out).1.length ≤ out.length + l.length
  | [], out, _, h => ⟨h, by simp [askP]⟩
  | x :: t, out, hl, h => by
    simp only [askP]
    split
    · rename_i h0
      have hx := hl x (List.mem_cons_self ..)
      have := ask_few t (out ++ [putO 34 x.num x.likes]) (fun y hy => hl y (List.mem_cons_of_mem _ hy)) (fun y hy => by
        rcases List.mem_append.1 hy with hy | hy
        · exact h y hy
        · obtain rfl : y = _ := by simpa using hy
          exact ⟨by rw [(putO_34 h0).1]; unfold isI64; decide, Nat.le_trans (putO_size _ _ _) (by omega)⟩)
      refine ⟨this.1, ?_⟩
      have h2 := this.2
      simp only [List.length_append, List.length_cons, List.length_nil] at h2 ⊢
      omega
    · exact ⟨by simp, by simp⟩
theorem askV_few {l : List Fe} (h : l.length ≤ 30) (h2 : ∀ x ∈ l, x.likes.length ≤ 60) : Few (askV l).1 := by
  unfold askV
  split
  · exact ⟨by simp, fun x hx => by cases hx⟩
  · have := ask_few (m := 60) l [] h2 (by simp)
    refine ⟨?_, fun y hy => ⟨(this.1 y hy).1, by have := (this.1 y hy).2; omega⟩⟩
    have h3 := this.2
    simp only [List.length_nil] at h3
    omega
theorem putO_kind (k num : Int) (l : List Int) (hk : isI64 k) : isI64 (putO k num l).1 := by
  unfold putO
  split
  · exact hk
  · unfold isI64; decide
theorem step_few {own : List Fe} (h : ∀ x ∈ own, x.likes.length ≤ 60) (mu : Bool) (o y : El) (hy : (ansStep own mu o).2 = some y) : isI64 y.1 ∧ y.2.size ≤ 100 := by
  have hf : ∀ k, (findV own k).likes.length ≤ 60 := fun k => by
    unfold findV
    cases hf : own.find? (isN k) with
    | none => simp [zeroF]
    | some x => exact h x (List.mem_of_find?_eq_some hf)
  unfold ansStep at hy
  split at hy
  · simp only at hy
    split at hy
    · simp only at hy
      split at hy
      · injection hy with hy
        subst hy
        refine ⟨putO_kind _ _ _ (by unfold isI64; decide), Nat.le_trans (putO_size _ _ _) ?_⟩
        have h1 := confL_len (findV own (getN o.1 o.2.data.toList)).likes (meetV (findV own (getN o.1 o.2.data.toList)).likes (getL o.1 o.2.data.toList)).1
        have h2 := hf (getN o.1 o.2.data.toList)
        omega
      · cases hy
    · split at hy <;> cases hy
  · cases hy
theorem ans_few {own : List Fe} (h : ∀ x ∈ own, x.likes.length ≤ 60) (mu : Bool) : ∀ (t out : List El), (∀ y ∈ out, isI64 y.1 ∧ y.2.size ≤ 100) → ∀ y ∈ (ansF own mu t out).1, isI64 y.1 ∧ y.2.size ≤ 100
  | [], out, ho => ho
  | o :: t, out, ho => by
    simp only [ansF]
    split
    · refine ans_few h mu t _ fun y hy => ?_
      rcases List.mem_append.1 hy with hy | hy
      · exact ho y hy
      · exact step_few h mu o y (by simpa using hy)
    · intro y hy; cases hy
theorem ansV_few {own : List Fe} {A : List El} (h : ∀ x ∈ own, x.likes.length ≤ 60) (hA : A.length ≤ 3000) : Few (ansV own A).1 := by
  have h1 := ans_few h (mustV A 34) A [] (by simp)
  have h2 := ansF_len own (mustV A 34) A []
  exact ⟨by unfold ansV; simp only [List.length_nil] at h2; omega, fun y hy => ⟨(h1 y hy).1, by have := (h1 y hy).2; omega⟩⟩
theorem must_34 {l : List Fe} (h : ∀ x ∈ l, putE 34 x.num x.likes = 0) : mustV (l.map (fun x => putO 34 x.num x.likes)) 34 = false := by
  apply must_none
  intro i hi
  by_cases h0 : 0 < i
  · rw [must_at hi h0]
    have hi1 : i - 1 < (l.map (fun x => putO 34 x.num x.likes)).length := by omega
    have : (l.map (fun x => putO 34 x.num x.likes))[i - 1].1 = 34 := by
      rw [List.getElem_map]
      exact (putO_34 (h _ (List.getElem_mem _))).1
    rw [this]
    simp
  · obtain rfl : i = 0 := by omega
    simp [mustAt]
/-- Both like it. -/
theorem both_like {l own : List Fe} {k : Int} (h1 : (askV l).2 = 0) (h2 : (ansV own (askV l).1).2 = 0) : agrF k (ansV own (askV l).1).1 = meetV (findV own k).likes (lastV l k).likes := by
  unfold askV at *
  cases ht : (List.range l.length).any (twiceAt l) with
  | true => rw [ht] at h1; cases h1
  | false =>
    have ht2 := ht
    simp only [ht, Bool.false_eq_true, if_false] at h1 h2 ⊢
    have hno : ∀ i, i < l.length → twiceAt l i = false := fun i hi => by
      have := List.any_eq_false.1 ht2 i (List.mem_range.2 hi)
      simpa using this
    obtain ⟨hp, hA⟩ := ask_ok l [] h1
    rw [hA, List.nil_append] at h2 ⊢
    unfold ansV at *
    rw [must_34 hp] at h2 ⊢
    obtain ⟨hc, hC⟩ := ans_ok own l [] hp h2
    rw [hC, List.nil_append, agr_all own k l (apart hno) hc]
    have := last_eq (k := k) hno l.length (Nat.le_refl _)
    rw [List.take_length] at this
    rw [this]
end Go.Proofs.Ytljgmephajocaaa.Feat
