/- A drawn region of which what is left only reads, calls included, among the worlds that are as the world at hand was. -/
import Derived.Test.YtpajedpkdfacoaaMadeT
namespace Go.Proofs.Ytpajedpkdfacoaa
set_option linter.unusedSimpArgs false
set_option linter.unusedVariables false
open Go Go.RowKit
section
variable {P : Program} {md : Region.Mode} {ops : Array Oper} {Q : Exit → Act → World → Prop} {S C : World → Prop}

/-- The next f operations each quiet in C, in whatever order; behind them L. -/
def headAll (P : Program) (md : Region.Mode) (ops : Array Oper) (C : World → Prop) (L : Array Bool → Act → Prop) : Nat → Array Bool → Act → Prop
  | 0, listed, a => L listed a
  | f + 1, listed, a => Region.ready md ops listed ≠ [] ∧ ∀ i ∈ Region.ready md ops listed, qOp P ops C i (headAll P md ops C L f (listed.setIfInBounds i true)) a
theorem headAll_sound {L : Array Bool → Act → Prop} (hCS : ∀ w, C w → S w) (hL : ∀ listed a w, C w → L listed a → wpAnyH P md ops Q S 0 listed a w) :
    ∀ (f : Nat) (listed : Array Bool) (a : Act) (w : World), C w → headAll P md ops C L f listed a → wpAnyH P md ops Q S f listed a w
  | 0, _, _, _, hw, h => hL _ _ _ hw h
  | f + 1, _, _, _, hw, h => ⟨fun h0 => absurd h0 h.1, fun i hi => wpOp_of_qOp hw (fun a' w' hw' h' => ⟨hCS w' hw', headAll_sound hCS hL f _ a' w' hw' h'⟩) (h.2 i hi)⟩
theorem headAll_first {i : Nat} {oi : Oper} {v : Value} {L : Array Bool → Act → Prop} (hi : ops[i]? = some oi) (hs : Region.noSelect ops = true)
    (hdone : ∀ listed a, L listed a → Region.ready md ops listed = []) (f : Nat) :
    ∀ (listed : Array Bool) (a : Act),
      (∀ j oj, ops[j]? = some oj → j ≠ i → listed.getD j true = false → (∀ e ∈ oj.after, Region.binds md e = true → e.on ≠ i) → oi.apart ops oj = true) →
      i ∈ Region.ready md ops listed → YieldsIn P ops C oi v a →
      headAll P md ops C L f (listed.setIfInBounds i true) (a.put oi.dst v) → headAll P md ops C L (f + 1) listed a := by
  induction f with
  | zero =>
    intro listed a _ hr hy H
    refine ⟨fun h => (by rw [h] at hr; cases hr), fun j hj => ?_⟩
    by_cases hji : j = i
    · subst hji; exact hy.qOp hi H
    · have := ready_mono hj hji
      rw [hdone _ _ H] at this
      cases this
  | succ f ih =>
    intro listed a hfree hr hy H
    refine ⟨fun h => (by rw [h] at hr; cases hr), fun j hj => ?_⟩
    by_cases hji : j = i
    · subst hji; exact hy.qOp hi H
    · obtain ⟨hjun, oj, hoj, hall⟩ := mem_ready.1 hj
      have hnot : ∀ e ∈ oj.after, Region.binds md e = true → e.on ≠ i := fun e he hb heq => by
        have h1 := hall e he hb
        rw [heq, getD_both (mem_ready.1 hr).1] at h1
        cases h1
      refine qOp_mono (fun a' h3 => ?_) (qOp_put hoj (hfree j oj hoj hji hjun hnot) (fun cs b => Region.noSelect_spec hs i oi cs b hi) (fun cs b => Region.noSelect_spec hs j oj cs b hoj) hy (H.2 j (ready_mono hj hji)))
      refine ih (listed.setIfInBounds j true) a' (fun k ok hk hki hun hno => ?_) (ready_mono hr (Ne.symm hji)) h3.1 ?_
      · refine hfree k ok hk hki ?_ hno
        by_cases hjk : j = k
        · subst hjk; exact hjun
        · rw [getD_set_ne true hjk] at hun; exact hun
      · rw [Array.setIfInBounds_comm _ _ hji]
        exact h3.2
theorem headAll_list {K : Act → Prop} {L' : Array Bool} (hs : Region.noSelect ops = true) (he : Region.ready md ops L' = []) :
    ∀ (os : List Nat) (lo : List Oper) (listed : Array Bool) (a : Act), os.map (fun k => ops[k]?) = lo.map some → Region.quietB md ops os listed = true → setAll os listed = L' → wpQuiet P ops C K lo a →
    headAll P md ops C (fun listed' a' => Region.ready md ops listed' = [] ∧ K a') os.length listed a
  | [], [], listed, a, _, _, hL, h => ⟨by rw [show listed = L' from hL]; exact he, h⟩
  | k :: os, o :: lo, listed, a, hl, hB, hL, h => by
    simp only [List.map_cons, List.cons.injEq] at hl
    simp only [Region.quietB, Bool.and_eq_true] at hB
    have hst : qOp P ops C k (wpQuiet P ops C K lo) a := by unfold qOp; simp only [hl.1]; exact h
    obtain ⟨v, hy, hK⟩ := yieldsIn_of_qOp hl.1 hst
    exact headAll_first hl.1 hs (fun _ _ h => h.1) os.length listed a (Region.free_spec hl.1 hB.1.2) (by simpa using hB.1.1) hy (headAll_list hs he os lo _ _ hl.2 hB.2 hL hK)
  | [], _ :: _, _, _, hl, _, _, _ => by simp at hl
  | _ :: _, [], _, _, hl, _, _, _ => by simp at hl
end
section
variable {P : Program} {Q : Exit → Act → World → Prop} {W w : World} {S0 : Nat → Prop} {l : List Asn}
/-- What is left only reads. -/
theorem held_near {a : Act} {ops : List Oper} {f : Nat} {listed listed' : Array Bool} (H : St W S0 w l) (os : List Nat) (m : List Bool) (hf : os.length = f)
    (hl : os.map (fun k => ops.toArray[k]?) = (pickB m ops).map some) (hs : Region.noSelect ops.toArray = true) (hB : Region.quietB .any ops.toArray os listed = true) (hd : setAll os listed = listed') (he : Region.ready .any ops.toArray listed' = [])
    (h : (∀ (s : Near w.heap.size w) b o, b < w.heap.size → s.it.cell? ⟨b, o, none⟩ = w.cell? ⟨b, o, none⟩) →
      wpQuiet P ops.toArray (fun w' => ∃ s : Near w.heap.size w, w' = s.it) (fun a' => ∀ w', Below w.heap.size w w' → Q .normal a' w') (pickB m ops) a) : wpAnyH P .any ops.toArray Q (fun w' => St W S0 w' l) f listed a w := by
  subst hf
  refine headAll_sound (C := fun w' => ∃ s : Near w.heap.size w, w' = s.it) (L := fun listed' a' => Region.ready .any ops.toArray listed' = [] ∧ ∀ w', Below w.heap.size w w' → Q .normal a' w') ?_ ?_ _ _ _ _ ⟨⟨w, Below.refl _ _⟩, rfl⟩ (headAll_list hs he os (pickB m ops) listed a hl hB hd (h (near_cells _ _)))
  · rintro w' ⟨s, rfl⟩
    exact H.thru s.near
  · rintro listed' a' w' ⟨s, rfl⟩ h
    exact ⟨h.1, h.2 _ s.near⟩
end
end Go.Proofs.Ytpajedpkdfacoaa
