/- Drawn regions that make memory, and end in one operation that waits for all others (a store into what was there). -/
import Derived.Test.YtpajedpkdfacoaaMade
namespace Go.Proofs.Ytpajedpkdfacoaa
set_option linter.unusedSimpArgs false
set_option linter.unusedVariables false
open Go Go.RowKit
section
variable {P : Program} {md : Region.Mode} {ops : Array Oper} {Q : Exit → Act → World → Prop} {S C : World → Prop} {t : Nat}

/-- Whatever order is picked, S holds behind each operation up to the last one, t. -/
def wpTo (P : Program) (md : Region.Mode) (ops : Array Oper) (Q : Exit → Act → World → Prop) (S : World → Prop) (t : Nat) : Nat → Array Bool → Act → World → Prop
  | 0, listed, a, w => Region.ready md ops listed = [t] ∧ Region.ready md ops (listed.setIfInBounds t true) = [] ∧ wpOp P ops Q t (Q .normal) a w
  | f + 1, listed, a, w => Region.ready md ops listed ≠ [] ∧ ∀ i ∈ Region.ready md ops listed, wpOp P ops Q i (fun a' w' => S w' ∧ wpTo P md ops Q S t f (listed.setIfInBounds i true) a' w') a w
theorem wpAny_of_to : ∀ (f : Nat) (listed : Array Bool) (a : Act) (w : World), wpTo P md ops Q S t f listed a w → wpAny P md ops Q (f + 1) listed a w
  | 0, _, _, _, ⟨h1, h2, h3⟩ => ⟨fun h => (by rw [h1] at h; cases h), fun i hi => by
      rw [h1] at hi
      obtain rfl : i = t := by simpa using hi
      exact wpOp_mono (fun a' w' h' => ⟨h2, h'⟩) h3⟩
  | f + 1, _, _, _, h => ⟨fun h0 => absurd h0 h.1, fun i hi => wpOp_mono (fun a' w' h' => wpAny_of_to f _ a' w' h'.2) (h.2 i hi)⟩

theorem wpTo_first {i : Nat} {oi : Oper} {v : Value} (hi : ops[i]? = some oi) (hs : Region.noSelect ops = true)
    (ht : ∀ listed, t ∈ Region.ready md ops listed → i ∈ Region.ready md ops listed → i = t) (hit : i ≠ t)
    (hQ : ∀ c a w, Q (.panic c) (a.put oi.dst v) w → Q (.panic c) a w) :
    ∀ (fuel : Nat) (listed : Array Bool) (a : Act) (w : World),
      (∀ j oj, ops[j]? = some oj → j ≠ i → listed.getD j true = false → (∀ e ∈ oj.after, Region.binds md e = true → e.on ≠ i) → oi.apart ops oj = true) →
      i ∈ Region.ready md ops listed → YieldsIf P ops S oi v a → S w →
      wpTo P md ops Q S t fuel (listed.setIfInBounds i true) (a.put oi.dst v) w → wpTo P md ops Q S t (fuel + 1) listed a w := by
  intro fuel
  induction fuel with
  | zero =>
    intro listed a w _ hr hy hS H
    refine ⟨fun h => (by rw [h] at hr; cases hr), fun j hj => ?_⟩
    by_cases hji : j = i
    · subst hji; exact hy.wpOp hi hS ⟨hS, H⟩
    · have := ready_mono hj hji
      rw [H.1] at this
      obtain rfl : j = t := by simpa using this
      exact absurd (ht listed hj hr) hit
  | succ fuel ih =>
    intro listed a w hfree hr hy hS H
    refine ⟨fun h => (by rw [h] at hr; cases hr), fun j hj => ?_⟩
    by_cases hji : j = i
    · subst hji; exact hy.wpOp hi hS ⟨hS, H⟩
    · have h1 := H.2 j (ready_mono hj hji)
      obtain ⟨hjun, oj, hoj, hall⟩ := mem_ready.1 hj
      have hnot : ∀ e ∈ oj.after, Region.binds md e = true → e.on ≠ i := fun e he hb heq => by
        have h1 := hall e he hb
        have h0 := (mem_ready.1 hr).1
        rw [heq] at h1
        rcases Nat.lt_or_ge i listed.size with h' | h'
        · simp [h'] at h0 h1; rw [h0] at h1; cases h1
        · simp [Array.getElem?_eq_none h'] at h1
      have h2 := wpOp_putIf hoj (hfree j oj hoj hji hjun hnot) (fun cs b => Region.noSelect_spec hs i oi cs b hi) (fun cs b => Region.noSelect_spec hs j oj cs b hoj) hQ hy h1
      have hfree' : ∀ k ok, ops[k]? = some ok → k ≠ i → (listed.setIfInBounds j true).getD k true = false →
          (∀ e ∈ ok.after, Region.binds md e = true → e.on ≠ i) → oi.apart ops ok = true := fun k ok hk hki hun hno => by
        refine hfree k ok hk hki ?_ hno
        by_cases hjk : j = k
        · subst hjk; exact hjun
        · rw [getD_set_ne true hjk] at hun; exact hun
      refine wpOp_mono (fun a' w' h3 => ⟨h3.2.1, ih (listed.setIfInBounds j true) a' w' hfree' (ready_mono hr (Ne.symm hji)) h3.1 h3.2.1 ?_⟩) h2
      rw [Array.setIfInBounds_comm _ _ hji]
      exact h3.2.2

/-- t waits for each of these. -/
def Region.lastB (md : Region.Mode) (ops : Array Oper) (t : Nat) (os : List Nat) : Bool := os.all fun i => decide (i ≠ t) && Region.waitsFor md ops t i
theorem last_spec {i : Nat} (h : Region.waitsFor md ops t i = true) (listed : Array Bool) (h1 : t ∈ Region.ready md ops listed) (h2 : i ∈ Region.ready md ops listed) : i = t := by
  exfalso
  obtain ⟨ot, hot, e, he, hb, hon⟩ := Region.waitsFor_spec h
  obtain ⟨_, ot', hot', hall⟩ := mem_ready.1 h1
  obtain rfl : ot' = ot := Option.some.inj (hot'.symm.trans hot)
  have h3 := hall e he hb
  rw [hon] at h3
  have h0 := (mem_ready.1 h2).1
  rcases Nat.lt_or_ge i listed.size with h' | h'
  · simp [h'] at h0 h3; rw [h0] at h3; cases h3
  · simp [Array.getElem?_eq_none h'] at h3

theorem to_quiet (hs : Region.noSelect ops = true) (hSC : ∀ w, S w → C w) (hQ : ∀ c a a' w, a.defers = a'.defers → Q (.panic c) a w → Q (.panic c) a' w) {f : Nat} {w : World} (hS : S w) :
    ∀ (os : List Nat) (lo : List Oper) (listed : Array Bool) (a : Act), os.map (fun k => ops[k]?) = lo.map some → lo.all calmB = true → Region.quietB md ops os listed = true → Region.lastB md ops t os = true →
      wpQuiet P ops C (fun a' => wpTo P md ops Q S t f (setAll os listed) a' w) lo a → wpTo P md ops Q S t (f + os.length) listed a w
  | [], [], listed, a, _, _, _, _, h => h
  | k :: os, o :: lo, listed, a, hl, hc, hB, hL, h => by
    simp only [List.map_cons, List.cons.injEq] at hl
    simp only [List.all_cons, Bool.and_eq_true] at hc
    simp only [Region.quietB, Bool.and_eq_true] at hB
    have hL' : (decide (k ≠ t) && Region.waitsFor md ops t k) = true ∧ Region.lastB md ops t os = true := by
      unfold Region.lastB at hL ⊢
      rwa [List.all_cons, Bool.and_eq_true] at hL
    obtain ⟨hL1, hL2⟩ := hL'
    rw [Bool.and_eq_true, decide_eq_true_eq] at hL1
    have hst : qOp P ops C k (wpQuiet P ops C (fun a' => wpTo P md ops Q S t f (setAll (k :: os) listed) a' w) lo) a := by
      unfold qOp; simp only [hl.1]; exact h
    obtain ⟨v, hy, hK⟩ := yieldsIn_of_qOp hl.1 hst
    exact wpTo_first hl.1 hs (last_spec hL1.2) hL1.1 (fun c a w hq => hQ c _ _ w (by cases o.dst <;> rfl) hq) _ listed a w (Region.free_spec hl.1 hB.1.2) (by simpa using hB.1.1) (yieldsIf_of_in hc.1 hSC hy) hS
      (to_quiet hs hSC hQ hS os lo _ _ hl.2 hc.2 hB.2 hL2 hK)
  | [], _ :: _, _, _, hl, _, _, _, _ => by simp at hl
  | _ :: _, [], _, _, hl, _, _, _, _ => by simp at hl

theorem to_one {l : List Oper} {i f : Nat} {listed : Array Bool} {a : Act} {w : World} (hr : Region.ready md l.toArray listed = [i])
    (h : ∀ K : Act → World → Prop, (∀ a' w', S w' → wpTo P md l.toArray Q S t f (listed.setIfInBounds i true) a' w' → K a' w') → wpList P l.toArray (Exit.then K Q) ((l.drop i).take 1) a w) : wpTo P md l.toArray Q S t (f + 1) listed a w :=
  ⟨by rw [hr]; simp, fun j hj => by
    rw [hr] at hj
    obtain rfl : j = i := by simpa using hj
    exact wpOp_of_at (h _ fun a' w' h1 h2 => ⟨h1, h2⟩)⟩
theorem to_two {l : List Oper} {i j f : Nat} {listed : Array Bool} {a : Act} {w : World} (hr : Region.ready md l.toArray listed = [i, j])
    (h1 : ∀ K : Act → World → Prop, (∀ a' w', S w' → wpTo P md l.toArray Q S t f (listed.setIfInBounds i true) a' w' → K a' w') → wpList P l.toArray (Exit.then K Q) ((l.drop i).take 1) a w)
    (h2 : ∀ K : Act → World → Prop, (∀ a' w', S w' → wpTo P md l.toArray Q S t f (listed.setIfInBounds j true) a' w' → K a' w') → wpList P l.toArray (Exit.then K Q) ((l.drop j).take 1) a w) : wpTo P md l.toArray Q S t (f + 1) listed a w :=
  ⟨by rw [hr]; simp, fun k hk => by
    rw [hr] at hk
    by_cases e : k = i
    · subst e
      exact wpOp_of_at (h1 _ fun a' w' h1 h2 => ⟨h1, h2⟩)
    · obtain rfl : k = j := by simp at hk; omega
      exact wpOp_of_at (h2 _ fun a' w' h1 h2 => ⟨h1, h2⟩)⟩
theorem to_last {l : List Oper} {listed : Array Bool} {a : Act} {w : World} (hr : Region.ready md l.toArray listed = [t]) (hr2 : Region.ready md l.toArray (listed.setIfInBounds t true) = []) (h : ∀ K : Act → World → Prop, (∀ a' w', Q .normal a' w' → K a' w') → wpList P l.toArray (Exit.then K Q) ((l.drop t).take 1) a w) : wpTo P md l.toArray Q S t 0 listed a w :=
  ⟨hr, hr2, wpOp_of_at (h _ fun _ _ h => h)⟩

theorem wp_region_to {id : Nat} {a : Act} {w : World} {l : List Oper} (t : Nat) (os : List Nat) (m : List Bool) (f : Nat) (listed : Array Bool) (hm : P.follows .mixedOrders = true)
    (hl : os.map (fun k => l.toArray[k]?) = (pickB m l).map some) (hc : (pickB m l).all calmB = true) (hs : Region.noSelect l.toArray = true) (hf : f + os.length + 1 = l.length)
    (hB : (Region.quietB .any l.toArray os (Array.replicate l.length false) && Region.lastB .any l.toArray t os) = true) (hd : setAll os (Array.replicate l.length false) = listed)
    (hQ : ∀ c a a' w, a.defers = a'.defers → Q (.panic c) a w → Q (.panic c) a' w)
    (h : (∀ (s : Near w.heap.size w) b o, b < w.heap.size → s.it.cell? ⟨b, o, none⟩ = w.cell? ⟨b, o, none⟩) →
      wpQuiet P l.toArray (fun w' => ∃ s : Near w.heap.size w, w' = s.it) (fun a' => ∀ W, W = w → wpTo P .any l.toArray Q (Below W.heap.size W) t f listed a' W.drew) (pickB m l) a) : (Code.region id l.toArray true).wp P Q a w := by
  refine wp_region_any hm ?_
  subst hd
  rw [Bool.and_eq_true] at hB
  have H := to_quiet (P := P) (md := .any) (ops := l.toArray) (Q := Q) (t := t) (S := Below w.heap.size w) (C := fun w' => ∃ s : Near w.heap.size w, w' = s.it) (f := f) (w := w.drew) hs (fun w' hw' => ⟨⟨w', hw'⟩, rfl⟩) hQ (Below.refl _ _).drew os (pickB m l) _ a hl hc hB.1 hB.2
    (quiet_mono' _ _ _ _ (fun _ h => h w rfl) (h (near_cells _ _)))
  have := wpAny_of_to _ _ _ _ H
  rw [hf] at this
  simpa using this
end
section
variable {P : Program} {Q : Exit → Act → World → Prop} {W w : World} {S0 : Nat → Prop} {l : List Asn}
/-- The beginning, among the worlds of which the same is known: those of 'os' only read there. -/
theorem wp_region_madeC {id : Nat} {a : Act} {ops : List Oper} (H : St W S0 w l) (os : List Nat) (m : List Bool) (f : Nat) (listed : Array Bool) (hm : P.follows .mixedOrders = true)
    (hl : os.map (fun k => ops.toArray[k]?) = (pickB m ops).map some) (hc : (pickB m ops).all calmB = true) (hs : Region.noSelect ops.toArray = true) (hf : f + os.length = ops.length)
    (hB : Region.quietB .any ops.toArray os (Array.replicate ops.length false) = true) (hd : setAll os (Array.replicate ops.length false) = listed)
    (hQ : ∀ c a a' w, a.defers = a'.defers → Q (.panic c) a w → Q (.panic c) a' w)
    (h : wpQuiet P ops.toArray (fun w' => ∃ s : Cls W S0 l, w' = s.it) (fun a' => wpAnyH P .any ops.toArray Q (fun w' => St W S0 w' l) f listed a' w.drew) (pickB m ops) a) : (Code.region id ops.toArray true).wp P Q a w := by
  refine wp_region_held (S := fun w' => St W S0 w' l) hm ?_
  subst hd
  have := held_quiet (P := P) (md := .any) (ops := ops.toArray) (Q := Q) (S := fun w' => St W S0 w' l) (C := fun w' => ∃ s : Cls W S0 l, w' = s.it) (f := f) (w := w.drew) hs (fun w' hw' => ⟨⟨w', hw'⟩, rfl⟩) hQ H.drew os (pickB m ops) _ a hl hc hB h
  rw [hf] at this
  simpa using this
/-- Further on. -/
theorem calmC {a : Act} {ops : List Oper} (H : St W S0 w l) (os : List Nat) (m : List Bool) (f g : Nat) (listed listed' : Array Bool)
    (hl : os.map (fun k => ops.toArray[k]?) = (pickB m ops).map some) (hc : (pickB m ops).all calmB = true) (hs : Region.noSelect ops.toArray = true) (hf : f + os.length = g)
    (hB : Region.quietB .any ops.toArray os listed = true) (hd : setAll os listed = listed')
    (hQ : ∀ c a a' w, a.defers = a'.defers → Q (.panic c) a w → Q (.panic c) a' w)
    (h : wpQuiet P ops.toArray (fun w' => ∃ s : Cls W S0 l, w' = s.it) (fun a' => wpAnyH P .any ops.toArray Q (fun w' => St W S0 w' l) f listed' a' w) (pickB m ops) a) : wpAnyH P .any ops.toArray Q (fun w' => St W S0 w' l) g listed a w := by
  subst hd
  have := held_quiet (P := P) (md := .any) (ops := ops.toArray) (Q := Q) (S := fun w' => St W S0 w' l) (C := fun w' => ∃ s : Cls W S0 l, w' = s.it) (f := f) (w := w) hs (fun w' hw' => ⟨⟨w', hw'⟩, rfl⟩) hQ H os (pickB m ops) _ a hl hc hB h
  rw [hf] at this
  exact this
end
/-- A block of cells is not the one of a row. -/
theorem St.ne_row {W w : World} {S0 : Nat → Prop} {l : List Asn} {b g o size n cap : Nat} {vs xs : List Value} (i j : Nat) (h : St W S0 w l) (hi : l[i]? = some (cellA b vs)) (hj : l[j]? = some (rowA size (.slice (some ⟨g, o, none⟩) n cap) n xs)) (hij : i < j) : ¬ b = g := by
  obtain ⟨S1, S2, h1, h2, h3⟩ := h.apart i j hij hi hj
  intro e
  exact h3 b ((h1.2 b).2 rfl) ((h2.2 b).2 (by rw [e]; rfl))
end Go.Proofs.Ytpajedpkdfacoaa
