/- A statement whose order Go leaves open, of which some operations only read (they are walked first, once, in the order of the text), and the others make or write memory of the call's own (they are walked in each order that may come up). -/
import Derived.Test.YtpajedpkdfacoaaMore
import Derived.OrdersHeld
namespace Go.Proofs.Ytpajedpkdfacoaa
set_option linter.unusedSimpArgs false
set_option linter.unusedVariables false
open Go Go.RowKit

/-- Operations that hand back a value and enter no function. -/
def calmB (o : Oper) : Bool :=
  match o.op with
  | .move _ | .assign _ | .pick .. | .load .. | .binOp .. | .unOp .. | .convert .. | .slice .. | .fieldAddr .. | .field .. | .indexAddr .. | .index .. | .extract .. | .build .. | .nilCheck .. => true
  | .call c => match c.callee with
    | .builtin .len => true
    | .builtin .min => true
    | .builtin .max => true
    | .builtin .cap => true
    | _ => false
  | _ => false

section
variable {P : Program} {ops : Array Oper} {md : Region.Mode} {Q : Exit → Act → World → Prop} {S : World → Prop} {C : World → Prop}

theorem run_v {s : Sem Value} {w w' : World} {n : Next} (h : (do pure (Next.value (← s)) : Sem Next).run P w = .ok n w') : ∃ u, n = .value u := by
  rw [Sem.run_bind] at h
  cases hs : s.run P w with
  | ok u w1 =>
    rw [hs] at h
    simp only [Result.andThen, Sem.run_pure] at h
    injection h with h1 h2
    exact ⟨u, h1.symm⟩
  | halt x w1 =>
    rw [hs] at h
    simp only [Result.andThen] at h
    cases h
theorem run_p {u : Value} {w w' : World} {n : Next} (h : (pure (Next.value u) : Sem Next).run P w = .ok n w') : ∃ u, n = .value u := by
  rw [Sem.run_pure] at h
  injection h with h1 h2
  exact ⟨u, h1.symm⟩
theorem calm_value {o : Oper} (hc : calmB o = true) {ρ : Operand → Value} {w w' : World} {n : Next} (h : (execOp ρ o).run P w = .ok n w') : ∃ u, n = .value u := by
  obtain ⟨dst, op, type, pos, after, guard⟩ := o
  unfold calmB at hc
  unfold execOp at h
  simp only at hc h
  cases op <;> simp only at hc h <;> first | exact run_v h | exact run_p (P := P) h | (cases hc; done) | skip
  case nilCheck x =>
    split at h
    all_goals first
      | exact run_p (P := P) h
      | (unfold runtimePanic at h; simp [go_sem] at h; done)
      | (simp [go_sem, runtimePanic] at h; done)
      | (split at h <;> first | exact run_p (P := P) h | (simp [go_sem, runtimePanic] at h; done) | (simp [go_sem, runtimePanic, Result.andThen] at h; (repeat' split at h) <;> first | (injection h with h1 h2; exact ⟨_, h1.symm⟩) | (cases h; done) | (simp [go_sem] at h; done)))
  case pick x a b =>
    rw [Sem.run_bind] at h
    cases hs : (asBool (ρ x)).run P w with
    | ok u w1 =>
      rw [hs] at h
      exact run_p (P := P) h
    | halt x w1 =>
      rw [hs] at h
      simp only [Result.andThen] at h
      cases h
  case call c =>
    obtain ⟨callee, args, ats⟩ := c
    simp only at hc h
    cases callee with
    | builtin b =>
      unfold resolve at h
      simp only [pure_bind] at h
      unfold invoke at h
      simp only at h
      unfold builtin at h
      cases b <;> simp only at hc h <;> first | exact run_v h | (cases hc; done)
    | value f => cases hc
    | invoke r m => cases hc
theorem yieldsIf_of_in {o : Oper} {v : Value} {a : Act} (hc : calmB o = true) (hSC : ∀ w, S w → C w) (h : YieldsIn P ops C o v a) : YieldsIf P ops S o v a := by
  rcases h with ⟨hw, hv⟩ | ⟨hw, hv⟩
  · refine .inl ⟨hw, fun w hS => ?_⟩
    have h1 := hv w (hSC w hS)
    unfold Oper.quietAt at h1
    generalize hr : (execOp a.eval o).run P w = r at *
    cases r with
    | ok n w' =>
      obtain ⟨u, rfl⟩ := calm_value hc hr
      obtain ⟨e1, e2⟩ := h1
      rw [e1, e2]
    | halt x w' => exact h1.elim
  · exact .inr ⟨hw, hv⟩

/-- Those that only read may be taken in this order. -/
def Region.quietB (md : Region.Mode) (ops : Array Oper) : List Nat → Array Bool → Bool
  | [], _ => true
  | k :: ks, listed => ((Region.ready md ops listed).contains k && Region.free md ops listed k) && Region.quietB md ops ks (listed.setIfInBounds k true)
def setAll (ks : List Nat) (listed : Array Bool) : Array Bool := ks.foldl (fun l k => l.setIfInBounds k true) listed

theorem held_quiet (hs : Region.noSelect ops = true) (hSC : ∀ w, S w → C w) (hQ : ∀ c a a' w, a.defers = a'.defers → Q (.panic c) a w → Q (.panic c) a' w) {f : Nat} {w : World} (hS : S w) :
    ∀ (os : List Nat) (lo : List Oper) (listed : Array Bool) (a : Act), os.map (fun k => ops[k]?) = lo.map some → lo.all calmB = true → Region.quietB md ops os listed = true →
      wpQuiet P ops C (fun a' => wpAnyH P md ops Q S f (setAll os listed) a' w) lo a → wpAnyH P md ops Q S (f + os.length) listed a w
  | [], [], listed, a, _, _, _, h => h
  | k :: os, o :: lo, listed, a, hl, hc, hB, h => by
    simp only [List.map_cons, List.cons.injEq] at hl
    simp only [List.all_cons, Bool.and_eq_true] at hc
    simp only [Region.quietB, Bool.and_eq_true] at hB
    have hst : qOp P ops C k (wpQuiet P ops C (fun a' => wpAnyH P md ops Q S f (setAll (k :: os) listed) a' w) lo) a := by
      unfold qOp; simp only [hl.1]; exact h
    obtain ⟨v, hy, hK⟩ := yieldsIn_of_qOp hl.1 hst
    exact wpAnyH_take hl.1 hs hB.1.2 hB.1.1 (fun c a w hq => hQ c _ _ w (by cases o.dst <;> rfl) hq) (yieldsIf_of_in hc.1 hSC hy) hS
      (held_quiet hs hSC hQ hS os lo _ _ hl.2 hc.2 hB.2 hK)
  | [], _ :: _, _, _, hl, _, _, _ => by simp at hl
  | _ :: _, [], _, _, hl, _, _, _ => by simp at hl

theorem wpOp_of_list {i : Nat} {oi : Oper} (hi : ops[i]? = some oi) {K : Act → World → Prop} {a : Act} {w : World} (h : wpList P ops (Exit.then K Q) [oi] a w) : wpOp P ops Q i K a w := by
  unfold wpOp
  simp only [hi]
  unfold wpList at h
  have hnil : wpList P ops (Exit.then K Q) [] = K := by funext a w; rfl
  rw [hnil] at h
  split
  · rename_i hw
    rw [if_pos hw] at h
    rcases h with h | ⟨h1, h2⟩
    · left
      unfold Oper.wp at *
      generalize (execOp a.eval oi).run P w = r at *
      cases r with
      | ok n w' =>
        cases n <;> simp only [Oper.upon] at h ⊢ <;> first | exact h | exact Calls.mono h (fun e w'' he => by cases e <;> exact he) | exact Rows.mono h (fun _ _ he => he)
      | halt x w' => cases x <;> simp only [Oper.upon] at h ⊢ <;> exact h
    · exact .inr ⟨h1, h2⟩
  · rename_i hw
    rw [if_neg hw] at h
    exact h

theorem wpOp_of_at {l : List Oper} {i : Nat} {K : Act → World → Prop} {a : Act} {w : World} (h : wpList P l.toArray (Exit.then K Q) ((l.drop i).take 1) a w) : wpOp P l.toArray Q i K a w := by
  by_cases hi : i < l.length
  · rw [List.drop_eq_getElem_cons hi, List.take_succ_cons, List.take_zero] at h
    exact wpOp_of_list (by simp [hi]) h
  · rw [List.drop_of_length_le (by omega), List.take_nil] at h
    unfold wpOp
    rw [show l.toArray[i]? = none by simp; omega]
    exact h
/-- One operation alone may come up. -/
theorem held_one {l : List Oper} {i f : Nat} {listed : Array Bool} {a : Act} {w : World} (hr : Region.ready md l.toArray listed = [i])
    (h : ∀ K : Act → World → Prop, (∀ a' w', S w' → wpAnyH P md l.toArray Q S f (listed.setIfInBounds i true) a' w' → K a' w') → wpList P l.toArray (Exit.then K Q) ((l.drop i).take 1) a w) : wpAnyH P md l.toArray Q S (f + 1) listed a w :=
  wpAnyH_all hr (by simp) fun j hj => by
    obtain rfl : j = i := by simpa using hj
    exact wpOp_of_at (h _ fun a' w' h1 h2 => ⟨h1, h2⟩)
/-- Either of two may come up. -/
theorem held_two {l : List Oper} {i j f : Nat} {listed : Array Bool} {a : Act} {w : World} (hr : Region.ready md l.toArray listed = [i, j])
    (h1 : ∀ K : Act → World → Prop, (∀ a' w', S w' → wpAnyH P md l.toArray Q S f (listed.setIfInBounds i true) a' w' → K a' w') → wpList P l.toArray (Exit.then K Q) ((l.drop i).take 1) a w)
    (h2 : ∀ K : Act → World → Prop, (∀ a' w', S w' → wpAnyH P md l.toArray Q S f (listed.setIfInBounds j true) a' w' → K a' w') → wpList P l.toArray (Exit.then K Q) ((l.drop j).take 1) a w) : wpAnyH P md l.toArray Q S (f + 1) listed a w :=
  wpAnyH_all hr (by simp) fun k hk => by
    by_cases e : k = i
    · subst e
      exact wpOp_of_at (h1 _ fun a' w' h1 h2 => ⟨h1, h2⟩)
    · obtain rfl : k = j := by simp at hk; omega
      exact wpOp_of_at (h2 _ fun a' w' h1 h2 => ⟨h1, h2⟩)
theorem held_done {listed : Array Bool} {a : Act} {w : World} (hr : Region.ready md ops listed = []) (h : Q .normal a w) : wpAnyH P md ops Q S 0 listed a w := ⟨hr, h⟩

/-- Those of a list that a mask shows. -/
def pickB : List Bool → List Oper → List Oper
  | true :: m, o :: l => o :: pickB m l
  | false :: m, _ :: l => pickB m l
  | _, _ => []
/-- The beginning: those of 'os' only read, in all worlds that are as W was below B. -/
theorem wp_region_made {id : Nat} {a : Act} {w : World} {l : List Oper} (B : Nat) (W : World) (os : List Nat) (m : List Bool) (f : Nat) (listed : Array Bool) (hm : P.follows .mixedOrders = true) (hW : Below B W w)
    (hl : os.map (fun k => l.toArray[k]?) = (pickB m l).map some) (hc : (pickB m l).all calmB = true) (hs : Region.noSelect l.toArray = true) (hf : f + os.length = l.length)
    (hB : Region.quietB .any l.toArray os (Array.replicate l.length false) = true) (hd : setAll os (Array.replicate l.length false) = listed)
    (hQ : ∀ c a a' w, a.defers = a'.defers → Q (.panic c) a w → Q (.panic c) a' w)
    (h : (∀ (s : Near B W) b o, b < B → s.it.cell? ⟨b, o, none⟩ = W.cell? ⟨b, o, none⟩) →
      wpQuiet P l.toArray (fun w' => ∃ s : Near B W, w' = s.it) (fun a' => wpAnyH P .any l.toArray Q (Below B W) f listed a' w.drew) (pickB m l) a) : (Code.region id l.toArray true).wp P Q a w := by
  refine wp_region_held (S := Below B W) hm ?_
  subst hd
  have := held_quiet (P := P) (md := .any) (ops := l.toArray) (Q := Q) (S := Below B W) (C := fun w' => ∃ s : Near B W, w' = s.it) (f := f) (w := w.drew) hs (fun w' hw' => ⟨⟨w', hw'⟩, rfl⟩) hQ hW.drew os (pickB m l) _ a hl hc hB (h (near_cells _ _))
  rw [hf] at this
  simpa using this
theorem quiet_mono' {C : World → Prop} : ∀ (lo : List Oper) (a : Act) (K K' : Act → Prop), (∀ a, K a → K' a) → wpQuiet P ops C K lo a → wpQuiet P ops C K' lo a
  | [], _, _, _, h, hh => h _ hh
  | o :: lo, a, K, K', h, hh => by
    unfold wpQuiet at *
    split
    · rename_i hw
      rw [if_pos hw] at hh
      exact Oper.quiet_mono (fun a => quiet_mono' lo a K K' h) hh
    · rename_i hw
      rw [if_neg hw] at hh
      exact quiet_mono' lo _ K K' h hh
theorem wp_region_made0 {id : Nat} {a : Act} {w : World} {l : List Oper} (os : List Nat) (m : List Bool) (f : Nat) (listed : Array Bool) (hm : P.follows .mixedOrders = true)
    (hl : os.map (fun k => l.toArray[k]?) = (pickB m l).map some) (hc : (pickB m l).all calmB = true) (hs : Region.noSelect l.toArray = true) (hf : f + os.length = l.length)
    (hB : Region.quietB .any l.toArray os (Array.replicate l.length false) = true) (hd : setAll os (Array.replicate l.length false) = listed)
    (hQ : ∀ c a a' w, a.defers = a'.defers → Q (.panic c) a w → Q (.panic c) a' w)
    (h : (∀ (s : Near w.heap.size w) b o, b < w.heap.size → s.it.cell? ⟨b, o, none⟩ = w.cell? ⟨b, o, none⟩) →
      wpQuiet P l.toArray (fun w' => ∃ s : Near w.heap.size w, w' = s.it) (fun a' => ∀ W, W = w → wpAnyH P .any l.toArray Q (Below W.heap.size W) f listed a' W.drew) (pickB m l) a) : (Code.region id l.toArray true).wp P Q a w :=
  wp_region_made w.heap.size w os m f listed hm (Below.refl _ _) hl hc hs hf hB hd hQ fun hs => quiet_mono' _ _ _ _ (fun _ h => h w rfl) (h hs)
end
end Go.Proofs.Ytpajedpkdfacoaa
