/- A statement whose order Go leaves open, of which the first n operations (and the calls in them) leave a world of a class C and each yield one value, whatever world of C they meet, and whose other operations come behind them in one forced order: one walk in the order of the text serves every order. -/
import Derived.StillTail
import Derived.Deep.Quiet
import Derived.Deep.QuietTactic
import Derived.BigQuiet
import Derived.Below
namespace Go.Proofs.Ytpajedpkdfacoaa
set_option linter.unusedSimpArgs false
set_option linter.unusedVariables false
open Go Go.RowKit

section
variable {P : Program} {ops : Array Oper} {md : Region.Mode} {C : World → Prop}

/-- The next f operations are among the first n, each quiet in C, in whatever order; behind them L. -/
def headAny (P : Program) (md : Region.Mode) (ops : Array Oper) (C : World → Prop) (n : Nat) (L : Array Bool → Act → Prop) : Nat → Array Bool → Act → Prop
  | 0, listed, a => L listed a
  | f + 1, listed, a =>
    Region.ready md ops listed ≠ [] ∧ ∀ i ∈ Region.ready md ops listed, i < n ∧ qOp P ops C i (headAny P md ops C n L f (listed.setIfInBounds i true)) a

theorem headAny_sound {n g : Nat} {L : Array Bool → Act → Prop} {Q : Exit → Act → World → Prop}
    (hL : ∀ listed a w, C w → L listed a → wpAny P md ops Q g listed a w) :
    ∀ (f : Nat) (listed : Array Bool) (a : Act) (w : World), C w → headAny P md ops C n L f listed a → wpAny P md ops Q (f + g) listed a w
  | 0, listed, a, w, hw, h => by rw [Nat.zero_add]; exact hL _ _ _ hw h
  | f + 1, listed, a, w, hw, h => by
    rw [show f + 1 + g = (f + g) + 1 by omega]
    exact ⟨fun h0 => absurd h0 h.1, fun i hi => wpOp_of_qOp hw (fun a' w' hw' h' => headAny_sound hL f _ a' w' hw' h') (h.2 i hi).2⟩

theorem headAny_first {n i : Nat} {oi : Oper} {v : Value} {L : Array Bool → Act → Prop} (hi : ops[i]? = some oi) (hs : Region.noSelect ops = true)
    (hwt : ∀ listed, HeadInv md ops n listed → ∀ i, i < n → listed.getD i true = false → ∀ t, n ≤ t → t ∉ Region.ready md ops listed) (hin : i < n)
    (hdone : ∀ listed a, L listed a → ∀ j ∈ Region.ready md ops listed, n ≤ j) (f : Nat) :
    ∀ (listed : Array Bool) (a : Act), HeadInv md ops n listed →
      (∀ j oj, ops[j]? = some oj → j ≠ i → listed.getD j true = false → (∀ e ∈ oj.after, Region.binds md e = true → e.on ≠ i) → oi.apart ops oj = true) →
      i ∈ Region.ready md ops listed → YieldsIn P ops C oi v a →
      headAny P md ops C n L f (listed.setIfInBounds i true) (a.put oi.dst v) → headAny P md ops C n L (f + 1) listed a := by
  have below : ∀ listed, HeadInv md ops n listed → i ∈ Region.ready md ops listed → ∀ j ∈ Region.ready md ops listed, j < n := fun listed inv hr j hj =>
    Nat.lt_of_not_le fun h => hwt _ inv i hin (mem_ready.1 hr).1 j h hj
  induction f with
  | zero =>
    intro listed a inv _ hr hy H
    refine ⟨fun h => (by rw [h] at hr; cases hr), fun j hj => ⟨below _ inv hr j hj, ?_⟩⟩
    by_cases hji : j = i
    · subst hji; exact hy.qOp hi H
    · exact absurd (hdone _ _ H j (ready_mono hj hji)) (Nat.not_le_of_lt (below _ inv hr j hj))
  | succ f ih =>
    intro listed a inv hfree hr hy H
    refine ⟨fun h => (by rw [h] at hr; cases hr), fun j hj => ⟨below _ inv hr j hj, ?_⟩⟩
    by_cases hji : j = i
    · subst hji; exact hy.qOp hi H
    · obtain ⟨hjun, oj, hoj, hall⟩ := mem_ready.1 hj
      have hnot : ∀ e ∈ oj.after, Region.binds md e = true → e.on ≠ i := fun e he hb heq => by
        have h1 := hall e he hb
        rw [heq, getD_both (mem_ready.1 hr).1] at h1
        cases h1
      refine qOp_mono (fun a' h3 => ?_) (qOp_put hoj (hfree j oj hoj hji hjun hnot) (fun cs b => Region.noSelect_spec hs i oi cs b hi) (fun cs b => Region.noSelect_spec hs j oj cs b hoj) hy (H.2 j (ready_mono hj hji)).2)
      refine ih (listed.setIfInBounds j true) a' (inv.set hj (below _ inv hr j hj)) (fun k ok hk hki hun hno => ?_) (ready_mono hr (Ne.symm hji)) h3.1 ?_
      · refine hfree k ok hk hki ?_ hno
        by_cases hjk : j = k
        · subst hjk; exact hjun
        · rw [getD_set_ne true hjk] at hun; exact hun
      · rw [Array.setIfInBounds_comm _ _ hji]
        exact h3.2

theorem headAny_lex {n g : Nat} {K : Act → Prop} (hs : Region.noSelect ops = true) (hsink : Region.sinkB md ops n = true) (hchain : Region.chainB md ops n = true) (hn : n < ops.size) :
    ∀ (l : List Oper) (k : Nat) (listed : Array Bool) (a : Act), (∀ j, j < l.length → l[j]? = ops[k + j]?) → k + l.length = n → HeadInv md ops n listed →
    Region.lexHead md ops g l.length k listed = true → wpQuiet P ops C K l a →
    headAny P md ops C n (fun listed' a' => Region.seqB md ops g n listed' = true ∧ K a') l.length listed a
  | [], k, listed, a, _, hk, _, hB, h => by
    obtain rfl : k = n := by simpa using hk
    exact ⟨by simpa [Region.lexHead] using hB, h⟩
  | o :: l, k, listed, a, hl, hk, inv, hB, h => by
    have h0 : ops[k]? = some o := by simpa using (hl 0 (by simp)).symm
    simp only [List.length_cons, Region.lexHead, Bool.and_eq_true] at hB
    obtain ⟨⟨hr, hf⟩, hB'⟩ := hB
    simp only [List.length_cons] at hk
    have hr' : k ∈ Region.ready md ops listed := by simpa using hr
    have hst : qOp P ops C k (wpQuiet P ops C K l) a := by unfold qOp; simp only [h0]; exact h
    obtain ⟨v, hy, hK⟩ := yieldsIn_of_qOp h0 hst
    exact headAny_first h0 hs (fun listed inv i hi hun t ht => tail_waits hsink hchain hn inv _ i rfl hi hun t ht) (by omega) (fun listed' a' hL => seqB_ready hL.1) l.length listed a inv (Region.free_spec h0 hf) hr' hy
      (headAny_lex hs hsink hchain hn l (k + 1) _ _ (fun j hj => by have := hl (j + 1) (by simp; omega); simpa [Nat.add_assoc, Nat.add_comm 1 j] using this) (by omega) (inv.set hr' (by omega)) hB' hK)

/-- The first n operations quiet in C; the others behind them, in the order of the text. -/
theorem wp_region_head {id : Nat} {Q : Exit → Act → World → Prop} {a : Act} {w : World} {l : List Oper} (C : World → Prop) (n : Nat) (hm : P.follows .mixedOrders = true)
    (hB : Region.lexTailB .any l.toArray n = true) (hC : C w.drew)
    (h : wpQuiet P l.toArray C (fun a' => ∀ w', C w' → wpList P l.toArray Q (l.drop n) a' w') (l.take n) a) : (Code.region id l.toArray true).wp P Q a w := by
  simp only [Region.lexTailB, Bool.and_eq_true, decide_eq_true_eq] at hB
  obtain ⟨⟨⟨⟨hs, hn⟩, hsink⟩, hchain⟩, hlex⟩ := hB
  have hn' : n < l.length := by simpa using hn
  have htl : (l.take n).length = n := by simp; omega
  have hdl : (l.drop n).length = l.toArray.size - n := by simp
  have H := headAny_lex (P := P) (C := C) (md := .any) (g := l.toArray.size - n) hs hsink hchain hn (l.take n) 0 (Array.replicate l.toArray.size false) a
    (fun j hj => by rw [htl] at hj; simp [hj]) (by simpa using htl)
    ⟨by simp, fun j oj _ hl => (by rw [getD_replicate_false] at hl; cases hl), fun t _ ht => getD_in (by simpa using ht) (getD_replicate_false _ _)⟩
    (by rw [htl]; exact hlex) h
  refine wp_region_any hm ?_
  have := headAny_sound (Q := Q) (g := l.toArray.size - n) (fun listed a' w' hw' hL => by
    have := wpAny_of_seq (md := .any) (Q' := Q) (l.drop n) n listed a' w' (fun j => by simp [List.getElem?_drop]) (by rw [hdl]; exact hL.1) (hL.2 w' hw')
    rwa [hdl] at this) _ _ _ w.drew hC H
  rw [htl, show n + (l.toArray.size - n) = l.toArray.size by omega] at this
  exact this

/-- Each of the first m operations leads to the m-th; each of the others waits for one at m or behind it. -/
def Region.fanB (md : Region.Mode) (ops : Array Oper) (m : Nat) : Bool :=
  (List.range ops.size).all fun t => decide (t ≤ m) || (List.range t).any fun j => decide (m ≤ j) && Region.waitsFor md ops t j
theorem head_last {n m : Nat} {listed : Array Bool} (hs : Region.sinkB md ops m = true) (hm : m < ops.size) (inv : HeadInv md ops n listed) :
    ∀ (d i : Nat), m - i = d → i ≤ m → listed.getD i true = false → listed.getD m true = false := by
  intro d
  induction d using Nat.strongRecOn with
  | _ d ih =>
    intro i hd hi hun
    by_cases him : i = m
    · subst him; exact hun
    · have h1 := List.all_eq_true.1 hs i (List.mem_range.2 (by omega))
      obtain ⟨j, hj, hj2⟩ := List.any_eq_true.1 h1
      simp only [Bool.and_eq_true, decide_eq_true_eq] at hj2
      obtain ⟨oj, hoj, e, he, hb, hon⟩ := Region.waitsFor_spec hj2.2
      have hjle : j ≤ m := by have := List.mem_range.1 hj; omega
      cases hl : listed.getD j false with
      | true =>
        have h2 := inv.closed j oj hoj hl e he hb
        rw [hon, getD_both hun] at h2
        cases h2
      | false => exact ih (m - j) (by omega) j rfl hjle (getD_in (by rw [inv.size]; omega) hl)
theorem fan_waits {m : Nat} (hs : Region.sinkB md ops m = true) (hf : Region.fanB md ops m = true) (hm : m < ops.size) (listed : Array Bool) (inv : HeadInv md ops (m + 1) listed)
    (i : Nat) (hi : i < m + 1) (hun : listed.getD i true = false) (t : Nat) (ht : m + 1 ≤ t) : t ∉ Region.ready md ops listed := by
  intro hr
  have hmu := head_last hs hm inv _ i rfl (by omega) hun
  obtain ⟨_, ot, hot, hall⟩ := mem_ready.1 hr
  have htlt : t < ops.size := (Array.getElem?_eq_some_iff.1 hot).1
  have h1 := List.all_eq_true.1 hf t (List.mem_range.2 htlt)
  simp only [Bool.or_eq_true, decide_eq_true_eq] at h1
  rcases h1 with h1 | h1
  · omega
  · obtain ⟨j, hj, hj2⟩ := List.any_eq_true.1 h1
    simp only [Bool.and_eq_true, decide_eq_true_eq] at hj2
    obtain ⟨o', ho', e, he, hb, hon⟩ := Region.waitsFor_spec hj2.2
    have : o' = ot := Option.some.inj (ho'.symm.trans hot)
    subst this
    have h2 := hall e he hb
    have hjt := List.mem_range.1 hj
    by_cases hjm : j = m
    · subst hjm
      rw [hon, getD_both hmu] at h2; cases h2
    · rw [hon, getD_both (inv.tail j (by omega) (by omega))] at h2; cases h2
/-- Operations in a forced order. -/
def Region.forceB (md : Region.Mode) (ops : Array Oper) : List Nat → Array Bool → Bool
  | [], listed => (Region.ready md ops listed).isEmpty
  | k :: ks, listed => decide (Region.ready md ops listed = [k]) && Region.forceB md ops ks (listed.setIfInBounds k true)
theorem wpAny_of_force {Q' : Exit → Act → World → Prop} : ∀ (ks : List Nat) (l : List Oper) (listed : Array Bool) (a : Act) (w : World), ks.map (fun k => ops[k]?) = l.map some →
    Region.forceB md ops ks listed = true → wpList P ops Q' l a w → wpAny P md ops Q' l.length listed a w
  | [], [], _, _, _, _, hB, h => ⟨by simpa [Region.forceB] using hB, h⟩
  | k :: ks, o :: l, listed, a, w, hl, hB, h => by
    simp only [List.map_cons, List.cons.injEq] at hl
    simp only [Region.forceB, Bool.and_eq_true, decide_eq_true_eq] at hB
    refine ⟨fun h1 => (by rw [hB.1] at h1; cases h1), fun i hi => ?_⟩
    rw [hB.1] at hi
    have hik : i = k := by simpa using hi
    subst hik
    have hw : wpOp P ops Q' i (wpList P ops Q' l) a w := by unfold wpOp; simp only [hl.1]; exact h
    exact wpOp_mono (fun a' w' h' => wpAny_of_force ks l _ a' w' hl.2 hB.2 h') hw
  | [], _ :: _, _, _, _, hl, _, _ => by simp at hl
  | _ :: _, [], _, _, _, hl, _, _ => by simp at hl
/-- The head, and behind it one operation b that may come anywhere, and the rest in a forced order. -/
def Region.lateHead (md : Region.Mode) (ops : Array Oper) (b : Nat) (ks : List Nat) : Nat → Nat → Array Bool → Bool
  | 0, k, listed => ((Region.ready md ops listed).contains b && Region.free md ops listed b) && ((Region.ready md ops listed).all (fun j => decide (k ≤ j)) && Region.forceB md ops ks (listed.setIfInBounds b true))
  | f + 1, k, listed => ((Region.ready md ops listed).contains k && Region.free md ops listed k) && Region.lateHead md ops b ks f (k + 1) (listed.setIfInBounds k true)
def Region.lateB (md : Region.Mode) (ops : Array Oper) (m b : Nat) (ks : List Nat) : Bool :=
  (Region.noSelect ops && decide (m < ops.size)) && ((Region.sinkB md ops m && Region.fanB md ops m) && Region.lateHead md ops b ks (m + 1) 0 (Array.replicate ops.size false))
def Region.lateL (md : Region.Mode) (ops : Array Oper) (b : Nat) (ks : List Nat) (K : Act → Prop) (k : Nat) (listed : Array Bool) (a : Act) : Prop :=
  ((Region.ready md ops listed).contains b = true ∧ Region.free md ops listed b = true) ∧ ((Region.ready md ops listed).all (fun j => decide (k ≤ j)) = true ∧ Region.forceB md ops ks (listed.setIfInBounds b true) = true) ∧ K a
theorem headAny_late {m b : Nat} {ks : List Nat} {K : Act → Prop} (hs : Region.noSelect ops = true) (hsink : Region.sinkB md ops m = true) (hfan : Region.fanB md ops m = true) (hm : m < ops.size) :
    ∀ (l : List Oper) (k : Nat) (listed : Array Bool) (a : Act), (∀ j, j < l.length → l[j]? = ops[k + j]?) → k + l.length = m + 1 → HeadInv md ops (m + 1) listed →
    Region.lateHead md ops b ks l.length k listed = true → wpQuiet P ops C K l a →
    headAny P md ops C (m + 1) (Region.lateL md ops b ks K (m + 1)) l.length listed a
  | [], k, listed, a, _, hk, _, hB, h => by
    obtain rfl : k = m + 1 := by simpa using hk
    simp only [List.length_nil, Region.lateHead, Bool.and_eq_true] at hB
    exact ⟨hB.1, hB.2, h⟩
  | o :: l, k, listed, a, hl, hk, inv, hB, h => by
    have h0 : ops[k]? = some o := by simpa using (hl 0 (by simp)).symm
    simp only [List.length_cons, Region.lateHead, Bool.and_eq_true] at hB
    obtain ⟨⟨hr, hf⟩, hB'⟩ := hB
    simp only [List.length_cons] at hk
    have hr' : k ∈ Region.ready md ops listed := by simpa using hr
    have hst : qOp P ops C k (wpQuiet P ops C K l) a := by unfold qOp; simp only [h0]; exact h
    obtain ⟨v, hy, hK⟩ := yieldsIn_of_qOp h0 hst
    exact headAny_first h0 hs (fan_waits hsink hfan hm) (by omega) (fun listed' a' hL j hj => by have := List.all_eq_true.1 hL.2.1.1 j hj; simpa using this) l.length listed a inv (Region.free_spec h0 hf) hr' hy
      (headAny_late hs hsink hfan hm l (k + 1) _ _ (fun j hj => by have := hl (j + 1) (by simp; omega); simpa [Nat.add_assoc, Nat.add_comm 1 j] using this) (by omega) (inv.set hr' (by omega)) hB' hK)

/-- A world that is as W was below block number B. -/
structure Near (B : Nat) (W : World) where
  it : World
  near : Below B W it

instance Near.some (B : Nat) (W : World) : Nonempty (Near B W) := ⟨⟨W, Below.refl _ _⟩⟩

theorem Near.self {B : Nat} {W : World} : ∃ s : Near B W, W.drew = s.it := ⟨⟨_, (Below.refl _ _).drew⟩, rfl⟩

theorem near_cells (B : Nat) (W : World) : ∀ (s : Near B W) b o, b < B → s.it.cell? ⟨b, o, none⟩ = W.cell? ⟨b, o, none⟩ :=
  fun s b o h => s.near.cell (p := ⟨b, o, none⟩) h

/-- A contract that says what is handed back, and that nothing that was there has turned. -/
def Ret (w : World) (v : Value) (e : Ending) (w' : World) : Prop := e = .returned v ∧ Below w.heap.size w w'

theorem Ret.mk {w w' : World} {v u : Value} (h : v = u) (hb : Below w.heap.size w w') : Ret w u (.returned v) w' := ⟨by rw [h], hb⟩

theorem Calls.near {P : Program} {f : FuncId} {args : Array Value} {B : Nat} {W : World} {s : Near B W} {v : Value} (hB : B ≤ W.heap.size)
    (h : Calls P f args s.it (Ret s.it v)) : Calls P f args s.it fun e w'' => e = .returned v ∧ ∃ s' : Near B W, w'' = s'.it :=
  h.mono fun _ _ ⟨he, hb⟩ => ⟨he, ⟨⟨_, s.near.trans (hb.mono (Nat.le_trans hB s.near.size))⟩, rfl⟩⟩

/-- All operations quiet among the worlds that are as w was. -/
theorem wp_region_near {id : Nat} {Q : Exit → Act → World → Prop} {a : Act} {w : World} {l : List Oper} (hm : P.follows .mixedOrders = true) (hB : Region.lexB .any l.toArray = true)
    (h : (∀ (s : Near w.heap.size w) b o, b < w.heap.size → s.it.cell? ⟨b, o, none⟩ = w.cell? ⟨b, o, none⟩) →
      wpQuiet P l.toArray (fun w' => ∃ s : Near w.heap.size w, w' = s.it) (fun a' => ∀ w', Below w.heap.size w w' → Q .normal a' w') l a) : (Code.region id l.toArray true).wp P Q a w :=
  wp_region_quiet (C := fun w' => ∃ s : Near w.heap.size w, w' = s.it) hm hB Near.self (by
    have := h (near_cells _ _)
    have e : (fun a' => ∀ w', Below w.heap.size w w' → Q .normal a' w') = (fun a' => ∀ w', (∃ s : Near w.heap.size w, w' = s.it) → Q .normal a' w') := by
      funext a'
      exact propext ⟨fun h w' ⟨s, hs⟩ => hs ▸ h _ s.near, fun h w' hw' => h w' ⟨⟨w', hw'⟩, rfl⟩⟩
    rw [← e]
    exact this)

/-- The first n quiet among the worlds that are as w was; the others behind them. -/
theorem wp_region_near_tail {id : Nat} {Q : Exit → Act → World → Prop} {a : Act} {w : World} {l : List Oper} (n : Nat) (hm : P.follows .mixedOrders = true) (hB : Region.lexTailB .any l.toArray n = true)
    (h : (∀ (s : Near w.heap.size w) b o, b < w.heap.size → s.it.cell? ⟨b, o, none⟩ = w.cell? ⟨b, o, none⟩) →
      wpQuiet P l.toArray (fun w' => ∃ s : Near w.heap.size w, w' = s.it) (fun a' => ∀ w', Below w.heap.size w w' → wpList P l.toArray Q (l.drop n) a' w') (l.take n) a) : (Code.region id l.toArray true).wp P Q a w :=
  wp_region_head (fun w' => ∃ s : Near w.heap.size w, w' = s.it) n hm hB Near.self (by
    have := h (near_cells _ _)
    have e : (fun a' => ∀ w', Below w.heap.size w w' → wpList P l.toArray Q (l.drop n) a' w') = (fun a' => ∀ w', (∃ s : Near w.heap.size w, w' = s.it) → wpList P l.toArray Q (l.drop n) a' w') := by
      funext a'
      exact propext ⟨fun h w' ⟨s, hs⟩ => hs ▸ h _ s.near, fun h w' hw' => h w' ⟨⟨w', hw'⟩, rfl⟩⟩
    rw [← e]
    exact this)
/-- The first m + 1 quiet among the worlds that are as w was; operation b behind them, which yields v in any world; the others in a forced order. -/
theorem wp_region_near_late {id : Nat} {Q : Exit → Act → World → Prop} {a : Act} {w : World} {l : List Oper} (m b : Nat) (ks : List Nat) (ob : Oper) (tl : List Oper) (hm : P.follows .mixedOrders = true)
    (hob : l.toArray[b]? = some ob) (htl : ks.map (fun k => l.toArray[k]?) = tl.map some) (hsz : m + 1 + (tl.length + 1) = l.length) (hB : Region.lateB .any l.toArray m b ks = true)
    (hQ : ∀ c a v w, Q (.panic c) (a.put ob.dst v) w → Q (.panic c) a w)
    (h : (∀ (s : Near w.heap.size w) b o, b < w.heap.size → s.it.cell? ⟨b, o, none⟩ = w.cell? ⟨b, o, none⟩) →
      wpQuiet P l.toArray (fun w' => ∃ s : Near w.heap.size w, w' = s.it) (fun a' => ∃ v, Yields P l.toArray ob v a' ∧ ∀ w', Below w.heap.size w w' → wpList P l.toArray Q tl (a'.put ob.dst v) w') (l.take (m + 1)) a) : (Code.region id l.toArray true).wp P Q a w := by
  simp only [Region.lateB, Bool.and_eq_true, decide_eq_true_eq] at hB
  obtain ⟨⟨hs, hn⟩, ⟨hsink, hfan⟩, hlex⟩ := hB
  have hn' : m < l.length := by simpa using hn
  have hlt : (l.take (m + 1)).length = m + 1 := by simp; omega
  have H := headAny_late (P := P) (C := fun w' => ∃ s : Near w.heap.size w, w' = s.it) (md := .any) (b := b) (ks := ks) hs hsink hfan hn (l.take (m + 1)) 0 (Array.replicate l.toArray.size false) a
    (fun j hj => by rw [hlt] at hj; simp [hj]) (by simpa using hlt)
    ⟨by simp, fun j oj _ hl => (by rw [getD_replicate_false] at hl; cases hl), fun t _ ht => getD_in (by simpa using ht) (getD_replicate_false _ _)⟩
    (by rw [hlt]; exact hlex) (h (near_cells _ _))
  refine wp_region_any hm ?_
  have := headAny_sound (Q := Q) (g := tl.length + 1) (fun listed a' w' ⟨s, hw'⟩ hL => by
    obtain ⟨⟨hr, hf⟩, ⟨_, hfo⟩, v, hy, hk⟩ := hL
    subst hw'
    exact wpAny_take hob hs hf hr (fun c a w h => hQ c a v w h) hy (wpAny_of_force ks tl _ _ _ htl hfo (hk _ s.near))) _ _ _ w.drew Near.self H
  rw [hlt, hsz] at this
  simpa using this
end
end Go.Proofs.Ytpajedpkdfacoaa
