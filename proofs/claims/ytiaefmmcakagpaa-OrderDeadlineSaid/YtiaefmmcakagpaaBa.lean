/- Texts that belong together, one behind another. -/
import Derived.StillTail
import Derived.Deep.Quiet
import Derived.Deep.QuietTactic
import Derived.BigQuiet
import Derived.Below
import Derived.Test.YtiaefmmcakagpaaRows
import Derived.WalkKit
import Derived.ProofKit
import Derived.Lib.Hide
import Derived.Deep.RegionWith
import Derived.ArgAppend
import Derived.OwnWalk
import Derived.Lib.ConvBytes
import Derived.Laws.IdiomStrings
import Derived.OpenShut
import Derived.Deep.Slices
import Derived.Laws.IdiomCopy
import Derived.Deep.RegionLaw
import Derived.Laws.Cover3
import Derived.OrdersHeld
import Derived.RangeFuncNested
import Derived.RangeFuncBound
import Derived.OwnWalkIn
import Derived.WalkLawsBesides
import Derived.Lib.AppendZerosOnto
import Derived.Lib.Overlaps
import Derived.Lib.JoinLaws
import Derived.Laws.Externs
import Derived.Deep.LoopGhost
import Derived.RangeFuncCalls
import Derived.RangeFuncLeaves
import Derived.Shelf.Abstract
import Derived.Shelf.RegionOpen
import Derived.TacticsInMore
import Derived.Sort.LoopGhostIn
/- A statement whose order Go leaves open, of which the first n operations (and the calls in them) leave a world of a class C and each yield one value, whatever world of C they meet, and whose other operations come behind them in one forced order: one walk in the order of the text serves every order. -/
namespace Go.Proofs.Ytiaefmmcakagpaa
set_option linter.unusedSimpArgs false
set_option linter.unusedVariables false
open Go Go.RowKit

section
variable {P : Program} {ops : Array Oper} {md : Region.Mode} {C : World → Prop}

/-- The next f operations are among the first n, each quiet in C, in whatever order; behind them L. -/
def headAny (P : Program) (md : Region.Mode) (ops : Array Oper) (C : World → Prop) (n : Nat) (L : Array Bool → Act → Prop) : Nat → Array Bool → Act → Prop
  | 0, listed, a => L listed a
  | f + 1, listed, a =>
    Region.ready md ops listed ≠ [] ∧ ∀ i ∈ Region.ready md ops listed, i < n ∧ qOp P ops C i (headAny P md ops C n L f (listed.setIfInBounds i true)) a

theorem headAny_sound {n g : Nat} {L : Array Bool → Act → Prop} {Q : Exit → Act → World → Prop}
    (hL : ∀ listed a w, C w → L listed a → wpAny P md ops Q g listed a w) :
    ∀ (f : Nat) (listed : Array Bool) (a : Act) (w : World), C w → headAny P md ops C n L f listed a → wpAny P md ops Q (f + g) listed a w
  | 0, listed, a, w, hw, h => by rw [Nat.zero_add]; exact hL _ _ _ hw h
  | f + 1, listed, a, w, hw, h => by
    rw [show f + 1 + g = (f + g) + 1 by omega]
    exact ⟨fun h0 => absurd h0 h.1, fun i hi => wpOp_of_qOp hw (fun a' w' hw' h' => headAny_sound hL f _ a' w' hw' h') (h.2 i hi).2⟩

theorem headAny_first {n i : Nat} {oi : Oper} {v : Value} {L : Array Bool → Act → Prop} (hi : ops[i]? = some oi) (hs : Region.noSelect ops = true)
    (hwt : ∀ listed, HeadInv md ops n listed → ∀ i, i < n → listed.getD i true = false → ∀ t, n ≤ t → t ∉ Region.ready md ops listed) (hin : i < n)
    (hdone : ∀ listed a, L listed a → ∀ j ∈ Region.ready md ops listed, n ≤ j) (f : Nat) :
    ∀ (listed : Array Bool) (a : Act), HeadInv md ops n listed →
      (∀ j oj, ops[j]? = some oj → j ≠ i → listed.getD j true = false → (∀ e ∈ oj.after, Region.binds md e = true → e.on ≠ i) → oi.apart ops oj = true) →
      i ∈ Region.ready md ops listed → YieldsIn P ops C oi v a →
      headAny P md ops C n L f (listed.setIfInBounds i true) (a.put oi.dst v) → headAny P md ops C n L (f + 1) listed a := by
  have below : ∀ listed, HeadInv md ops n listed → i ∈ Region.ready md ops listed → ∀ j ∈ Region.ready md ops listed, j < n := fun listed inv hr j hj =>
    Nat.lt_of_not_le fun h => hwt _ inv i hin (mem_ready.1 hr).1 j h hj
  induction f with
  | zero =>
    intro listed a inv _ hr hy H
    refine ⟨fun h => (by rw [h] at hr; cases hr), fun j hj => ⟨below _ inv hr j hj, ?_⟩⟩
    by_cases hji : j = i
    · subst hji; exact hy.qOp hi H
    · exact absurd (hdone _ _ H j (ready_mono hj hji)) (Nat.not_le_of_lt (below _ inv hr j hj))
  | succ f ih =>
    intro listed a inv hfree hr hy H
    refine ⟨fun h => (by rw [h] at hr; cases hr), fun j hj => ⟨below _ inv hr j hj, ?_⟩⟩
    by_cases hji : j = i
    · subst hji; exact hy.qOp hi H
    · obtain ⟨hjun, oj, hoj, hall⟩ := mem_ready.1 hj
      have hnot : ∀ e ∈ oj.after, Region.binds md e = true → e.on ≠ i := fun e he hb heq => by
        have h1 := hall e he hb
        rw [heq, getD_both (mem_ready.1 hr).1] at h1
        cases h1
      refine qOp_mono (fun a' h3 => ?_) (qOp_put hoj (hfree j oj hoj hji hjun hnot) (fun cs b => Region.noSelect_spec hs i oi cs b hi) (fun cs b => Region.noSelect_spec hs j oj cs b hoj) hy (H.2 j (ready_mono hj hji)).2)
      refine ih (listed.setIfInBounds j true) a' (inv.set hj (below _ inv hr j hj)) (fun k ok hk hki hun hno => ?_) (ready_mono hr (Ne.symm hji)) h3.1 ?_
      · refine hfree k ok hk hki ?_ hno
        by_cases hjk : j = k
        · subst hjk; exact hjun
        · rw [getD_set_ne true hjk] at hun; exact hun
      · rw [Array.setIfInBounds_comm _ _ hji]
        exact h3.2

theorem headAny_lex {n g : Nat} {K : Act → Prop} (hs : Region.noSelect ops = true) (hsink : Region.sinkB md ops n = true) (hchain : Region.chainB md ops n = true) (hn : n < ops.size) :
    ∀ (l : List Oper) (k : Nat) (listed : Array Bool) (a : Act), (∀ j, j < l.length → l[j]? = ops[k + j]?) → k + l.length = n → HeadInv md ops n listed →
    Region.lexHead md ops g l.length k listed = true → wpQuiet P ops C K l a →
    headAny P md ops C n (fun listed' a' => Region.seqB md ops g n listed' = true ∧ K a') l.length listed a
  | [], k, listed, a, _, hk, _, hB, h => by
    obtain rfl : k = n := by simpa using hk
    exact ⟨by simpa [Region.lexHead] using hB, h⟩
  | o :: l, k, listed, a, hl, hk, inv, hB, h => by
    have h0 : ops[k]? = some o := by simpa using (hl 0 (by simp)).symm
    simp only [List.length_cons, Region.lexHead, Bool.and_eq_true] at hB
    obtain ⟨⟨hr, hf⟩, hB'⟩ := hB
    simp only [List.length_cons] at hk
    have hr' : k ∈ Region.ready md ops listed := by simpa using hr
    have hst : qOp P ops C k (wpQuiet P ops C K l) a := by unfold qOp; simp only [h0]; exact h
    obtain ⟨v, hy, hK⟩ := yieldsIn_of_qOp h0 hst
    exact headAny_first h0 hs (fun listed inv i hi hun t ht => tail_waits hsink hchain hn inv _ i rfl hi hun t ht) (by omega) (fun listed' a' hL => seqB_ready hL.1) l.length listed a inv (Region.free_spec h0 hf) hr' hy
      (headAny_lex hs hsink hchain hn l (k + 1) _ _ (fun j hj => by have := hl (j + 1) (by simp; omega); simpa [Nat.add_assoc, Nat.add_comm 1 j] using this) (by omega) (inv.set hr' (by omega)) hB' hK)

/-- The first n operations quiet in C; the others behind them, in the order of the text. -/
theorem wp_region_head {id : Nat} {Q : Exit → Act → World → Prop} {a : Act} {w : World} {l : List Oper} (C : World → Prop) (n : Nat) (hm : P.follows .mixedOrders = true)
    (hB : Region.lexTailB .any l.toArray n = true) (hC : C w.drew)
    (h : wpQuiet P l.toArray C (fun a' => ∀ w', C w' → wpList P l.toArray Q (l.drop n) a' w') (l.take n) a) : (Code.region id l.toArray true).wp P Q a w := by
  simp only [Region.lexTailB, Bool.and_eq_true, decide_eq_true_eq] at hB
  obtain ⟨⟨⟨⟨hs, hn⟩, hsink⟩, hchain⟩, hlex⟩ := hB
  have hn' : n < l.length := by simpa using hn
  have htl : (l.take n).length = n := by simp; omega
  have hdl : (l.drop n).length = l.toArray.size - n := by simp
  have H := headAny_lex (P := P) (C := C) (md := .any) (g := l.toArray.size - n) hs hsink hchain hn (l.take n) 0 (Array.replicate l.toArray.size false) a
    (fun j hj => by rw [htl] at hj; simp [hj]) (by simpa using htl)
    ⟨by simp, fun j oj _ hl => (by rw [getD_replicate_false] at hl; cases hl), fun t _ ht => getD_in (by simpa using ht) (getD_replicate_false _ _)⟩
    (by rw [htl]; exact hlex) h
  refine wp_region_any hm ?_
  have := headAny_sound (Q := Q) (g := l.toArray.size - n) (fun listed a' w' hw' hL => by
    have := wpAny_of_seq (md := .any) (Q' := Q) (l.drop n) n listed a' w' (fun j => by simp [List.getElem?_drop]) (by rw [hdl]; exact hL.1) (hL.2 w' hw')
    rwa [hdl] at this) _ _ _ w.drew hC H
  rw [htl, show n + (l.toArray.size - n) = l.toArray.size by omega] at this
  exact this

/-- Each of the first m operations leads to the m-th; each of the others waits for one at m or behind it. -/
def Region.fanB (md : Region.Mode) (ops : Array Oper) (m : Nat) : Bool :=
  (List.range ops.size).all fun t => decide (t ≤ m) || (List.range t).any fun j => decide (m ≤ j) && Region.waitsFor md ops t j
theorem head_last {n m : Nat} {listed : Array Bool} (hs : Region.sinkB md ops m = true) (hm : m < ops.size) (inv : HeadInv md ops n listed) :
    ∀ (d i : Nat), m - i = d → i ≤ m → listed.getD i true = false → listed.getD m true = false := by
  intro d
  induction d using Nat.strongRecOn with
  | _ d ih =>
    intro i hd hi hun
    by_cases him : i = m
    · subst him; exact hun
    · have h1 := List.all_eq_true.1 hs i (List.mem_range.2 (by omega))
      obtain ⟨j, hj, hj2⟩ := List.any_eq_true.1 h1
      simp only [Bool.and_eq_true, decide_eq_true_eq] at hj2
      obtain ⟨oj, hoj, e, he, hb, hon⟩ := Region.waitsFor_spec hj2.2
      have hjle : j ≤ m := by have := List.mem_range.1 hj; omega
      cases hl : listed.getD j false with
      | true =>
        have h2 := inv.closed j oj hoj hl e he hb
        rw [hon, getD_both hun] at h2
        cases h2
      | false => exact ih (m - j) (by omega) j rfl hjle (getD_in (by rw [inv.size]; omega) hl)
theorem fan_waits {m : Nat} (hs : Region.sinkB md ops m = true) (hf : Region.fanB md ops m = true) (hm : m < ops.size) (listed : Array Bool) (inv : HeadInv md ops (m + 1) listed)
    (i : Nat) (hi : i < m + 1) (hun : listed.getD i true = false) (t : Nat) (ht : m + 1 ≤ t) : t ∉ Region.ready md ops listed := by
  intro hr
  have hmu := head_last hs hm inv _ i rfl (by omega) hun
  obtain ⟨_, ot, hot, hall⟩ := mem_ready.1 hr
  have htlt : t < ops.size := (Array.getElem?_eq_some_iff.1 hot).1
  have h1 := List.all_eq_true.1 hf t (List.mem_range.2 htlt)
  simp only [Bool.or_eq_true, decide_eq_true_eq] at h1
  rcases h1 with h1 | h1
  · omega
  · obtain ⟨j, hj, hj2⟩ := List.any_eq_true.1 h1
    simp only [Bool.and_eq_true, decide_eq_true_eq] at hj2
    obtain ⟨o', ho', e, he, hb, hon⟩ := Region.waitsFor_spec hj2.2
    have : o' = ot := Option.some.inj (ho'.symm.trans hot)
    subst this
    have h2 := hall e he hb
    have hjt := List.mem_range.1 hj
    by_cases hjm : j = m
    · subst hjm
      rw [hon, getD_both hmu] at h2; cases h2
    · rw [hon, getD_both (inv.tail j (by omega) (by omega))] at h2; cases h2
/-- Operations in a forced order. -/
def Region.forceB (md : Region.Mode) (ops : Array Oper) : List Nat → Array Bool → Bool
  | [], listed => (Region.ready md ops listed).isEmpty
  | k :: ks, listed => decide (Region.ready md ops listed = [k]) && Region.forceB md ops ks (listed.setIfInBounds k true)
theorem wpAny_of_force {Q' : Exit → Act → World → Prop} : ∀ (ks : List Nat) (l : List Oper) (listed : Array Bool) (a : Act) (w : World), ks.map (fun k => ops[k]?) = l.map some →
    Region.forceB md ops ks listed = true → wpList P ops Q' l a w → wpAny P md ops Q' l.length listed a w
  | [], [], _, _, _, _, hB, h => ⟨by simpa [Region.forceB] using hB, h⟩
  | k :: ks, o :: l, listed, a, w, hl, hB, h => by
    simp only [List.map_cons, List.cons.injEq] at hl
    simp only [Region.forceB, Bool.and_eq_true, decide_eq_true_eq] at hB
    refine ⟨fun h1 => (by rw [hB.1] at h1; cases h1), fun i hi => ?_⟩
    rw [hB.1] at hi
    have hik : i = k := by simpa using hi
    subst hik
    have hw : wpOp P ops Q' i (wpList P ops Q' l) a w := by unfold wpOp; simp only [hl.1]; exact h
    exact wpOp_mono (fun a' w' h' => wpAny_of_force ks l _ a' w' hl.2 hB.2 h') hw
  | [], _ :: _, _, _, _, hl, _, _ => by simp at hl
  | _ :: _, [], _, _, _, hl, _, _ => by simp at hl
/-- The head, and behind it one operation b that may come anywhere, and the rest in a forced order. -/
def Region.lateHead (md : Region.Mode) (ops : Array Oper) (b : Nat) (ks : List Nat) : Nat → Nat → Array Bool → Bool
  | 0, k, listed => ((Region.ready md ops listed).contains b && Region.free md ops listed b) && ((Region.ready md ops listed).all (fun j => decide (k ≤ j)) && Region.forceB md ops ks (listed.setIfInBounds b true))
  | f + 1, k, listed => ((Region.ready md ops listed).contains k && Region.free md ops listed k) && Region.lateHead md ops b ks f (k + 1) (listed.setIfInBounds k true)
def Region.lateB (md : Region.Mode) (ops : Array Oper) (m b : Nat) (ks : List Nat) : Bool :=
  (Region.noSelect ops && decide (m < ops.size)) && ((Region.sinkB md ops m && Region.fanB md ops m) && Region.lateHead md ops b ks (m + 1) 0 (Array.replicate ops.size false))
def Region.lateL (md : Region.Mode) (ops : Array Oper) (b : Nat) (ks : List Nat) (K : Act → Prop) (k : Nat) (listed : Array Bool) (a : Act) : Prop :=
  ((Region.ready md ops listed).contains b = true ∧ Region.free md ops listed b = true) ∧ ((Region.ready md ops listed).all (fun j => decide (k ≤ j)) = true ∧ Region.forceB md ops ks (listed.setIfInBounds b true) = true) ∧ K a
theorem headAny_late {m b : Nat} {ks : List Nat} {K : Act → Prop} (hs : Region.noSelect ops = true) (hsink : Region.sinkB md ops m = true) (hfan : Region.fanB md ops m = true) (hm : m < ops.size) :
    ∀ (l : List Oper) (k : Nat) (listed : Array Bool) (a : Act), (∀ j, j < l.length → l[j]? = ops[k + j]?) → k + l.length = m + 1 → HeadInv md ops (m + 1) listed →
    Region.lateHead md ops b ks l.length k listed = true → wpQuiet P ops C K l a →
    headAny P md ops C (m + 1) (Region.lateL md ops b ks K (m + 1)) l.length listed a
  | [], k, listed, a, _, hk, _, hB, h => by
    obtain rfl : k = m + 1 := by simpa using hk
    simp only [List.length_nil, Region.lateHead, Bool.and_eq_true] at hB
    exact ⟨hB.1, hB.2, h⟩
  | o :: l, k, listed, a, hl, hk, inv, hB, h => by
    have h0 : ops[k]? = some o := by simpa using (hl 0 (by simp)).symm
    simp only [List.length_cons, Region.lateHead, Bool.and_eq_true] at hB
    obtain ⟨⟨hr, hf⟩, hB'⟩ := hB
    simp only [List.length_cons] at hk
    have hr' : k ∈ Region.ready md ops listed := by simpa using hr
    have hst : qOp P ops C k (wpQuiet P ops C K l) a := by unfold qOp; simp only [h0]; exact h
    obtain ⟨v, hy, hK⟩ := yieldsIn_of_qOp h0 hst
    exact headAny_first h0 hs (fan_waits hsink hfan hm) (by omega) (fun listed' a' hL j hj => by have := List.all_eq_true.1 hL.2.1.1 j hj; simpa using this) l.length listed a inv (Region.free_spec h0 hf) hr' hy
      (headAny_late hs hsink hfan hm l (k + 1) _ _ (fun j hj => by have := hl (j + 1) (by simp; omega); simpa [Nat.add_assoc, Nat.add_comm 1 j] using this) (by omega) (inv.set hr' (by omega)) hB' hK)

/-- A world that is as W was below block number B. -/
structure Near (B : Nat) (W : World) where
  it : World
  near : Below B W it

instance Near.some (B : Nat) (W : World) : Nonempty (Near B W) := ⟨⟨W, Below.refl _ _⟩⟩

theorem Near.self {B : Nat} {W : World} : ∃ s : Near B W, W.drew = s.it := ⟨⟨_, (Below.refl _ _).drew⟩, rfl⟩

theorem near_cells (B : Nat) (W : World) : ∀ (s : Near B W) b o, b < B → s.it.cell? ⟨b, o, none⟩ = W.cell? ⟨b, o, none⟩ :=
  fun s b o h => s.near.cell (p := ⟨b, o, none⟩) h

/-- A contract that says what is handed back, and that nothing that was there has turned. -/
def Ret (w : World) (v : Value) (e : Ending) (w' : World) : Prop := e = .returned v ∧ Below w.heap.size w w'

theorem Ret.mk {w w' : World} {v u : Value} (h : v = u) (hb : Below w.heap.size w w') : Ret w u (.returned v) w' := ⟨by rw [h], hb⟩

theorem Calls.near {P : Program} {f : FuncId} {args : Array Value} {B : Nat} {W : World} {s : Near B W} {v : Value} (hB : B ≤ W.heap.size)
    (h : Calls P f args s.it (Ret s.it v)) : Calls P f args s.it fun e w'' => e = .returned v ∧ ∃ s' : Near B W, w'' = s'.it :=
  h.mono fun _ _ ⟨he, hb⟩ => ⟨he, ⟨⟨_, s.near.trans (hb.mono (Nat.le_trans hB s.near.size))⟩, rfl⟩⟩

/-- All operations quiet among the worlds that are as w was. -/
theorem wp_region_near {id : Nat} {Q : Exit → Act → World → Prop} {a : Act} {w : World} {l : List Oper} (hm : P.follows .mixedOrders = true) (hB : Region.lexB .any l.toArray = true)
    (h : (∀ (s : Near w.heap.size w) b o, b < w.heap.size → s.it.cell? ⟨b, o, none⟩ = w.cell? ⟨b, o, none⟩) →
      wpQuiet P l.toArray (fun w' => ∃ s : Near w.heap.size w, w' = s.it) (fun a' => ∀ w', Below w.heap.size w w' → Q .normal a' w') l a) : (Code.region id l.toArray true).wp P Q a w :=
  wp_region_quiet (C := fun w' => ∃ s : Near w.heap.size w, w' = s.it) hm hB Near.self (by
    have := h (near_cells _ _)
    have e : (fun a' => ∀ w', Below w.heap.size w w' → Q .normal a' w') = (fun a' => ∀ w', (∃ s : Near w.heap.size w, w' = s.it) → Q .normal a' w') := by
      funext a'
      exact propext ⟨fun h w' ⟨s, hs⟩ => hs ▸ h _ s.near, fun h w' hw' => h w' ⟨⟨w', hw'⟩, rfl⟩⟩
    rw [← e]
    exact this)

/-- The first n quiet among the worlds that are as w was; the others behind them. -/
theorem wp_region_near_tail {id : Nat} {Q : Exit → Act → World → Prop} {a : Act} {w : World} {l : List Oper} (n : Nat) (hm : P.follows .mixedOrders = true) (hB : Region.lexTailB .any l.toArray n = true)
    (h : (∀ (s : Near w.heap.size w) b o, b < w.heap.size → s.it.cell? ⟨b, o, none⟩ = w.cell? ⟨b, o, none⟩) →
      wpQuiet P l.toArray (fun w' => ∃ s : Near w.heap.size w, w' = s.it) (fun a' => ∀ w', Below w.heap.size w w' → wpList P l.toArray Q (l.drop n) a' w') (l.take n) a) : (Code.region id l.toArray true).wp P Q a w :=
  wp_region_head (fun w' => ∃ s : Near w.heap.size w, w' = s.it) n hm hB Near.self (by
    have := h (near_cells _ _)
    have e : (fun a' => ∀ w', Below w.heap.size w w' → wpList P l.toArray Q (l.drop n) a' w') = (fun a' => ∀ w', (∃ s : Near w.heap.size w, w' = s.it) → wpList P l.toArray Q (l.drop n) a' w') := by
      funext a'
      exact propext ⟨fun h w' ⟨s, hs⟩ => hs ▸ h _ s.near, fun h w' hw' => h w' ⟨⟨w', hw'⟩, rfl⟩⟩
    rw [← e]
    exact this)
/-- The first m + 1 quiet among the worlds that are as w was; operation b behind them, which yields v in any world; the others in a forced order. -/
theorem wp_region_near_late {id : Nat} {Q : Exit → Act → World → Prop} {a : Act} {w : World} {l : List Oper} (m b : Nat) (ks : List Nat) (ob : Oper) (tl : List Oper) (hm : P.follows .mixedOrders = true)
    (hob : l.toArray[b]? = some ob) (htl : ks.map (fun k => l.toArray[k]?) = tl.map some) (hsz : m + 1 + (tl.length + 1) = l.length) (hB : Region.lateB .any l.toArray m b ks = true)
    (hQ : ∀ c a v w, Q (.panic c) (a.put ob.dst v) w → Q (.panic c) a w)
    (h : (∀ (s : Near w.heap.size w) b o, b < w.heap.size → s.it.cell? ⟨b, o, none⟩ = w.cell? ⟨b, o, none⟩) →
      wpQuiet P l.toArray (fun w' => ∃ s : Near w.heap.size w, w' = s.it) (fun a' => ∃ v, Yields P l.toArray ob v a' ∧ ∀ w', Below w.heap.size w w' → wpList P l.toArray Q tl (a'.put ob.dst v) w') (l.take (m + 1)) a) : (Code.region id l.toArray true).wp P Q a w := by
  simp only [Region.lateB, Bool.and_eq_true, decide_eq_true_eq] at hB
  obtain ⟨⟨hs, hn⟩, ⟨hsink, hfan⟩, hlex⟩ := hB
  have hn' : m < l.length := by simpa using hn
  have hlt : (l.take (m + 1)).length = m + 1 := by simp; omega
  have H := headAny_late (P := P) (C := fun w' => ∃ s : Near w.heap.size w, w' = s.it) (md := .any) (b := b) (ks := ks) hs hsink hfan hn (l.take (m + 1)) 0 (Array.replicate l.toArray.size false) a
    (fun j hj => by rw [hlt] at hj; simp [hj]) (by simpa using hlt)
    ⟨by simp, fun j oj _ hl => (by rw [getD_replicate_false] at hl; cases hl), fun t _ ht => getD_in (by simpa using ht) (getD_replicate_false _ _)⟩
    (by rw [hlt]; exact hlex) (h (near_cells _ _))
  refine wp_region_any hm ?_
  have := headAny_sound (Q := Q) (g := tl.length + 1) (fun listed a' w' ⟨s, hw'⟩ hL => by
    obtain ⟨⟨hr, hf⟩, ⟨_, hfo⟩, v, hy, hk⟩ := hL
    subst hw'
    exact wpAny_take hob hs hf hr (fun c a w h => hQ c a v w h) hy (wpAny_of_force ks tl _ _ _ htl hfo (hk _ s.near))) _ _ _ w.drew Near.self H
  rw [hlt, hsz] at this
  simpa using this
end
end Go.Proofs.Ytiaefmmcakagpaa

/- Small laws that all walks of this seat use: min and max of two integers as Lean's own, and what 'Below' gives. -/
namespace Go.Proofs.Ytiaefmmcakagpaa
set_option linter.unusedSimpArgs false
set_option linter.unusedVariables false
open Go.RowKit

theorem max_ints (ats : Array TypeId) (ty : TypeId) (k : IntKind) (a b : Int) :
    Builtin.max_ ats ty #[.int k a, .int k b] = pure (.int k (max a b)) := by
  have : (if b > a then b else a) = max a b := by split <;> omega
  simp [Builtin.max_, Builtin.max2, this]

theorem min_ints (ats : Array TypeId) (ty : TypeId) (k : IntKind) (a b : Int) :
    Builtin.min_ ats ty #[.int k a, .int k b] = pure (.int k (min a b)) := by
  have : (if b < a then b else a) = min a b := by split <;> omega
  simp [Builtin.min_, Builtin.min2, this]

attribute [go_sem ↓] max_ints min_ints

theorem ret_int {k : IntKind} {a b : Int} (h : a = b) : Ending.returned (.int k a) = .returned (.int k b) := by rw [h]

section
variable {B : Nat} {w W w1 : World}
/-- What a walk is told of one block in a world that is as W was. -/
theorem Below.blk (hb : Below W.heap.size W w1) {b : Nat} (h : b < W.heap.size) :
    (∀ o, w1.cell? ⟨b, o, none⟩ = W.cell? ⟨b, o, none⟩) ∧ (∀ o, w1.frozen? ⟨b, o, none⟩ = W.frozen? ⟨b, o, none⟩) :=
  ⟨fun o => hb.cell (p := ⟨b, o, none⟩) h, fun o => hb.frozen (p := ⟨b, o, none⟩) h⟩
theorem Below.thru (h : Below w.heap.size w W) (hb : Below W.heap.size W w1) : Below w.heap.size w w1 := h.trans (hb.mono h.size)
theorem Below.al (h : Below w.heap.size w W) {o : Obj} : Below w.heap.size w (W.alloc o) := h.alloc h.size o
theorem Below.set (h : Below w.heap.size w W) {p : Addr} {u : Value} (hp : w.heap.size ≤ p.block) : Below w.heap.size w (W.setCell p u) := h.setCell hp u
end

/-- A block of the call's own that is not frozen, and what its cells hold. -/
structure Box (w : World) (b : Nat) (vs : List Value) : Prop where
  lt : b < w.heap.size
  cells : ∀ o, w.cell? ⟨b, o, none⟩ = vs[o]?
  free : ∀ o, w.frozen? ⟨b, o, none⟩ = false

section
variable {w W w1 : World} {b : Nat} {vs : List Value}
theorem Box.below (h : Box W b vs) (hb : Below W.heap.size W w1) : Box w1 b vs :=
  ⟨Nat.lt_of_lt_of_le h.lt hb.size, fun o => ((Below.blk hb h.lt).1 o).trans (h.cells o), fun o => ((Below.blk hb h.lt).2 o).trans (h.free o)⟩
theorem Box.new (vs : List Value) (t : TypeId) : Box (w.alloc (.cells vs.toArray t)) w.heap.size vs := by
  refine ⟨by simp, fun o => ?_, fun o => ?_⟩
  · rw [World.cell?_alloc_new]; simp
  · exact World.frozen?_alloc_new _ _ _ _
theorem Box.alloc (h : Box w b vs) (o : Obj) : Box (w.alloc o) b vs := h.below ((Below.refl _ _).alloc (Nat.le_refl _) o)
theorem Box.drew (h : Box w b vs) : Box w.drew b vs := h.below (Below.refl _ _).drew
theorem Box.other (h : Box w b vs) {c : Addr} {v : Value} (hc : b ≠ c.block) : Box (w.setCell c v) b vs := by
  refine ⟨by simpa using h.lt, fun o => ?_, fun o => ?_⟩
  · rw [World.cell?_of_block (w := w) (Below.heap_setCell w c v b hc)]; exact h.cells o
  · simpa using h.free o
theorem Box.set (h : Box w b vs) (i : Nat) (v : Value) (hi : i < vs.length) : Box (w.setCell ⟨b, i, none⟩ v) b (vs.set i v) := by
  refine ⟨by simpa using h.lt, fun o => ?_, fun o => by simpa using h.free o⟩
  have hc := h.cells o
  by_cases e : i = o
  · subst e
    rw [World.cell?_setCell_same _ _ _ (u := vs[i]) (by rw [h.cells i]; simp [hi])]
    simp [hi]
  · rw [World.cell?_setCell_other _ _ _ _ (by simp [e]), hc]
    simp [List.getElem?_set_ne e]
theorem Box.al (h : Box w b vs) {o : Obj} : Box (w.alloc o) b vs := h.alloc o
theorem Box.oth (h : Box w b vs) {c : Addr} {v : Value} (hc : b ≠ c.block) : Box (w.setCell c v) b vs := h.other hc
theorem Box.new_at {v : List Value} {t : TypeId} {n : Nat} (hn : n = w.heap.size) : Box (w.alloc (.cells v.toArray t)) n v := hn ▸ Box.new v t
theorem Box.set0 {u v : Value} (h : Box w b (u :: vs)) : Box (w.setCell ⟨b, 0, none⟩ v) b (v :: vs) := h.set 0 v (by simp)
theorem Box.set1 {x0 : Value} {u v : Value} (h : Box w b (x0 :: u :: vs)) : Box (w.setCell ⟨b, 1, none⟩ v) b (x0 :: v :: vs) := h.set 1 v (by simp)
theorem Box.set2 {x0 x1 : Value} {u v : Value} (h : Box w b (x0 :: x1 :: u :: vs)) : Box (w.setCell ⟨b, 2, none⟩ v) b (x0 :: x1 :: v :: vs) := h.set 2 v (by simp)
theorem Box.set3 {x0 x1 x2 : Value} {u v : Value} (h : Box w b (x0 :: x1 :: x2 :: u :: vs)) : Box (w.setCell ⟨b, 3, none⟩ v) b (x0 :: x1 :: x2 :: v :: vs) := h.set 3 v (by simp)
theorem Box.set4 {x0 x1 x2 x3 : Value} {u v : Value} (h : Box w b (x0 :: x1 :: x2 :: x3 :: u :: vs)) : Box (w.setCell ⟨b, 4, none⟩ v) b (x0 :: x1 :: x2 :: x3 :: v :: vs) := h.set 4 v (by simp)
theorem Box.set5 {x0 x1 x2 x3 x4 : Value} {u v : Value} (h : Box w b (x0 :: x1 :: x2 :: x3 :: x4 :: u :: vs)) : Box (w.setCell ⟨b, 5, none⟩ v) b (x0 :: x1 :: x2 :: x3 :: x4 :: v :: vs) := h.set 5 v (by simp)
theorem Box.set6 {x0 x1 x2 x3 x4 x5 : Value} {u v : Value} (h : Box w b (x0 :: x1 :: x2 :: x3 :: x4 :: x5 :: u :: vs)) : Box (w.setCell ⟨b, 6, none⟩ v) b (x0 :: x1 :: x2 :: x3 :: x4 :: x5 :: v :: vs) := h.set 6 v (by simp)
theorem Box.set7 {x0 x1 x2 x3 x4 x5 x6 : Value} {u v : Value} (h : Box w b (x0 :: x1 :: x2 :: x3 :: x4 :: x5 :: x6 :: u :: vs)) : Box (w.setCell ⟨b, 7, none⟩ v) b (x0 :: x1 :: x2 :: x3 :: x4 :: x5 :: x6 :: v :: vs) := h.set 7 v (by simp)
theorem Box.set8 {x0 x1 x2 x3 x4 x5 x6 x7 : Value} {u v : Value} (h : Box w b (x0 :: x1 :: x2 :: x3 :: x4 :: x5 :: x6 :: x7 :: u :: vs)) : Box (w.setCell ⟨b, 8, none⟩ v) b (x0 :: x1 :: x2 :: x3 :: x4 :: x5 :: x6 :: x7 :: v :: vs) := h.set 8 v (by simp)
end

end Go.Proofs.Ytiaefmmcakagpaa

/- Slices of the call's own, wherever they begin in their row, and also where the row was made of a string: what they hold, and append. -/
namespace Go.Proofs.Ytiaefmmcakagpaa
set_option linter.unusedSimpArgs false
set_option linter.unusedVariables false
open Go Go.RowKit

/-- A contract of a method that writes into one block: what is handed back, that nothing else that was there has turned, and what the block holds. -/
def RetC (w : World) (c : Nat) (v : Value) (vs : List Value) (e : Ending) (w' : World) : Prop := e = .returned v ∧ w.grownBy w' (some c) ∧ Box w' c vs
theorem RetC.mk {w w' : World} {c : Nat} {v u : Value} {vs : List Value} (h : v = u) (hg : w.grownBy w' (some c)) (hb : Box w' c vs) : RetC w c u vs (.returned v) w' := ⟨by rw [h], hg, hb⟩

theorem grown_refl (w : World) (r : Option Nat) : w.grownBy w r := ⟨rfl, rfl, rfl, Nat.le_refl _, fun _ _ _ => rfl⟩
theorem grown_trans {w w1 w2 : World} {r : Option Nat} (h : w.grownBy w1 r) (k : w1.grownBy w2 r) : w.grownBy w2 r :=
  ⟨k.os.trans h.os, k.tape.trans h.tape, k.output.trans h.output, Nat.le_trans h.size k.size, fun b hb hn => (k.block b (Nat.lt_of_lt_of_le hb h.size) hn).trans (h.block b hb hn)⟩
theorem grown_set {w W : World} {c : Nat} {p : Addr} {u : Value} (h : w.grownBy W (some c)) (hp : p.block = c ∨ w.heap.size ≤ p.block) : w.grownBy (W.setCell p u) (some c) :=
  ⟨h.os, h.tape, h.output, by simpa using h.size, fun b hb hn => (Below.heap_setCell W p u b (fun e => by
    rcases hp with hp | hp
    · exact hn (by rw [e, hp])
    · omega)).trans (h.block b hb hn)⟩
theorem grown_al {w W : World} {r : Option Nat} {o : Obj} (h : w.grownBy W r) : w.grownBy (W.alloc o) r :=
  ⟨h.os, h.tape, h.output, by have := h.size; simp; omega, fun b hb hn => (Below.heap_alloc W o b (Nat.lt_of_lt_of_le hb h.size)).trans (h.block b hb hn)⟩
theorem grown_drew {w W : World} {r : Option Nat} (h : w.grownBy W r) : w.grownBy W.drew r := ⟨h.os, h.tape, h.output, h.size, h.block⟩
theorem grown_below {w W w' : World} {r : Option Nat} (h : w.grownBy W r) (hb : Below W.heap.size W w') : w.grownBy w' r :=
  ⟨hb.os.trans h.os, hb.tape.trans h.tape, hb.output.trans h.output, Nat.le_trans h.size hb.size, fun b hlt hn => (hb.block b (Nat.lt_of_lt_of_le hlt h.size)).trans (h.block b hlt hn)⟩
theorem Below.chg {w W w' : World} {c : Nat} (h : Below w.heap.size w W) (hg : W.grownBy w' (some c)) (hc : w.heap.size ≤ c) : Below w.heap.size w w' :=
  h.grown hg h.size (fun k hk => by injection hk with hk; omega)
theorem Box.chg {w w' : World} {b c : Nat} {vs : List Value} (h : Box w b vs) (hg : w.grownBy w' (some c)) (hne : b ≠ c) : Box w' b vs := by
  have hb := hg.block b h.lt (by simpa using hne)
  exact ⟨Nat.lt_of_lt_of_le h.lt hg.size, fun o => (World.cell?_of_block (w := w) (a := ⟨b, o, none⟩) hb).trans (h.cells o), fun o => (World.frozen?_of_block (w := w) (a := ⟨b, o, none⟩) hb).trans (h.free o)⟩
theorem grown_blk {w w' : World} {b c : Nat} (hg : w.grownBy w' (some c)) (hne : b ≠ c) (hb : b < w.heap.size) :
    (∀ o, w'.cell? ⟨b, o, none⟩ = w.cell? ⟨b, o, none⟩) ∧ (∀ o, w'.frozen? ⟨b, o, none⟩ = w.frozen? ⟨b, o, none⟩) := by
  have h := hg.block b hb (by simpa using hne)
  exact ⟨fun o => World.cell?_of_block (w := w) (a := ⟨b, o, none⟩) h, fun o => World.frozen?_of_block (w := w) (a := ⟨b, o, none⟩) h⟩

/-- The slice value v, of n elements of 'size' cells each, holds the cells xs, in a row of the call's own (blocks from base on), of which all that it could hold may be written. -/
def Own (w : World) (base size : Nat) (v : Value) (n : Nat) (xs : List Value) : Prop :=
  xs.length = n * size ∧ ((v = .slice none 0 0 ∧ n = 0) ∨
    ∃ g o cap, v = .slice (some ⟨g, o, none⟩) n cap ∧ base ≤ g ∧ g < w.heap.size ∧ n ≤ cap ∧ cap ≤ maxLen ∧
      (∀ j u, xs[j]? = some u → w.cell? ⟨g, o + j, none⟩ = some u) ∧
      (∀ j, j < cap * size → (w.cell? ⟨g, o + j, none⟩).isSome = true ∧ w.frozen? ⟨g, o + j, none⟩ = false))

section
variable {w w' : World} {base size n : Nat} {v : Value} {xs : List Value}

theorem Own.nil (w : World) (base size : Nat) : Own w base size (.slice none 0 0) 0 [] := ⟨by simp, .inl ⟨rfl, rfl⟩⟩

theorem Own.grown {row : Option Nat} (h : Own w base size v n xs) (hg : w.grownBy w' row) (hne : v.ownBlock = none ∨ v.ownBlock ≠ row) : Own w' base size v n xs := by
  refine ⟨h.1, h.2.imp id ?_⟩
  rintro ⟨g, o, cap, rfl, hb, hlt, hn, hc, hx, hr⟩
  have hblk := hg.block g hlt (by simpa [Value.ownBlock] using hne)
  refine ⟨g, o, cap, rfl, hb, Nat.lt_of_lt_of_le hlt hg.size, hn, hc, fun j u hu => ?_, fun j hj => ?_⟩
  · rw [World.cell?_of_block (w := w) (a := ⟨g, o + j, none⟩) hblk]; exact hx j u hu
  · rw [World.cell?_of_block (w := w) (a := ⟨g, o + j, none⟩) hblk, World.frozen?_of_block (w := w) (a := ⟨g, o + j, none⟩) hblk]; exact hr j hj

theorem grown_of_below {B : Nat} (h : Below w.heap.size w w') : w.grownBy w' none := ⟨h.os, h.tape, h.output, h.size, fun k hk _ => h.block k hk⟩
theorem below_of_grown {row : Option Nat} (hg : w.grownBy w' row) (hr : ∀ k, row = some k → base ≤ k) (hb : base ≤ w.heap.size) : Below base w w' :=
  (Below.refl base w).grown hg hb hr

theorem Own.below (h : Own w base size v n xs) (hb : Below w.heap.size w w') : Own w' base size v n xs :=
  h.grown (grown_of_below (B := 0) hb) (by cases hv : v.ownBlock <;> simp)
theorem Own.alloc (h : Own w base size v n xs) (o : Obj) : Own (w.alloc o) base size v n xs := h.below ((Below.refl _ _).alloc (Nat.le_refl _) o)
theorem Own.drew (h : Own w base size v n xs) : Own w.drew base size v n xs := h.below (Below.refl _ _).drew
theorem Own.set (h : Own w base size v n xs) {p : Addr} {u : Value} (hp : v.ownBlock ≠ some p.block) : Own (w.setCell p u) base size v n xs :=
  h.grown (row := some p.block) ⟨rfl, rfl, rfl, by simp, fun k _ hk => Below.heap_setCell w p u k (fun e => hk (by rw [e]))⟩ (.inr hp)
theorem Own.lt (h : Own w base size v n xs) : ∀ k, v.ownBlock = some k → base ≤ k ∧ k < w.heap.size := by
  intro k hk
  rcases h.2 with ⟨rfl, _⟩ | ⟨g, o, cap, rfl, hb, hlt, _⟩
  · simp [Value.ownBlock] at hk
  · simp [Value.ownBlock] at hk
    subst hk
    exact ⟨hb, hlt⟩

theorem Own.of_ownsRow {e : TypeId} (h : w.ownsRow base e size v n xs) : Own w base size v n xs := by
  refine ⟨h.1, h.2.imp id ?_⟩
  rintro ⟨g, cap, cur, rfl, hb, hg, hn, hc, hs, ht⟩
  have hlt : g < w.heap.size := (Array.getElem?_eq_some_iff.1 hg).1
  refine ⟨g, 0, cap, rfl, hb, hlt, hn, hc, fun j u hu => ?_, fun j hj => ?_⟩
  · have := h.cells (g := g) rfl j u hu
    have hadd : (⟨g, 0, none⟩ : Addr).add j = ⟨g, j, none⟩ := by unfold Addr.add; split <;> simp_all
    rw [hadd] at this
    simpa using this
  · have hcell := cell_of_row w g j cur e (0, 0) hg
    simp only [Nat.zero_add]
    rw [hcell]
    refine ⟨by simp [show j < cur.size by omega], ?_⟩
    simp [World.frozen?, hg]

/-- 'append(v, news...)': what it hands back holds both, and nothing but v's own row has turned. -/
theorem run_app {P : Program} (base : Nat) (t ty e : TypeId) (i : TypeInfo) (z : Value) (size bytes : Nat) (ht : P.underlying t = some (.slice e)) (hi : P.info? e = some i) (hz : i.zero = some z)
    (hsize : i.size = size) (hby : i.bytes = bytes) (hzs : z.cells.size = size) (hsz : 0 < size)
    (v : Value) (n : Nat) (xs : List Value) (hown : Own w base size v n xs)
    (a : Addr) (m c : Nat) (news : List Value) (hl : news.length = m * size) (hnews : ∀ j u, news[j]? = some u → w.cell? (a.add j) = some u) (h1 : ∀ u ∈ news, u.oneCell' = true)
    (h63 : n + m ≤ maxLen) (hbytes : (n + m) * bytes ≤ 140737488355328) (hbase : base ≤ w.heap.size) :
    ∃ v' w', (Builtin.append_ #[t, t] ty #[v, .slice (some a) m c]).run P w = .ok v' w' ∧ Own w' base size v' (n + m) (xs ++ news) ∧ w.grownBy w' v.ownBlock ∧
      (v'.ownBlock = v.ownBlock ∨ ∃ k, v'.ownBlock = some k ∧ w.heap.size ≤ k) := by
  subst hsize
  subst hby
  rcases hown.2 with ⟨rfl, rfl⟩ | ⟨g, o, cap, rfl, hbg, hlt, hnc, hcm, hx, hr⟩
  · have hx : xs = [] := List.eq_nil_of_length_eq_zero (by simpa using hown.1)
    subst hx
    obtain ⟨v', w', hrun, ho, hg, hnil⟩ := run_append_own (P := P) w w.heap.size t ty e i z i.size i.bytes ht hi hz rfl rfl hzs hsz (.slice none 0 0) 0 [] (World.ownsRow_nil w _ e i.size) a m c news hl hnews h1 h63 hbytes (Nat.le_refl _)
    refine ⟨v', w', hrun, ?_, hg, ?_⟩
    · have := Own.of_ownsRow ho
      refine ⟨this.1, this.2.imp id ?_⟩
      rintro ⟨g, o, cap, e1, e2, rest⟩
      exact ⟨g, o, cap, e1, Nat.le_trans hbase e2, rest⟩
    · cases hv : v'.ownBlock with
      | none => exact .inl (by simp [Value.ownBlock])
      | some k => exact .inr ⟨k, rfl, (ho.lt k hv).1⟩
  · by_cases hroom : n + m ≤ cap
    · have hnl : n * i.size + news.length ≤ cap * i.size := by rw [hl, ← Nat.add_mul]; exact Nat.mul_le_mul_right _ hroom
      have hsp : ∀ j, j < news.length → (w.cell? ⟨g, o + n * i.size + j, none⟩).isSome = true ∧ w.frozen? ⟨g, o + n * i.size + j, none⟩ = false := fun j hj => by
        have := hr (n * i.size + j) (by omega)
        rw [Nat.add_assoc]
        exact this
      have hrun := run_append_room_cells (P := P) w t ty e i ht hi g o n cap a m c news hl hnews h1 hroom (fun j hj => (hsp j hj).1) (fun j hj => (hsp j hj).2)
      have hgb : ∀ (vs : List Value) (k : Nat) (w : World), w.grownBy (w.setCells g k vs) (some g) := by
        intro vs
        induction vs with
        | nil => intro k w; exact ⟨rfl, rfl, rfl, Nat.le_refl _, fun _ _ _ => rfl⟩
        | cons u vs ih =>
          intro k w
          have h0 := ih (k + 1) (w.setCell ⟨g, k, none⟩ u)
          have hsz : (w.setCell ⟨g, k, none⟩ u).heap.size = w.heap.size := by simp
          exact ⟨h0.os, h0.tape, h0.output, by have := h0.size; rw [hsz] at this; exact this, fun j hj hjk => (h0.block j (by rw [hsz]; exact hj) hjk).trans (Below.heap_setCell w ⟨g, k, none⟩ u j (fun e => hjk (by rw [e])))⟩
      refine ⟨_, _, hrun, ⟨by rw [List.length_append, hown.1, hl, Nat.add_mul], .inr ⟨g, o, cap, rfl, hbg, Nat.lt_of_lt_of_le hlt (hgb _ _ w).size, hroom, hcm, fun j u hu => ?_, fun j hj => ?_⟩⟩, hgb _ _ w, .inl rfl⟩
      · by_cases hj : j < xs.length
        · rw [List.getElem?_append_left hj] at hu
          rw [World.cell?_setCells_out g news (o + n * i.size) w ⟨g, o + j, none⟩ (fun _ _ => .inl (by have := hown.1; simp only; omega))]
          exact hx j u hu
        · have hxl := hown.1
          rw [List.getElem?_append_right (by omega)] at hu
          have hj2 : j - xs.length < news.length := (List.getElem?_eq_some_iff.1 hu).1
          have := World.cell?_setCells_in g news (o + n * i.size) w (fun j hj => (hsp j hj).1) (j - xs.length) hj2
          rw [show o + j = o + n * i.size + (j - xs.length) by omega, this]
          rw [List.getElem?_eq_getElem hj2] at hu
          exact hu
      · refine ⟨?_, by rw [World.frozen?_setCells]; exact (hr j hj).2⟩
        by_cases hj1 : j < n * i.size ∨ n * i.size + news.length ≤ j
        · rw [World.cell?_setCells_out g news (o + n * i.size) w ⟨g, o + j, none⟩ (fun _ _ => by simp only; omega)]
          exact (hr j hj).1
        · have hj2 : j - n * i.size < news.length := by omega
          have := World.cell?_setCells_in g news (o + n * i.size) w (fun j hj => (hsp j hj).1) (j - n * i.size) hj2
          rw [show o + j = o + n * i.size + (j - n * i.size) by omega, this]
          rfl
    · obtain ⟨v', w', hrun, ho, hg⟩ := run_append_arg_grows (P := P) w t ty e i z i.size i.bytes ht hi hz rfl rfl hzs hsz ⟨g, o, none⟩ n cap xs hown.1 (fun j u hu => by
        have := hx j u hu
        unfold Addr.add
        split
        · rename_i h0; subst h0; simpa using this
        · exact this) a m c news hl hnews (by omega) h63 hbytes
      refine ⟨v', w', hrun, ?_, ⟨hg.os, hg.tape, hg.output, hg.size, fun k hk _ => hg.block k hk (by simp)⟩, ?_⟩
      · have := Own.of_ownsRow ho
        refine ⟨this.1, this.2.imp id ?_⟩
        rintro ⟨g, o, cap, e1, e2, rest⟩
        exact ⟨g, o, cap, e1, Nat.le_trans hbase e2, rest⟩
      · cases hv : v'.ownBlock with
        | none =>
          exfalso
          rcases ho.2 with ⟨rfl, h0⟩ | ⟨g', cap', cur, rfl, _⟩
          · omega
          · simp [Value.ownBlock] at hv
        | some k => exact .inr ⟨k, rfl, (ho.lt k hv).1⟩

theorem wpList_app {P : Program} {ops : Array Oper} {rest : List Oper} {o : Oper} {a : Act} {Q : Exit → Act → World → Prop} (hgd : o.guard = none) (s x : Operand) (t : TypeId)
    (ho : o.op = .call { callee := .builtin .append, args := #[s, x], argTypes := #[t, t] })
    (base : Nat) (e : TypeId) (i : TypeInfo) (z : Value) (size bytes : Nat) (ht : P.underlying t = some (.slice e)) (hi : P.info? e = some i) (hz : i.zero = some z)
    (hsize : i.size = size) (hby : i.bytes = bytes) (hzs : z.cells.size = size) (hsz : 0 < size)
    (v : Value) (n : Nat) (xs : List Value) (hs : a.eval s = v) (hown : Own w base size v n xs)
    (ad : Addr) (m c : Nat) (news : List Value) (hx : a.eval x = .slice (some ad) m c) (hl : news.length = m * size) (hnews : ∀ j u, news[j]? = some u → w.cell? (ad.add j) = some u) (h1 : ∀ u ∈ news, u.oneCell' = true)
    (h63 : n + m ≤ maxLen) (hbytes : (n + m) * bytes ≤ 140737488355328) (hbase : base ≤ w.heap.size)
    (h : ∀ v' w', Own w' base size v' (n + m) (xs ++ news) → w.grownBy w' v.ownBlock → (v'.ownBlock = v.ownBlock ∨ ∃ k, v'.ownBlock = some k ∧ w.heap.size ≤ k) → wpList P ops Q rest (a.put o.dst v') w') : wpList P ops Q (o :: rest) a w :=
  wpList_plain hgd fun _ hK => by
    obtain ⟨v', w', hrun, h2, h3, h4⟩ := run_app (P := P) base t o.type e i z size bytes ht hi hz hsize hby hzs hsz v n xs hown ad m c news hl hnews h1 h63 hbytes hbase
    unfold Oper.wp execOp
    simp only [ho, resolve, invoke, builtin, Sem.run_bind, Sem.run_pure, Result.andThen_ok, List.map_toArray, List.map_cons, List.map_nil, hs, hx, hrun]
    exact hK _ _ (h v' w' h2 h3 h4)

/-- 'append(v, x..)' where what is put behind was just laid in a new block. -/
theorem wpList_app_new {P : Program} {ops : Array Oper} {rest : List Oper} {o : Oper} {a : Act} {Q : Exit → Act → World → Prop} {W : World} {te : TypeId} (hgd : o.guard = none) (s x : Operand) (t : TypeId)
    (ho : o.op = .call { callee := .builtin .append, args := #[s, x], argTypes := #[t, t] })
    (base : Nat) (e : TypeId) (i : TypeInfo) (z : Value) (size bytes : Nat) (ht : P.underlying t = some (.slice e)) (hi : P.info? e = some i) (hz : i.zero = some z)
    (hsize : i.size = size) (hby : i.bytes = bytes) (hzs : z.cells.size = size) (hsz : 0 < size)
    (v : Value) (n : Nat) (xs : List Value) (hs : a.eval s = v) (hown : Own W base size v n xs)
    (m c : Nat) (news : List Value) (hx : a.eval x = .slice (some ⟨W.heap.size, 0, none⟩) m c) (hl : news.length = m * size) (h1 : ∀ u ∈ news, u.oneCell' = true)
    (hsm : n + m ≤ 1000000000) (hbs : bytes ≤ 100000) (hbase : base ≤ W.heap.size)
    (h : ∀ v' w', Own w' base size v' (n + m) (xs ++ news) → W.grownBy w' v.ownBlock → (v'.ownBlock = v.ownBlock ∨ ∃ k, v'.ownBlock = some k ∧ W.heap.size ≤ k) → wpList P ops Q rest (a.put o.dst v') w') :
    wpList P ops Q (o :: rest) a (W.alloc (.cells news.toArray te)) := by
  have hb : (n + m) * bytes ≤ 1000000000 * 100000 := Nat.mul_le_mul hsm hbs
  refine wpList_app hgd s x t ho base e i z size bytes ht hi hz hsize hby hzs hsz v n xs hs (hown.alloc _) ⟨W.heap.size, 0, none⟩ m c news hx hl (fun j u hu => ?_) h1 (by unfold maxLen; omega) (by omega) (by simp; omega) fun v' w' h2 h3 h4 => h v' w' h2 ?_ ?_
  · have hadd : (⟨W.heap.size, 0, none⟩ : Addr).add j = ⟨W.heap.size, j, none⟩ := by unfold Addr.add; split <;> simp_all
    rw [hadd, World.cell?_alloc_new]
    simpa using hu
  · have h0 := World.grownBy_alloc W (.cells news.toArray te) v.ownBlock
    have hsz := h3.size
    simp only [World.size_alloc] at hsz
    exact ⟨h3.os.trans h0.os, h3.tape.trans h0.tape, h3.output.trans h0.output, by omega, fun k hk hn => (h3.block k (by simp; omega) hn).trans (h0.block k hk hn)⟩
  · exact h4.imp id fun ⟨k, hk, hle⟩ => ⟨k, hk, by simp at hle; omega⟩

theorem Own.grown_below (h : Own w base size v n xs) {W : World} {B : Nat} (hg : w.grownBy W v.ownBlock) (hB : B ≤ base) (hs : B ≤ w.heap.size) : Below B w W :=
  below_of_grown hg (fun k hk => Nat.le_trans hB (h.lt k hk).1) hs

/-- Bytes as cells. -/
def byteVal (b : UInt8) : Value := .int .u8 (b.toNat : Int)

/-- '[]byte(s)'. -/
theorem wpList_bytes {P : Program} {ops : Array Oper} {rest : List Oper} {o : Oper} {a : Act} {Q : Exit → Act → World → Prop} (hgd : o.guard = none) (x : Operand) (src dst e : TypeId)
    (ho : o.op = .convert src dst x) {u : TypeDesc} (hsrc : P.underlying src = some u) (hd : P.underlying dst = some (.slice e)) (he : P.underlying e = some (.int .u8))
    (s : ByteArray) (hx : a.eval x = .string s) (hs : s.size ≤ maxLen)
    (h : ∀ v w', Own w' w.heap.size 1 v s.size (s.data.toList.map byteVal) → Below w.heap.size w w' → v.ownBlock = some w.heap.size → wpList P ops Q rest (a.put o.dst v) w') : wpList P ops Q (o :: rest) a w :=
  wpList_plain hgd fun _ hK => by
    have hrun := Lib.run_convert_string_bytes (P := P) w src dst e s hsrc hd he
    unfold Oper.wp execOp
    simp only [ho, hx, Sem.run_bind, hrun, Sem.run_pure, Result.andThen_ok]
    refine hK _ _ (h _ _ ⟨by simp, .inr ⟨w.heap.size, 0, grownCap w s.size 0 e, rfl, Nat.le_refl _, by rw [Lib.bytesWorld_size]; omega, grownCap_ge w _ _ _, grownCap_le_maxLen w _ _ _ hs, fun j u hu => ?_, fun j hj => ?_⟩⟩ ?_ rfl)
    · have hj : j < s.size := by
        have := (List.getElem?_eq_some_iff.1 hu).1
        simpa using this
      rw [Nat.zero_add, Lib.bytesWorld_cell w e s j hj]
      have hj' : j < s.data.toList.length := by simpa using hj
      simp [List.getElem?_map, List.getElem?_eq_getElem hj'] at hu
      rw [← hu]
      simp [byteVal, List.getD, hj]
    · have hnew := Lib.bytesWorld_at_new w e s
      have hge := grownCap_ge w s.size 0 e
      have hsz : (Lib.bytesCells w e s).size = grownCap w s.size 0 e := by simp [Lib.bytesCells]; omega
      refine ⟨?_, ?_⟩
      · rw [Nat.zero_add]
        simp [World.cell?, hnew, hsz]
        omega
      · rw [Nat.zero_add]
        simp [World.frozen?, hnew, hsz]
        omega
    · exact ⟨rfl, rfl, rfl, by rw [Lib.bytesWorld_size]; omega, fun k hk => Lib.bytesWorld_at_old w e s k hk⟩

/-- 'string(b)'. -/
theorem run_str {P : Program} (base : Nat) (src dst e : TypeId) (hs : P.underlying src = some (.slice e)) (he : P.underlying e = some (.int .u8)) (hd : P.underlying dst = some .string)
    (v : Value) (l : List UInt8) (n : Nat) (hn : n = l.length) (hown : Own w base 1 v n (l.map byteVal)) : (convert src dst v).run P w = .ok (.string ⟨l.toArray⟩) w := by
  subst hn
  rcases hown.2 with ⟨rfl, h0⟩ | ⟨g, o, cap, rfl, _, _, _, _, hx, _⟩
  · have : l = [] := List.eq_nil_of_length_eq_zero h0
    subst this
    rw [run_convert_bytes_string w src dst e none 0 0 hs he hd]
    simp [Conv.bytesToString, Sem.run_pure]
    rfl
  · refine run_convert_bytes_back w src dst e ⟨g, o, none⟩ cap l hs he hd fun j hj => ?_
    have := hx j (byteVal l[j]) (by simp [hj])
    unfold Addr.add
    split
    · rename_i h0; subst h0; simpa [byteVal] using this
    · simpa [byteVal] using this
end
end Go.Proofs.Ytiaefmmcakagpaa

/- What a walk is told of an argument, whatever its type (of bools, integers, strings, slices, arrays and structs): its cells, and the cells that they lead to, fit a shape. -/
namespace Go.Proofs.Ytiaefmmcakagpaa
set_option linter.unusedSimpArgs false
set_option linter.unusedVariables false
open Go Go.RowKit Go.ChangeShapes Go.WideShapes Go.Deep

inductive Sh where
  | bool
  | int (k : IntKind)
  | str
  | slice (n : Nat) (e : Sh)
  | arr (m n : Nat) (e : Sh)
  | nil
  | cons (n : Nat) (f : Sh) (r : Sh)

/-- The cells 'cs' are a value of the shape, in the world w. -/
def Fits (w : World) : Sh → List Value → Prop
  | .bool, cs => ∃ b, cs = [.bool b]
  | .int k, cs => ∃ n, cs = [.int k n] ∧ (Lit.int k n).wf = true
  | .str, cs => ∃ s : ByteArray, cs = [.string s] ∧ s.size ≤ maxLen
  | .slice n e, cs => cs = [.slice none 0 0] ∨ ∃ (a : Addr) (len cap : Nat), cs = [.slice (some a) len cap] ∧ len ≤ cap ∧ cap ≤ maxLen ∧
      ∀ i, i < len → ∃ es : List Value, es.length = n ∧ (∀ j, j < n → w.cell? (a.add (i * n + j)) = es[j]?) ∧ Fits w e es
  | .arr m n e, cs => cs.length = m * n ∧ ∀ i, i < m → Fits w e ((cs.drop (i * n)).take n)
  | .nil, cs => cs = []
  | .cons n f r, cs => n ≤ cs.length ∧ Fits w f (cs.take n) ∧ Fits w r (cs.drop n)

def fieldsSh (P : Program) (g : TypeId → Option Sh) (size : Nat) : Nat → List Field → Option Sh
  | o, [] => if o = size then some .nil else none
  | o, f :: fs => if f.offset = o ∧ o + P.cellsOf f.type ≤ size then (g f.type).bind fun a => (fieldsSh P g size (o + P.cellsOf f.type) fs).map (Sh.cons (P.cellsOf f.type) a) else none

/-- The shape of a type. -/
def shOf (P : Program) : Nat → TypeId → Option Sh
  | 0, _ => none
  | n + 1, t =>
    match P.underlying t with
    | some .bool => some .bool
    | some (.int k) => some (.int k)
    | some .string => some .str
    | some (.slice e) => (shOf P n e).map (Sh.slice (P.cellsOf e))
    | some (.array m e) => if m * P.cellsOf e = P.cellsOf t then (shOf P n e).map (Sh.arr m (P.cellsOf e)) else none
    | some (.struct fs) => fieldsSh P (shOf P n) (P.cellsOf t) 0 fs.toList
    | _ => none

section
variable {H : Type} {enc : TypeId × Value → H} {P : Program} {w : World} {base : Nat} {spare : Nat → Bool} {held : Bool}

theorem fits_fields {g : TypeId → Option Sh} {size m : Nat} (ih : ∀ t sh cs x, g t = some sh → DataW.trod enc P w base spare held m t cs = some x → Fits w sh cs) (cs : List Value) (hl : cs.length = size) :
    ∀ (fs : List Field) (o : Nat) (sh : Sh) (xs : List (DataW H × List MemPlace)), o ≤ size → fieldsSh P g size o fs = some sh → xs.length = fs.length →
      (∀ (i : Nat) (f : Field), fs[i]? = some f → DataW.trod enc P w base spare held m f.type ((cs.drop f.offset).take (P.cellsOf f.type)) = xs[i]?) → Fits w sh (cs.drop o)
  | [], o, sh, xs, ho, h, _, _ => by
    simp only [fieldsSh] at h
    split at h
    · obtain rfl := Option.some.inj h
      exact List.drop_eq_nil_of_le (by omega)
    · cases h
  | f :: fs, o, sh, xs, ho, h, hx, hf => by
    simp only [fieldsSh] at h
    split at h
    · rename_i hc
      obtain ⟨rfl, hs⟩ := hc
      cases ha : g f.type with
      | none => simp [ha] at h
      | some a =>
        cases hb : fieldsSh P g size (f.offset + P.cellsOf f.type) fs with
        | none => simp [ha, hb] at h
        | some b =>
          simp [ha, hb] at h
          subst h
          match xs, hx with
          | x :: xs, hx =>
            have h0 := hf 0 f rfl
            refine ⟨by simp; omega, ih _ _ _ _ ha h0, ?_⟩
            rw [List.drop_drop]
            exact fits_fields ih cs hl fs _ b xs hs hb (by simpa using hx) fun i f' h' => hf (i + 1) f' h'
    · cases h

theorem fits_of_trod : ∀ (k : Nat) (t : TypeId) (sh : Sh), shOf P k t = some sh → ∀ (fuel : Nat) (cs : List Value) (x : DataW H × List MemPlace),
    DataW.trod enc P w base spare held fuel t cs = some x → Fits w sh cs := by
  intro k
  induction k with
  | zero => intro t sh h; cases h
  | succ k ih =>
    intro t sh h fuel cs x hx
    simp only [shOf] at h
    split at h
    · rename_i hu
      obtain rfl := Option.some.inj h
      obtain ⟨b, hb, _⟩ := DataW.trod_bool hu hx
      exact ⟨b, hb⟩
    · rename_i k' hu
      obtain rfl := Option.some.inj h
      obtain ⟨n, hn, _, hw⟩ := DataW.trod_int hu hx
      exact ⟨n, hn, hw⟩
    · rename_i hu
      obtain rfl := Option.some.inj h
      obtain ⟨s, hs, _, hw⟩ := DataW.trod_string hu hx
      exact ⟨s, hs, hw⟩
    · rename_i e hu
      cases he : shOf P k e with
      | none => simp [he] at h
      | some se =>
        simp [he] at h
        subst h
        rcases open_slice hu hx with ⟨h0, _⟩ | ⟨a, len, cap, m, n, D, Pl, hcs, _, hl, hm, hmm, _, hi⟩
        · exact .inl h0
        · refine .inr ⟨a, len, cap, hcs, hl, hm, fun i hlt => ?_⟩
          obtain ⟨es, hc, ht⟩ := hi i (by rw [hmm]; split <;> omega)
          obtain ⟨_, hlen, hat⟩ := World.cells?_some hc
          refine ⟨es, hlen, fun j hj => ?_, ih e se he n es _ ht⟩
          rw [← hat j hj, Go.Deep.add_add]
    · rename_i m e hu
      split at h
      · rename_i hsz
        cases he : shOf P k e with
        | none => simp [he] at h
        | some se =>
          simp [he] at h
          subst h
          obtain ⟨xs, n, _, _, hl, hlx, hi⟩ := DataW.trod_array hu hx
          refine ⟨by rw [hl, hsz], fun i hlt => ?_⟩
          have := hi i hlt
          rw [List.getElem?_eq_getElem (by omega)] at this
          exact ih e se he n _ _ this
      · cases h
    · rename_i fs hu
      obtain ⟨xs, n, _, _, hl, hlx, hf⟩ := DataW.trod_struct hu hx
      have := fits_fields (P := P) (enc := enc) (w := w) (base := base) (spare := spare) (held := held) (m := n) (fun t sh cs x hg ht => ih t sh hg n cs x ht) cs hl fs.toList 0 sh xs (Nat.zero_le _) h (by simpa using hlx) (fun i f h' => hf i f (by simpa using h'))
      simpa using this
    · cases h

theorem cell_add {w : World} {a : Addr} {k : Nat} {v : Value} (h : w.cell? (a.add k) = some v) : w.cell? ⟨a.block, a.off + k, none⟩ = some v ∧ a.block < w.heap.size := by
  obtain ⟨b, o, sp⟩ := a
  have hb := World.block_lt_of_cell? w _ h
  have hs := World.cell?_spot h
  by_cases hk : k = 0
  · subst hk
    simp [Addr.add] at h hb hs
    subst hs
    exact ⟨by simpa using h, hb⟩
  · simp [Addr.add, hk] at h hb
    exact ⟨h, hb⟩

theorem fits_of_Trod {k : Nat} {t : TypeId} {sh : Sh} (h : shOf P k t = some sh) {v : Value} {d : DataW H} {ps : List MemPlace} (ht : DataW.Trod enc P w base spare held t v d ps) : Fits w sh v.cells.toList :=
  let ⟨_, h'⟩ := ht
  fits_of_trod k t sh h _ _ _ h'
end

/-- A slice: where it has elements it leads to a row of cells, element by element. -/
theorem fits_slice {w : World} {n : Nat} {e : Sh} {a : Option Addr} {len cap : Nat} (hn : 0 < n) (h : Fits w (.slice n e) [.slice a len cap]) :
    len ≤ maxLen ∧ (len = 0 ∨ ∃ b off, a = some ⟨b, off, none⟩ ∧ b < w.heap.size ∧ ∀ i, i < len → ∃ es : List Value, es.length = n ∧ (∀ j, j < n → w.cell? ⟨b, off + i * n + j, none⟩ = es[j]?) ∧ Fits w e es) := by
  rcases h with h | ⟨x, l, c, h, hl, hc, hi⟩
  · simp at h
    obtain ⟨rfl, rfl, rfl⟩ := h
    exact ⟨Nat.zero_le _, .inl rfl⟩
  · simp at h
    obtain ⟨rfl, rfl, rfl⟩ := h
    refine ⟨Nat.le_trans hl hc, ?_⟩
    by_cases h0 : len = 0
    · exact .inl h0
    · right
      obtain ⟨es, hlen, hcell, _⟩ := hi 0 (by omega)
      have h1 := hcell 0 hn
      rw [List.getElem?_eq_getElem (by omega)] at h1
      have hs := World.cell?_spot h1
      have hb := World.block_lt_of_cell? w _ h1
      obtain ⟨b, off, sp⟩ := x
      simp [Addr.add] at hs hb
      subst hs
      refine ⟨b, off, rfl, hb, fun i hlt => ?_⟩
      obtain ⟨es, hlen, hcell, hf⟩ := hi i hlt
      refine ⟨es, hlen, fun j hj => ?_, hf⟩
      have h2 := hcell j hj
      rw [List.getElem?_eq_getElem (by omega)] at h2 ⊢
      have := (cell_add h2).1
      simpa [Nat.add_assoc] using this

theorem fits_cons1 {w : World} {f r : Sh} {cs : List Value} (h : Fits w (.cons 1 f r) cs) : ∃ v vs, cs = v :: vs ∧ Fits w f [v] ∧ Fits w r vs := by
  obtain ⟨hl, hf, hr⟩ := h
  match cs, hl with
  | v :: vs, _ => exact ⟨v, vs, rfl, by simpa using hf, by simpa using hr⟩
theorem fits_int {w : World} {k : IntKind} {v : Value} (h : Fits w (.int k) [v]) : ∃ n, v = .int k n ∧ (Lit.int k n).wf = true := by
  obtain ⟨n, hn, hw⟩ := h
  exact ⟨n, by simpa using hn, hw⟩
theorem fits_bool {w : World} {v : Value} (h : Fits w .bool [v]) : ∃ b, v = .bool b := by
  obtain ⟨b, hb⟩ := h
  exact ⟨b, by simpa using hb⟩
theorem fits_str {w : World} {v : Value} (h : Fits w .str [v]) : ∃ s : ByteArray, v = .string s ∧ s.size ≤ maxLen := by
  obtain ⟨s, hs, hw⟩ := h
  exact ⟨s, by simpa using hs, hw⟩
theorem fits_ints3 {w : World} {k0 k1 k2 : IntKind} {cs : List Value} (h : Fits w (.cons 1 (.int k0) (.cons 1 (.int k1) (.cons 1 (.int k2) .nil))) cs) :
    ∃ a b c : Int, cs = [.int k0 a, .int k1 b, .int k2 c] ∧ (Lit.int k0 a).wf = true ∧ (Lit.int k1 b).wf = true ∧ (Lit.int k2 c).wf = true := by
  obtain ⟨_, _, rfl, h0, r0⟩ := fits_cons1 h
  obtain ⟨_, _, rfl, h1, r1⟩ := fits_cons1 r0
  obtain ⟨_, _, rfl, h2, r2⟩ := fits_cons1 r1
  obtain ⟨a, rfl, wa⟩ := fits_int h0
  obtain ⟨b, rfl, wb⟩ := fits_int h1
  obtain ⟨c, rfl, wc⟩ := fits_int h2
  obtain rfl : _ = [] := r2
  exact ⟨a, b, c, rfl, wa, wb, wc⟩
theorem fits_ints2 {w : World} {k0 k1 : IntKind} {cs : List Value} (h : Fits w (.cons 1 (.int k0) (.cons 1 (.int k1) .nil)) cs) :
    ∃ a b : Int, cs = [.int k0 a, .int k1 b] ∧ (Lit.int k0 a).wf = true ∧ (Lit.int k1 b).wf = true := by
  obtain ⟨_, _, rfl, h0, r0⟩ := fits_cons1 h
  obtain ⟨_, _, rfl, h1, r1⟩ := fits_cons1 r0
  obtain ⟨a, rfl, wa⟩ := fits_int h0
  obtain ⟨b, rfl, wb⟩ := fits_int h1
  obtain rfl : _ = [] := r1
  exact ⟨a, b, rfl, wa, wb⟩
end Go.Proofs.Ytiaefmmcakagpaa

/- Parts of memory that do not overlap: what a call may turn, and what of the rest stays. -/
namespace Go.Proofs.Ytiaefmmcakagpaa
set_option linter.unusedSimpArgs false
set_option linter.unusedVariables false
open Go Go.RowKit

/-- Of the blocks that were there only those of S may have turned. -/
structure Only (w w' : World) (S : Nat → Prop) : Prop where
  os : w'.os = w.os
  tape : w'.tape = w.tape
  output : w'.output = w.output
  size : w.heap.size ≤ w'.heap.size
  block : ∀ b, b < w.heap.size → ¬ S b → w'.heap[b]? = w.heap[b]?

/-- What a part of memory is, with the blocks that it takes up. -/
structure Asn where
  holds : World → (Nat → Prop) → Prop
  keeps : ∀ w w' S, holds w S → w.heap.size ≤ w'.heap.size → (∀ b, S b → w'.heap[b]? = w.heap[b]?) → holds w' S
  inb : ∀ w S b, holds w S → S b → b < w.heap.size

/-- A block of cells that may be written. -/
def cellA (b : Nat) (vs : List Value) : Asn where
  holds w S := Box w b vs ∧ ∀ x, S x ↔ x = b
  keeps w w' S h hs hb := by
    obtain ⟨h, hS⟩ := h
    have e := hb b ((hS b).2 rfl)
    exact ⟨⟨Nat.lt_of_lt_of_le h.lt hs, fun o => (World.cell?_of_block (w := w) (a := ⟨b, o, none⟩) e).trans (h.cells o), fun o => (World.frozen?_of_block (w := w) (a := ⟨b, o, none⟩) e).trans (h.free o)⟩, hS⟩
  inb w S b' h hx := by
    obtain ⟨h, hS⟩ := h
    rw [(hS b').1 hx]
    exact h.lt

/-- A row that a slice value holds, with all that it could hold. -/
def rowA (size : Nat) (v : Value) (n : Nat) (xs : List Value) : Asn where
  holds w S := Own w 0 size v n xs ∧ ∀ x, S x ↔ v.ownBlock = some x
  keeps w w' S h hs hb := by
    obtain ⟨⟨h1, h2⟩, hS⟩ := h
    refine ⟨⟨h1, h2.imp id ?_⟩, hS⟩
    rintro ⟨g, o, cap, rfl, hg, hlt, hn, hc, hx, hr⟩
    have e := hb g ((hS g).2 rfl)
    refine ⟨g, o, cap, rfl, hg, Nat.lt_of_lt_of_le hlt hs, hn, hc, fun j u hu => ?_, fun j hj => ?_⟩
    · rw [World.cell?_of_block (w := w) (a := ⟨g, o + j, none⟩) e]; exact hx j u hu
    · rw [World.cell?_of_block (w := w) (a := ⟨g, o + j, none⟩) e, World.frozen?_of_block (w := w) (a := ⟨g, o + j, none⟩) e]; exact hr j hj
  inb w S b h hx := by
    obtain ⟨h, hS⟩ := h
    exact (h.lt b ((hS b).1 hx)).2

/-- Parts, none of which overlaps another. -/
def Sep (w : World) : List Asn → (Nat → Prop) → Prop
  | [], S => ∀ b, ¬ S b
  | p :: l, S => ∃ S1 S2, p.holds w S1 ∧ Sep w l S2 ∧ (∀ b, S1 b → ¬ S2 b) ∧ ∀ b, S b ↔ S1 b ∨ S2 b

theorem Sep.inb {w : World} : ∀ {l : List Asn} {S : Nat → Prop} {b : Nat}, Sep w l S → S b → b < w.heap.size
  | [], _, _, h, hb => absurd hb (h _)
  | p :: _, _, _, ⟨_, _, h1, h2, _, h4⟩, hb => by
    rcases (h4 _).1 hb with hb | hb
    · exact p.inb _ _ _ h1 hb
    · exact Sep.inb h2 hb
theorem Sep.keeps {w w' : World} (hs : w.heap.size ≤ w'.heap.size) : ∀ {l : List Asn} {S : Nat → Prop}, Sep w l S → (∀ b, S b → w'.heap[b]? = w.heap[b]?) → Sep w' l S
  | [], _, h, _ => h
  | p :: _, _, ⟨_, _, h1, h2, h3, h4⟩, hb => ⟨_, _, p.keeps _ _ _ h1 hs (fun b hx => hb b ((h4 b).2 (.inl hx))), Sep.keeps hs h2 (fun b hx => hb b ((h4 b).2 (.inr hx))), h3, h4⟩

/-- Parts joined into one. -/
def sepA (l : List Asn) : Asn where
  holds w S := Sep w l S
  keeps _ _ _ h hs hb := h.keeps hs hb
  inb _ _ _ h hx := h.inb hx
def exA {α : Type} (f : α → Asn) : Asn where
  holds w S := ∃ a, (f a).holds w S
  keeps w w' S h hs hb := let ⟨a, h⟩ := h; ⟨a, (f a).keeps w w' S h hs hb⟩
  inb w S b h hx := let ⟨a, h⟩ := h; (f a).inb w S b h hx
def andA (φ : Prop) (p : Asn) : Asn where
  holds w S := φ ∧ p.holds w S
  keeps w w' S h hs hb := ⟨h.1, p.keeps w w' S h.2 hs hb⟩
  inb w S b h hx := p.inb w S b h.2 hx

section
variable {w w' w'' W : World} {S S' S0 : Nat → Prop}
theorem Only.refl (w : World) (S : Nat → Prop) : Only w w S := ⟨rfl, rfl, rfl, Nat.le_refl _, fun _ _ _ => rfl⟩
theorem Only.mono (h : Only w w' S) (hs : ∀ b, S b → S' b ∨ w.heap.size ≤ b) : Only w w' S' :=
  ⟨h.os, h.tape, h.output, h.size, fun b hb hn => h.block b hb fun hx => (hs b hx).elim hn fun hle => by omega⟩
theorem Only.trans (h : Only w w' S) (k : Only w' w'' S') (hs : ∀ b, S' b → S b ∨ w.heap.size ≤ b) : Only w w'' S :=
  ⟨k.os.trans h.os, k.tape.trans h.tape, k.output.trans h.output, Nat.le_trans h.size k.size, fun b hb hn =>
    (k.block b (Nat.lt_of_lt_of_le hb h.size) fun hx => (hs b hx).elim hn fun hle => by omega).trans (h.block b hb hn)⟩
theorem Only.below (h : Only w w' fun _ => False) : Below w.heap.size w w' := ⟨h.os, h.tape, h.output, h.size, fun b hb => h.block b hb id⟩
theorem Only.of_below (h : Below w.heap.size w w') : Only w w' S := ⟨h.os, h.tape, h.output, h.size, fun b hb _ => h.block b hb⟩
theorem Only.of_grown {r : Option Nat} (h : w.grownBy w' r) (hs : ∀ k, r = some k → S k) : Only w w' S :=
  ⟨h.os, h.tape, h.output, h.size, fun b hb hn => h.block b hb fun e => hn (hs b e.symm)⟩
theorem Only.grown {r : Option Nat} (h : Only w w' fun b => r = some b) : w.grownBy w' r :=
  ⟨h.os, h.tape, h.output, h.size, fun b hb hn => h.block b hb fun e => hn e.symm⟩
end

/-- As things stand in a call that began in W and may turn the blocks of S0: the world w, and the parts that are known of it. -/
structure St (W : World) (S0 : Nat → Prop) (w : World) (l : List Asn) : Prop where
  only : Only W w S0
  sep : ∃ S, Sep w l S ∧ ∀ b, S b → S0 b ∨ W.heap.size ≤ b

/-- How a call ends that began in W with the blocks S0. -/
def Fin (W : World) (S0 : Nat → Prop) (v : Value) (l : List Asn) (e : Ending) (w' : World) : Prop := e = .returned v ∧ St W S0 w' l
def none0 : Nat → Prop := fun _ => False

section
variable {w w' W : World} {S S0 : Nat → Prop} {l l' l'' : List Asn} {p p' q : Asn}
theorem St.start (h : Sep w l S) : St w S w l := ⟨Only.refl _ _, S, h, fun _ h => .inl h⟩
theorem St.zero (w : World) : St w none0 w [] := ⟨Only.refl _ _, none0, fun _ h => h, fun _ h => h.elim⟩
theorem St.size (h : St W S0 w l) : W.heap.size ≤ w.heap.size := h.only.size

/-- What was there and may not turn is as it was. -/
theorem St.old (h : St W S0 w l) {b : Nat} (hb : b < W.heap.size) (hn : ¬ S0 b) :
    (∀ o, w.cell? ⟨b, o, none⟩ = W.cell? ⟨b, o, none⟩) ∧ (∀ o, w.frozen? ⟨b, o, none⟩ = W.frozen? ⟨b, o, none⟩) :=
  ⟨fun o => World.cell?_of_block (w := W) (a := ⟨b, o, none⟩) (h.only.block b hb hn), fun o => World.frozen?_of_block (w := W) (a := ⟨b, o, none⟩) (h.only.block b hb hn)⟩
theorem St.below (h : St W none0 w l) : Below W.heap.size W w := Only.below h.only
theorem St.ret (h : St W none0 w l) {v u : Value} (e : v = u) : Ret W u (.returned v) w := ⟨by rw [e], h.below⟩

/-- A call that turns nothing that was there. -/
theorem St.thru (h : St W S0 w l) (hb : Below w.heap.size w w') : St W S0 w' l := by
  obtain ⟨h1, S, h2, h3⟩ := h
  exact ⟨h1.trans (S' := S0) (Only.of_below hb) fun _ h => .inl h, S, h2.keeps hb.size fun b hx => hb.block b (h2.inb hx), h3⟩
theorem St.drew (h : St W S0 w l) : St W S0 w.drew l := h.thru (Below.refl _ _).drew
theorem St.skip (h : St W S0 w l) (o : Obj) : St W S0 (w.alloc o) l := h.thru ((Below.refl _ _).alloc (Nat.le_refl _) o)
theorem St.alloc (h : St W S0 w l) (vs : List Value) (t : TypeId) : St W S0 (w.alloc (.cells vs.toArray t)) (cellA w.heap.size vs :: l) := by
  obtain ⟨h1, S, h2, h3⟩ := h.skip (.cells vs.toArray t)
  obtain ⟨S', h2', _⟩ := h.sep
  obtain ⟨S2, h4, h5⟩ := h.sep
  have h4' := h4.keeps (w' := w.alloc (.cells vs.toArray t)) (by simp) fun b hx => Below.heap_alloc w _ b (h4.inb hx)
  refine ⟨h1, fun b => b = w.heap.size ∨ S2 b, ⟨fun b => b = w.heap.size, S2, ⟨Box.new vs t, fun _ => Iff.rfl⟩, h4', fun b e hx => ?_, fun _ => Iff.rfl⟩, fun b hx => ?_⟩
  · have := h4.inb hx
    omega
  · rcases hx with hx | hx
    · exact .inr (by rw [hx]; exact h.size)
    · exact h5 b hx

/-- What is known of one part, and what may become of it. -/
theorem Sep.at : ∀ {l : List Asn} {S : Nat → Prop} (i : Nat), Sep w l S → l[i]? = some p → ∃ S1, p.holds w S1 ∧ (∀ b, S1 b → S b) ∧
    ∀ w' l' S1', Only w w' S1 → Sep w' l' S1' → (∀ b, S1' b → S1 b ∨ w.heap.size ≤ b) → ∃ S', Sep w' (l' ++ l.eraseIdx i) S' ∧ ∀ b, S' b → S b ∨ w.heap.size ≤ b
  | [], _, _, _, h => by simp at h
  | q :: l, S, 0, ⟨S1, S2, h1, h2, h3, h4⟩, h => by
    obtain rfl : q = p := by simpa using h
    refine ⟨S1, h1, fun b hb => (h4 b).2 (.inl hb), fun w' l' S1' ho hl hn => ?_⟩
    have h2' := h2.keeps (w' := w') ho.size fun b hx => ho.block b (h2.inb hx) fun hy => h3 b hy hx
    have key : ∀ (l' : List Asn) (S1' : Nat → Prop), Sep w' l' S1' → (∀ b, S1' b → S1 b ∨ w.heap.size ≤ b) → Sep w' (l' ++ l) fun b => S1' b ∨ S2 b := by
      intro l'
      induction l' with
      | nil =>
        intro S1' hl _
        have : (fun b => S1' b ∨ S2 b) = S2 := by funext b; exact propext ⟨fun h => h.elim (fun h => absurd h (hl b)) id, .inr⟩
        rw [this]; exact h2'
      | cons a l' ih =>
        rintro S1' ⟨T1, T2, g1, g2, g3, g4⟩ hn
        refine ⟨T1, _, g1, ih T2 g2 (fun b hb => hn b ((g4 b).2 (.inr hb))), fun b hb => ?_, fun b => ?_⟩
        · rintro (hx | hx)
          · exact g3 b hb hx
          · rcases hn b ((g4 b).2 (.inl hb)) with hy | hy
            · exact h3 b hy hx
            · have := h2.inb hx; omega
        · show S1' b ∨ S2 b ↔ _
          rw [g4 b]; exact or_assoc
    refine ⟨_, key l' S1' hl hn, fun b hb => ?_⟩
    rcases hb with hb | hb
    · rcases hn b hb with hb | hb
      · exact .inl ((h4 b).2 (.inl hb))
      · exact .inr hb
    · exact .inl ((h4 b).2 (.inr hb))
  | q :: l, S, i + 1, ⟨S1, S2, h1, h2, h3, h4⟩, h => by
    obtain ⟨T, t1, t2, t3⟩ := Sep.at i h2 (by simpa using h)
    refine ⟨T, t1, fun b hb => (h4 b).2 (.inr (t2 b hb)), fun w' l' T' ho hl hn => ?_⟩
    obtain ⟨U, u1, u2⟩ := t3 w' l' T' ho hl hn
    have hq := q.keeps w w' S1 h1 ho.size fun b hx => ho.block b (q.inb _ _ _ h1 hx) fun hy => h3 b hx (t2 b hy)
    have ins : ∀ (l' r : List Asn) (V : Nat → Prop), Sep w' (l' ++ r) V → (∀ b, V b → ¬ S1 b) → Sep w' (l' ++ q :: r) fun b => S1 b ∨ V b := by
      intro l'
      induction l' with
      | nil => intro r V hv hd; exact ⟨S1, V, hq, hv, fun b hb hv => hd b hv hb, fun _ => Iff.rfl⟩
      | cons a l' ih =>
        rintro r V ⟨V1, V2, g1, g2, g3, g4⟩ hd
        refine ⟨V1, fun b => S1 b ∨ V2 b, g1, ih r V2 g2 (fun b hb => hd b ((g4 b).2 (.inr hb))), fun b hb => ?_, fun b => ?_⟩
        · rintro (hx | hx)
          · exact hd b ((g4 b).2 (.inl hb)) hx
          · exact g3 b hb hx
        · show S1 b ∨ V b ↔ V1 b ∨ S1 b ∨ V2 b
          rw [g4 b]
          exact ⟨fun h => by rcases h with h | h | h <;> simp [h], fun h => by rcases h with h | h | h <;> simp [h]⟩
    refine ⟨_, ins l' _ U u1 (fun b hb hx => ?_), fun b hb => ?_⟩
    · rcases u2 b hb with hy | hy
      · exact h3 b hx hy
      · have := q.inb _ _ _ h1 hx; omega
    · rcases hb with hb | hb
      · exact .inl ((h4 b).2 (.inl hb))
      · rcases u2 b hb with hb | hb
        · exact .inl ((h4 b).2 (.inr hb))
        · exact .inr hb

theorem St.at (i : Nat) (h : St W S0 w l) (hi : l[i]? = some p) : ∃ S1, p.holds w S1 ∧ (∀ b, S1 b → S0 b ∨ W.heap.size ≤ b) ∧
    ∀ w' l', St w S1 w' l' → St W S0 w' (l' ++ l.eraseIdx i) := by
  obtain ⟨h1, S, h2, h3⟩ := h
  obtain ⟨S1, a, b, c⟩ := h2.at i hi
  refine ⟨S1, a, fun x hx => h3 x (b x hx), fun w' l' ⟨k1, T, k2, k3⟩ => ?_⟩
  obtain ⟨S', e1, e2⟩ := c w' l' T k1 k2 k3
  refine ⟨h1.trans k1 fun x hx => h3 x (b x hx), S', e1, fun x hx => ?_⟩
  rcases e2 x hx with hx | hx
  · exact h3 x hx
  · exact .inr (Nat.le_trans h1.size hx)

theorem Sep.one (h : p.holds w S) : Sep w [p] S := ⟨S, fun _ => False, h, fun _ h => h, fun _ _ h => h, fun _ => by simp⟩
theorem Sep.the (h : Sep w [p] S) : p.holds w S := by
  obtain ⟨S1, S2, h1, h2, _, h4⟩ := h
  have : S = S1 := by funext b; exact propext ⟨fun hb => ((h4 b).1 hb).elim id fun h => absurd h (h2 b), fun hb => (h4 b).2 (.inl hb)⟩
  rw [this]; exact h1

/-- Another order of the parts: the i-th comes first. -/
theorem St.front (i : Nat) (h : St W S0 w l) (hi : l[i]? = some p) : St W S0 w (p :: l.eraseIdx i) := by
  obtain ⟨S1, a, _, c⟩ := h.at i hi
  exact c w [p] (St.start (Sep.one a))
theorem St.drop (i : Nat) (h : St W S0 w l) (hi : l[i]? = some p) : St W S0 w (l.eraseIdx i) := by
  obtain ⟨S1, a, _, c⟩ := h.at i hi
  exact c w [] ⟨Only.refl _ _, fun _ => False, fun _ h => h, fun _ h => h.elim⟩

/-- A block that may be written: what it holds. -/
theorem St.box {b : Nat} {vs : List Value} (i : Nat) (h : St W S0 w l) (hi : l[i]? = some (cellA b vs)) : Box w b vs := by
  obtain ⟨S1, a, _⟩ := h.at i hi
  exact a.1
/-- A store into it. -/
theorem St.set {b : Nat} {vs : List Value} (i : Nat) (h : St W S0 w l) (hi : l[i]? = some (cellA b vs)) (o : Nat) (v : Value) (ho : o < vs.length) :
    St W S0 (w.setCell ⟨b, o, none⟩ v) (cellA b (vs.set o v) :: l.eraseIdx i) := by
  obtain ⟨S1, ⟨a, a'⟩, _, c⟩ := h.at i hi
  refine c _ [_] ⟨⟨rfl, rfl, rfl, by simp, fun x _ hn => Below.heap_setCell w _ v x (fun e => hn ((a' x).2 e))⟩, S1, Sep.one ⟨a.set o v ho, a'⟩, fun _ h => .inl h⟩
/-- Into another form, in place. -/
theorem St.conv (i : Nat) (h : St W S0 w l) (hi : l[i]? = some p) (hp : ∀ S, p.holds w S → ∃ l', (sepA l').holds w S ∧ l' = l'') : St W S0 w (l'' ++ l.eraseIdx i) := by
  obtain ⟨S1, a, _, c⟩ := h.at i hi
  obtain ⟨l', b, rfl⟩ := hp _ a
  exact c w l' (St.start b)
theorem St.unsep (i : Nat) (h : St W S0 w l) (hi : l[i]? = some (sepA l')) : St W S0 w (l' ++ l.eraseIdx i) := by
  obtain ⟨S1, a, _, c⟩ := h.at i hi
  exact c w l' (St.start a)
theorem St.unex {α : Type} {f : α → Asn} (i : Nat) (h : St W S0 w l) (hi : l[i]? = some (exA f)) : ∃ a, St W S0 w (f a :: l.eraseIdx i) := by
  obtain ⟨S1, ⟨a, b⟩, _, c⟩ := h.at i hi
  exact ⟨a, c w [_] (St.start (Sep.one b))⟩
theorem St.unand {φ : Prop} (i : Nat) (h : St W S0 w l) (hi : l[i]? = some (andA φ p)) : φ ∧ St W S0 w (p :: l.eraseIdx i) := by
  obtain ⟨S1, ⟨a, b⟩, _, c⟩ := h.at i hi
  exact ⟨a, c w [_] (St.start (Sep.one b))⟩
theorem Sep.join : ∀ (l l' : List Asn) (S : Nat → Prop), Sep w (l ++ l') S → ∃ S1 S2, Sep w l S1 ∧ Sep w l' S2 ∧ (∀ b, S1 b → ¬ S2 b) ∧ ∀ b, S b ↔ S1 b ∨ S2 b
  | [], l', S, h => ⟨fun _ => False, S, fun _ h => h, h, fun _ h => h.elim, fun _ => by simp⟩
  | p :: l, l', S, ⟨T, U, h1, h2, h3, h4⟩ => by
    obtain ⟨S1, S2, g1, g2, g3, g4⟩ := Sep.join l l' U h2
    refine ⟨fun b => T b ∨ S1 b, S2, ⟨T, S1, h1, g1, fun b hb hx => h3 b hb ((g4 b).2 (.inl hx)), fun _ => Iff.rfl⟩, g2, fun b hb hx => ?_, fun b => ?_⟩
    · rcases hb with hb | hb
      · exact h3 b hb ((g4 b).2 (.inr hx))
      · exact g3 b hb hx
    · rw [h4, g4, or_assoc]
/-- The first parts joined into one. -/
theorem St.join (l1 l2 : List Asn) (h : St W S0 w (l1 ++ l2)) : St W S0 w (sepA l1 :: l2) := by
  obtain ⟨h1, S, h2, h3⟩ := h
  obtain ⟨S1, S2, g1, g2, g3, g4⟩ := Sep.join l1 l2 S h2
  exact ⟨h1, S, ⟨S1, S2, g1, g2, g3, g4⟩, h3⟩
theorem St.ex {α : Type} (f : α → Asn) (a : α) (h : St W S0 w (f a :: l)) : St W S0 w (exA f :: l) := by
  obtain ⟨h1, S, ⟨S1, S2, g1, g⟩, h3⟩ := h
  exact ⟨h1, S, ⟨S1, S2, ⟨a, g1⟩, g⟩, h3⟩
theorem St.and {φ : Prop} (hφ : φ) (h : St W S0 w (p :: l)) : St W S0 w (andA φ p :: l) := by
  obtain ⟨h1, S, ⟨S1, S2, g1, g⟩, h3⟩ := h
  exact ⟨h1, S, ⟨S1, S2, ⟨hφ, g1⟩, g⟩, h3⟩

/-- The row of a slice value: what a walk is told of it. -/
theorem Own.view {size n : Nat} {v : Value} {xs : List Value} (h : Own w 0 size v n xs) : ∃ a cap, v = .slice a n cap ∧ n ≤ maxLen ∧ xs.length = n * size ∧
    (n = 0 ∨ ∃ g o, a = some ⟨g, o, none⟩ ∧ g < w.heap.size ∧ ∀ j u, xs[j]? = some u → w.cell? ⟨g, o + j, none⟩ = some u) := by
  obtain ⟨h1, h2⟩ := h
  rcases h2 with ⟨rfl, rfl⟩ | ⟨g, o, cap, rfl, _, hlt, hn, hc, hx, _⟩
  · exact ⟨none, 0, rfl, Nat.zero_le _, h1, .inl rfl⟩
  · exact ⟨_, cap, rfl, Nat.le_trans hn hc, h1, .inr ⟨g, o, rfl, hlt, hx⟩⟩
theorem St.row {size n : Nat} {v : Value} {xs : List Value} (i : Nat) (h : St W S0 w l) (hi : l[i]? = some (rowA size v n xs)) : Own w 0 size v n xs := by
  obtain ⟨S1, a, _⟩ := h.at i hi
  exact a.1
/-- A row that has grown. -/
theorem St.app {size n m : Nat} {v v' : Value} {xs ys : List Value} (i : Nat) (h : St W S0 w l) (hi : l[i]? = some (rowA size v n xs))
    (ho : Own w' 0 size v' m ys) (hg : w.grownBy w' v.ownBlock) (hv : v'.ownBlock = v.ownBlock ∨ ∃ k, v'.ownBlock = some k ∧ w.heap.size ≤ k) : St W S0 w' (rowA size v' m ys :: l.eraseIdx i) := by
  obtain ⟨S1, ⟨a, a'⟩, _, c⟩ := h.at i hi
  refine c w' [_] ⟨Only.of_grown hg fun k hk => (a' k).2 hk, fun b => v'.ownBlock = some b, Sep.one ⟨ho, fun _ => Iff.rfl⟩, fun b hb => ?_⟩
  rcases hv with hv | ⟨k, hk, hle⟩
  · exact .inl ((a' b).2 (by rw [← hv]; exact hb))
  · exact .inr (by rw [hk] at hb; injection hb with hb; omega)
/-- A row of the call's own, new. -/
theorem St.row_new {size n : Nat} {v : Value} {xs : List Value} (h : St W S0 w l) (hb : Below w.heap.size w w') (ho : Own w' w.heap.size size v n xs) : St W S0 w' (rowA size v n xs :: l) := by
  have h' := h.thru hb
  obtain ⟨S, h2, h3⟩ := h.sep
  refine ⟨h'.only, fun b => v.ownBlock = some b ∨ S b, ⟨fun b => v.ownBlock = some b, S, ⟨⟨ho.1, ho.2.imp id ?_⟩, fun _ => Iff.rfl⟩, h2.keeps hb.size fun b hx => hb.block b (h2.inb hx), fun b hv hx => ?_, fun _ => Iff.rfl⟩, fun b hx => ?_⟩
  · rintro ⟨g, o, cap, e, _, r⟩
    exact ⟨g, o, cap, e, Nat.zero_le _, r⟩
  · have := (ho.lt b hv).1
    have := h2.inb hx
    omega
  · rcases hx with hx | hx
    · have := (ho.lt b hx).1
      exact .inr (Nat.le_trans h.size this)
    · exact h3 b hx
theorem St.row_nil {size : Nat} (h : St W S0 w l) : St W S0 w (rowA size (.slice none 0 0) 0 [] :: l) := by
  obtain ⟨h1, S, h2, h3⟩ := h
  exact ⟨h1, S, ⟨fun _ => False, S, ⟨Own.nil w 0 size, fun _ => by simp [Value.ownBlock]⟩, h2, fun _ h => h.elim, fun _ => by simp⟩, h3⟩

/-- 'append(v, x..)' where what is put behind was just laid in a new block. -/
theorem wpList_appS {P : Program} {ops : Array Oper} {rest : List Oper} {o : Oper} {a : Act} {Q : Exit → Act → World → Prop} {te : TypeId} (hgd : o.guard = none) (s x : Operand) (t : TypeId)
    (ho : o.op = .call { callee := .builtin .append, args := #[s, x], argTypes := #[t, t] })
    (e : TypeId) (i : TypeInfo) (z : Value) (size bytes : Nat) (ht : P.underlying t = some (.slice e)) (hi : P.info? e = some i) (hz : i.zero = some z)
    (hsize : i.size = size) (hby : i.bytes = bytes) (hzs : z.cells.size = size) (hsz : 0 < size)
    (k : Nat) (v : Value) (n : Nat) (xs : List Value) (hs : a.eval s = v) (H : St W S0 w l) (hk : l[k]? = some (rowA size v n xs))
    (m c : Nat) (news : List Value) {q : Nat} (hx : a.eval x = .slice (some ⟨q, 0, none⟩) m c) (hl : news.length = m * size) (h1 : ∀ u ∈ news, u.oneCell' = true)
    (hsm : n + m ≤ 1000000000) (hbs : bytes ≤ 100000)
    (h : ∀ v' w', St W S0 w' (rowA size v' (n + m) (xs ++ news) :: l.eraseIdx k) → wpList P ops Q rest (a.put o.dst v') w') (hq : q = w.heap.size := by simp) :
    wpList P ops Q (o :: rest) a (w.alloc (.cells news.toArray te)) := by
  subst hq
  exact wpList_app_new hgd s x t ho 0 e i z size bytes ht hi hz hsize hby hzs hsz v n xs hs (H.row k hk) m c news hx hl h1 hsm hbs (Nat.zero_le _)
    fun v' w' h2 h3 h4 => h v' w' (H.app k hk h2 h3 h4)

/-- Parts that a callee has made. -/
theorem St.add (h : St W S0 w l) (k : St w none0 w' l') : St W S0 w' (l' ++ l) := by
  obtain ⟨h1, S, h2, h3⟩ := h
  obtain ⟨k1, T, k2, k3⟩ := k
  have hb := Only.below k1
  have h2' := h2.keeps (w' := w') hb.size fun b hx => hb.block b (h2.inb hx)
  have key : ∀ (l' : List Asn) (T : Nat → Prop), Sep w' l' T → (∀ b, T b → w.heap.size ≤ b) → Sep w' (l' ++ l) fun b => T b ∨ S b := by
    intro l'
    induction l' with
    | nil =>
      intro T ht _
      have : (fun b => T b ∨ S b) = S := by funext b; exact propext ⟨fun h => h.elim (fun h => absurd h (ht b)) id, .inr⟩
      rw [this]; exact h2'
    | cons a l' ih =>
      rintro T ⟨T1, T2, g1, g2, g3, g4⟩ hn
      refine ⟨T1, _, g1, ih T2 g2 (fun b hb => hn b ((g4 b).2 (.inr hb))), fun b hb => ?_, fun b => ?_⟩
      · rintro (hx | hx)
        · exact g3 b hb hx
        · have := hn b ((g4 b).2 (.inl hb))
          have := h2.inb hx
          omega
      · show T b ∨ S b ↔ _
        rw [g4 b]; exact or_assoc
  refine ⟨h1.trans (S' := S0) (Only.of_below hb) fun _ h => .inl h, _, key l' T k2 (fun b hb => (k3 b hb).elim (fun h => h.elim) id), fun b hb => ?_⟩
  rcases hb with hb | hb
  · exact .inr (Nat.le_trans h1.size ((k3 b hb).elim (fun h => h.elim) id))
  · exact h3 b hb
/-- 'make([]T, n)'. -/
theorem wpList_makeS {P : Program} {ops : Array Oper} {rest : List Oper} {o : Oper} {a : Act} {Q : Exit → Act → World → Prop}
    (hg : o.guard = none) (lo co : Operand) (t : TypeId) (hop : o.op = Op.makeSlice t lo co)
    (e : TypeId) (i : TypeInfo) (z : Value) (size : Nat) (h1 : P.underlying t = some (.slice e)) (h2 : P.info? e = some i) (h3 : i.zero = some z) (h4 : i.size = size)
    (kl kc : IntKind) (L C : Int) (n : Nat) (hl : a.eval lo = .int kl L) (hc : a.eval co = .int kc C) (hL : L = (n : Int)) (hC : C = (n : Int)) (b2 : i.bytes * n ≤ 281474976710656) (b3 : n ≤ maxLen)
    (vs : List Value) (hv : (madeCells z.cells (n * size)).toList = vs) (H : St W S0 w l)
    (hK : ∀ w', St W S0 w' (cellA w.heap.size vs :: l) → wpList P ops Q rest (a.put o.dst (.slice (some ⟨w.heap.size, 0, none⟩) n n)) w') :
    wpList P ops Q (o :: rest) a w := by
  subst h4
  refine wpList_plain hg fun K hK' => ?_
  have h63' : (n : Int) ≤ 9223372036854775807 := by
    have h := b3
    simp [maxLen] at h
    omega
  have hb' : (i.bytes : Int) * (n : Int) ≤ 281474976710656 := by
    have h : ((i.bytes * n : Nat) : Int) ≤ 281474976710656 := by omega
    rwa [Int.natCast_mul] at h
  have hr := run_make (P := P) w t e i z h1 h2 h3 kl kc n n (by omega) (Int.le_refl _) hb' h63'
  simp only [Int.toNat_natCast] at hr
  subst hL
  subst hC
  unfold Oper.wp
  simp [execOp, hop, hl, hc, hr, Result.andThen]
  refine hK' _ _ (hK _ ?_)
  have hA := H.alloc vs e
  rw [← hv] at hA ⊢
  simpa using hA
theorem made_one (z : Value) (n : Nat) (hz : z.cells = #[z]) : (madeCells z.cells (n * 1)).toList = List.replicate n z := by
  rw [hz]
  simp only [madeCells, Nat.mul_one]
  apply List.ext_getElem?
  intro k
  by_cases h : k < n
  · simp [h, Nat.mod_one]
  · simp [h]

/-- A world of which the same is known. -/
structure Cls (W : World) (S0 : Nat → Prop) (l : List Asn) where
  it : World
  st : St W S0 it l
theorem St.ne (h : St W S0 w l) : Nonempty (Cls W S0 l) := ⟨⟨w, h⟩⟩
theorem Cls.self (h : St W S0 w l) : ∃ s : Cls W S0 l, w.drew = s.it := ⟨⟨_, h.drew⟩, rfl⟩
theorem Calls.cls {P : Program} {f : FuncId} {args : Array Value} {s : Cls W S0 l} {v : Value}
    (h : Calls P f args s.it (Ret s.it v)) : Calls P f args s.it fun e w'' => e = .returned v ∧ ∃ s' : Cls W S0 l, w'' = s'.it :=
  h.mono fun _ _ ⟨he, hb⟩ => ⟨he, ⟨⟨_, s.st.thru hb⟩, rfl⟩⟩
/-- A call that turns one part into what it was. -/
theorem Calls.cls_at {P : Program} {f : FuncId} {args : Array Value} {s : Cls W S0 (p :: l)} {v : Value}
    (h : ∀ S, p.holds s.it S → Calls P f args s.it (Fin s.it S v [p])) : Calls P f args s.it fun e w'' => e = .returned v ∧ ∃ s' : Cls W S0 (p :: l), w'' = s'.it := by
  obtain ⟨S1, a, _, c⟩ := s.st.at 0 rfl
  exact (h S1 a).mono fun _ w' ⟨he, hst⟩ => ⟨he, ⟨⟨w', c w' [p] hst⟩, rfl⟩⟩
/-- All operations quiet among the worlds of which the same is known. -/
theorem wp_region_cls {P : Program} {id : Nat} {Q : Exit → Act → World → Prop} {a : Act} {ops : List Oper} (hm : P.follows .mixedOrders = true) (hB : Region.lexB .any ops.toArray = true) (H : St W S0 w l)
    (h : wpQuiet P ops.toArray (fun w' => ∃ s : Cls W S0 l, w' = s.it) (fun a' => ∀ w', St W S0 w' l → Q .normal a' w') ops a) : (Code.region id ops.toArray true).wp P Q a w :=
  wp_region_quiet (C := fun w' => ∃ s : Cls W S0 l, w' = s.it) hm hB (Cls.self H) (by
    have e : (fun a' => ∀ w', St W S0 w' l → Q .normal a' w') = (fun a' => ∀ w', (∃ s : Cls W S0 l, w' = s.it) → Q .normal a' w') := by
      funext a'
      exact propext ⟨fun h w' ⟨s, hs⟩ => hs ▸ h _ s.st, fun h w' hw' => h w' ⟨⟨w', hw'⟩, rfl⟩⟩
    rw [← e]
    exact h)
theorem wp_region_cls_tail {P : Program} {id : Nat} {Q : Exit → Act → World → Prop} {a : Act} {ops : List Oper} (n : Nat) (hm : P.follows .mixedOrders = true) (hB : Region.lexTailB .any ops.toArray n = true) (H : St W S0 w l)
    (h : wpQuiet P ops.toArray (fun w' => ∃ s : Cls W S0 l, w' = s.it) (fun a' => ∀ w', St W S0 w' l → wpList P ops.toArray Q (ops.drop n) a' w') (ops.take n) a) : (Code.region id ops.toArray true).wp P Q a w :=
  wp_region_head (fun w' => ∃ s : Cls W S0 l, w' = s.it) n hm hB (Cls.self H) (by
    have e : (fun a' => ∀ w', St W S0 w' l → wpList P ops.toArray Q (ops.drop n) a' w') = (fun a' => ∀ w', (∃ s : Cls W S0 l, w' = s.it) → wpList P ops.toArray Q (ops.drop n) a' w') := by
      funext a'
      exact propext ⟨fun h w' ⟨s, hs⟩ => hs ▸ h _ s.st, fun h w' hw' => h w' ⟨⟨w', hw'⟩, rfl⟩⟩
    rw [← e]
    exact h)
end
end Go.Proofs.Ytiaefmmcakagpaa

/- What a slice reads as, of an argument and of a row of the call's own. -/
namespace Go.Proofs.Ytiaefmmcakagpaa
set_option linter.unusedSimpArgs false
set_option linter.unusedVariables false
open Go Go.RowKit

/-- A slice that begins at 'a' reads as the cells xs. -/
def Rd (w : World) (a : Option Addr) (xs : List Value) : Prop :=
  xs = [] ∨ ∃ b off, a = some ⟨b, off, none⟩ ∧ b < w.heap.size ∧ ∀ j u, xs[j]? = some u → w.cell? ⟨b, off + j, none⟩ = some u
def i64s (l : List Int) : List Value := l.map (Value.int .i64)
def isI64 (n : Int) : Prop := -9223372036854775808 ≤ n ∧ n ≤ 9223372036854775807

section
variable {w w' W : World} {a : Option Addr} {xs : List Value}
theorem Rd.nil (w : World) (a : Option Addr) : Rd w a [] := .inl rfl
theorem Rd.below (h : Rd w a xs) (hb : Below w.heap.size w w') : Rd w' a xs := by
  refine h.imp id ?_
  rintro ⟨b, off, e, hlt, hc⟩
  exact ⟨b, off, e, Nat.lt_of_lt_of_le hlt hb.size, fun j u hu => ((Below.blk hb hlt).1 _).trans (hc j u hu)⟩
theorem Rd.cons (h : Rd w a xs) (hn : xs ≠ []) : ∃ b off, a = some ⟨b, off, none⟩ ∧ b < w.heap.size ∧ ∀ j u, xs[j]? = some u → w.cell? ⟨b, off + j, none⟩ = some u := h.resolve_left hn
theorem Rd.of_st {l : List Asn} (h : Rd W a xs) (st : St W none0 w l) : Rd w a xs := h.below st.below
theorem Own.rd {size n : Nat} {v : Value} (h : Own w 0 size v n xs) (hs : 0 < size) : ∃ a cap, v = .slice a n cap ∧ n ≤ maxLen ∧ xs.length = n * size ∧ Rd w a xs := by
  obtain ⟨a, cap, e, hm, hl, h⟩ := h.view
  refine ⟨a, cap, e, hm, hl, ?_⟩
  rcases h with h | ⟨g, o, e, hlt, hc⟩
  · subst h; exact .inl (List.eq_nil_of_length_eq_zero (by omega))
  · exact .inr ⟨g, o, e, hlt, hc⟩

theorem list_of {α : Type} {p : Nat → α → Prop} : ∀ n : Nat, (∀ i, i < n → ∃ x, p i x) → ∃ l : List α, l.length = n ∧ ∀ i x, l[i]? = some x → p i x
  | 0, _ => ⟨[], rfl, fun i x h => by simp at h⟩
  | n + 1, h => by
    obtain ⟨l, hl, hp⟩ := list_of n fun i hi => h i (by omega)
    obtain ⟨x, hx⟩ := h n (by omega)
    refine ⟨l ++ [x], by simp [hl], fun i y hy => ?_⟩
    by_cases hi : i < l.length
    · exact hp i y (by rwa [List.getElem?_append_left hi] at hy)
    · rw [List.getElem?_append_right (by omega)] at hy
      have : i - l.length = 0 := by
        have := (List.getElem?_eq_some_iff.1 hy).1
        simp at this; omega
      rw [this] at hy
      obtain rfl : x = y := by simpa using hy
      obtain rfl : i = n := by omega
      exact hx

/-- The elements of a slice of an argument, by what each is read as: 'enc' gives its cells. -/
theorem rows_in {α : Type} {size : Nat} {e : Sh} {len cap : Nat} (enc : α → List Value) (hs : 0 < size) (he : ∀ x, (enc x).length = size) {good : α → Prop}
    (hof : ∀ cs, Fits w e cs → cs.length = size → ∃ x, enc x = cs ∧ good x) (h : Fits w (.slice size e) [.slice a len cap]) :
    len ≤ maxLen ∧ (a = none → len = 0) ∧ ∃ l : List α, l.length = len ∧ (∀ x ∈ l, good x) ∧ Rd w a (l.flatMap enc) := by
  obtain ⟨h0, h1⟩ := fits_slice hs h
  have hnone : a = none → len = 0 := by
    intro e
    subst e
    rcases h1 with h1 | ⟨_, _, h1, _⟩
    · exact h1
    · cases h1
  refine ⟨h0, hnone, ?_⟩
  rcases h1 with rfl | ⟨b, off, rfl, hb, hi⟩
  · exact ⟨[], rfl, fun _ h => by simp at h, .inl rfl⟩
  · obtain ⟨l, hl, hp⟩ := list_of (p := fun i x => good x ∧ ∀ j, j < size → w.cell? ⟨b, off + i * size + j, none⟩ = (enc x)[j]?) len fun i hlt => by
      obtain ⟨es, hlen, hc, hf⟩ := hi i hlt
      obtain ⟨x, rfl, hg⟩ := hof es hf hlen
      exact ⟨x, hg, hc⟩
    refine ⟨l, hl, fun x hx => ?_, .inr ⟨b, off, rfl, hb, ?_⟩⟩
    · obtain ⟨i, hi', e⟩ := List.getElem_of_mem hx
      exact (hp i x (by rw [List.getElem?_eq_getElem hi', e])).1
    · clear hl hi h hnone
      induction l generalizing off with
      | nil => intro j u hu; simp at hu
      | cons x l ih =>
        intro j u hu
        simp only [List.flatMap_cons] at hu
        by_cases hj : j < size
        · rw [List.getElem?_append_left (by rw [he]; exact hj)] at hu
          have := (hp 0 x rfl).2 j hj
          rw [show off + 0 * size + j = off + j by omega] at this
          rw [this, hu]
        · rw [List.getElem?_append_right (by rw [he]; omega), he] at hu
          have := ih (off + size) (fun i y hy => by
            obtain ⟨g, hc⟩ := hp (i + 1) y (by simpa using hy)
            refine ⟨g, fun j hj => ?_⟩
            rw [← hc j hj, Nat.add_mul, Nat.one_mul]
            congr 2
            omega) (j - size) u hu
          rw [show off + size + (j - size) = off + j by omega] at this
          exact this

/-- The j-th cell of the i-th element. -/
theorem flat_at {α : Type} {enc : α → List Value} {size : Nat} (he : ∀ x, (enc x).length = size) : ∀ (l : List α) (i : Nat) (x : α) (j : Nat) (u : Value),
    l[i]? = some x → (enc x)[j]? = some u → (l.flatMap enc)[i * size + j]? = some u
  | [], i, x, j, u, h, _ => by simp at h
  | y :: l, 0, x, j, u, h, hu => by
    obtain rfl : y = x := by simpa using h
    have := (List.getElem?_eq_some_iff.1 hu).1
    simp only [List.flatMap_cons, Nat.zero_mul, Nat.zero_add]
    rw [List.getElem?_append_left this, hu]
  | y :: l, i + 1, x, j, u, h, hu => by
    have := flat_at he l i x j u (by simpa using h) hu
    simp only [List.flatMap_cons]
    rw [List.getElem?_append_right (by rw [he, Nat.add_mul]; omega), he, ← this]
    congr 1
    rw [Nat.add_mul]; omega
theorem flat_len {α : Type} {enc : α → List Value} {size : Nat} (he : ∀ x, (enc x).length = size) : ∀ l : List α, (l.flatMap enc).length = l.length * size
  | [] => by simp
  | y :: l => by simp only [List.flatMap_cons, List.length_append, he, flat_len he l, List.length_cons, Nat.add_mul, Nat.one_mul]; exact Nat.add_comm _ _
theorem i64s_at {l : List Int} {i : Nat} (h : i < l.length) : (i64s l)[i]? = some (.int .i64 l[i]) := by simp [i64s, h]
theorem i64s_flat (l : List Int) : l.flatMap (fun n => [Value.int .i64 n]) = i64s l := by
  induction l with
  | nil => rfl
  | cons x l ih => simp [i64s] at ih ⊢; exact ih
/-- Row by row. -/
theorem Rd.rows {α : Type} {enc : α → List Value} {size : Nat} {l : List α} (he : ∀ x, (enc x).length = size) (hs : 0 < size) (h : Rd w a (l.flatMap enc)) {n : Nat} (hn : l.length = n) (h0 : 0 < n) :
    ∃ b off, a = some ⟨b, off, none⟩ ∧ b < w.heap.size ∧ ∀ i (hi : i < l.length) j u, (enc l[i])[j]? = some u → w.cell? ⟨b, off + i * size + j, none⟩ = some u := by
  have hne : l.flatMap enc ≠ [] := fun e => by
    have := flat_len he l
    rw [e] at this
    have h1 : 1 * 1 ≤ l.length * size := Nat.mul_le_mul (by omega) hs
    simp at this
    omega
  obtain ⟨b, off, e, hb, hc⟩ := h.cons hne
  exact ⟨b, off, e, hb, fun i hi j u hu => by rw [Nat.add_assoc]; exact hc _ _ (flat_at he l i l[i] j u (List.getElem?_eq_getElem hi) hu)⟩
/-- The integers of a slice of an argument. -/
theorem ints_in {len cap : Nat} (h : Fits w (.slice 1 (.int .i64)) [.slice a len cap]) :
    len ≤ maxLen ∧ (a = none → len = 0) ∧ ∃ l : List Int, l.length = len ∧ (∀ x ∈ l, isI64 x) ∧ Rd w a (i64s l) := by
  obtain ⟨h0, hn, l, h1, h2, h3⟩ := rows_in (size := 1) (fun n : Int => [Value.int .i64 n]) (by omega) (fun _ => rfl) (good := isI64) (fun cs hf _ => by
    obtain ⟨n, rfl, hw⟩ := hf
    exact ⟨n, rfl, bounds_i64 hw⟩) h
  exact ⟨h0, hn, l, h1, h2, by rw [← i64s_flat]; exact h3⟩

def strs (l : List ByteArray) : List Value := l.map Value.string
def bools (l : List Bool) : List Value := l.map Value.bool
theorem strs_at {l : List ByteArray} {i : Nat} (h : i < l.length) : (strs l)[i]? = some (.string l[i]) := by simp [strs, h]
theorem bools_at {l : List Bool} {i : Nat} (h : i < l.length) : (bools l)[i]? = some (.bool l[i]) := by simp [bools, h]
theorem strs_ne {l : List ByteArray} {n k : Nat} (h : l.length = n) (hk : k < n) : strs l ≠ [] := by
  intro e
  have := congrArg List.length e
  simp [strs] at this
  subst this
  simp at h
  omega
theorem bools_ne {l : List Bool} {n k : Nat} (h : l.length = n) (hk : k < n) : bools l ≠ [] := by
  intro e
  have := congrArg List.length e
  simp [bools] at this
  subst this
  simp at h
  omega
theorem map_flat {α : Type} (f : α → Value) (l : List α) : l.flatMap (fun x => [f x]) = l.map f := by
  induction l with
  | nil => rfl
  | cons x l ih => simp [ih]
theorem strs_in {len cap : Nat} (h : Fits w (.slice 1 .str) [.slice a len cap]) :
    len ≤ maxLen ∧ (a = none → len = 0) ∧ ∃ l : List ByteArray, l.length = len ∧ (∀ x ∈ l, x.size ≤ maxLen) ∧ Rd w a (strs l) := by
  obtain ⟨h0, hn, l, h1, h2, h3⟩ := rows_in (size := 1) (fun s : ByteArray => [Value.string s]) (by omega) (fun _ => rfl) (good := fun s => s.size ≤ maxLen) (fun cs hf _ => by
    obtain ⟨s, rfl, hw⟩ := hf
    exact ⟨s, rfl, hw⟩) h
  exact ⟨h0, hn, l, h1, h2, by rw [map_flat] at h3; exact h3⟩
theorem bools_in {len cap : Nat} (h : Fits w (.slice 1 .bool) [.slice a len cap]) :
    len ≤ maxLen ∧ (a = none → len = 0) ∧ ∃ l : List Bool, l.length = len ∧ Rd w a (bools l) := by
  obtain ⟨h0, hn, l, h1, h2, h3⟩ := rows_in (size := 1) (fun s : Bool => [Value.bool s]) (by omega) (fun _ => rfl) (good := fun _ => True) (fun cs hf _ => by
    obtain ⟨s, rfl⟩ := hf
    exact ⟨s, rfl, trivial⟩) h
  exact ⟨h0, hn, l, h1, by rw [map_flat] at h3; exact h3⟩
theorem foldl_take {α β : Type} (f : β → α → β) (b : β) (l : List α) (k : Nat) (h : k < l.length) : (l.take (k + 1)).foldl f b = f ((l.take k).foldl f b) l[k] := by
  rw [List.take_succ_eq_append_getElem h, List.foldl_append]; rfl
theorem foldl_take' {α β : Type} (f : β → α → β) (b : β) (l : List α) (k : Nat) (h1 : 1 ≤ k) (h : k - 1 < l.length) : (l.take k).foldl f b = f ((l.take (k - 1)).foldl f b) l[k - 1] := by
  have := foldl_take f b l (k - 1) h
  rwa [show k - 1 + 1 = k by omega] at this
theorem run_app_nil {P : Program} (t ty e : TypeId) (i : TypeInfo) (ht : P.underlying t = some (.slice e)) (hi : P.info? e = some i) (b : Option Addr) (n cap c : Nat) (h : n ≤ cap) :
    (Builtin.append_ #[t, t] ty #[.slice b n cap, .slice none 0 c]).run P w = .ok (.slice b n cap) w := by
  cases b <;> simp [Builtin.append_, run_underlying ht, sizeOf, typeInfo, hi, Builtin.lenOf, h, Builtin.firstCells, storeCells, Sem.run_pure]
/-- 'append(v, y...)' where y is read only. -/
theorem wpList_appRd {P : Program} {ops : Array Oper} {rest : List Oper} {o : Oper} {a : Act} {Q : Exit → Act → World → Prop} {S0 : Nat → Prop} {l : List Asn} (hgd : o.guard = none) (s x : Operand) (t : TypeId)
    (ho : o.op = .call { callee := .builtin .append, args := #[s, x], argTypes := #[t, t] })
    (e : TypeId) (i : TypeInfo) (z : Value) (size bytes : Nat) (ht : P.underlying t = some (.slice e)) (hi : P.info? e = some i) (hz : i.zero = some z)
    (hsize : i.size = size) (hby : i.bytes = bytes) (hzs : z.cells.size = size) (hsz : 0 < size)
    (k : Nat) (v : Value) (n : Nat) (xs : List Value) (hs : a.eval s = v) (H : St W S0 w l) (hk : l[k]? = some (rowA size v n xs))
    (y : Option Addr) (m c : Nat) (news : List Value) (hx : a.eval x = .slice y m c) (hl : news.length = m * size) (hr : Rd w y news) (hn0 : y = none → m = 0) (h1 : ∀ u ∈ news, u.oneCell' = true)
    (hsm : n + m ≤ 1000000000) (hbs : bytes ≤ 100000)
    (h : ∀ v' w', St W S0 w' (rowA size v' (n + m) (xs ++ news) :: l.eraseIdx k) → wpList P ops Q rest (a.put o.dst v') w') : wpList P ops Q (o :: rest) a w := by
  have hb : (n + m) * bytes ≤ 1000000000 * 100000 := Nat.mul_le_mul hsm hbs
  have hown := H.row k hk
  cases y with
  | some ad =>
    refine wpList_app hgd s x t ho 0 e i z size bytes ht hi hz hsize hby hzs hsz v n xs hs hown ad m c news hx hl (fun j u hu => ?_) h1 (by unfold maxLen; omega) (by omega) (Nat.zero_le _) fun v' w' h2 h3 h4 => h v' w' (H.app k hk h2 h3 h4)
    rcases hr with hr | ⟨g, off, e, hlt, hc⟩
    · subst hr; simp at hu
    · injection e with e
      subst e
      have := hc j u hu
      unfold Addr.add
      split
      · rename_i h0; subst h0; simpa using this
      · exact this
  | none =>
    obtain rfl := hn0 rfl
    obtain rfl : news = [] := List.eq_nil_of_length_eq_zero (by simpa using hl)
    refine wpList_plain hgd fun _ hK => ?_
    have hv : ∃ b cap, v = .slice b n cap ∧ n ≤ cap := by
      rcases hown.2 with ⟨rfl, rfl⟩ | ⟨g, off, cap, rfl, _, _, hnc, _⟩
      · exact ⟨none, 0, rfl, Nat.le_refl _⟩
      · exact ⟨_, cap, rfl, hnc⟩
    obtain ⟨b, cap, rfl, hnc⟩ := hv
    have hrun := run_app_nil (P := P) (w := w) t o.type e i ht hi b n cap c hnc
    unfold Oper.wp execOp
    simp only [ho, resolve, invoke, builtin, Sem.run_bind, Sem.run_pure, Result.andThen_ok, List.map_toArray, List.map_cons, List.map_nil, hs, hx, hrun]
    refine hK _ _ (h _ w ?_)
    have := H.front k hk
    simpa using this
/-- An empty slice that is not nil. -/
theorem row_empty {size b : Nat} {vs : List Value} (h : Box w b vs) : Own w 0 size (.slice (some ⟨b, 0, none⟩) 0 0) 0 [] :=
  ⟨by simp, .inr ⟨b, 0, 0, rfl, Nat.zero_le _, h.lt, Nat.le_refl _, Nat.zero_le _, fun j u hu => by simp at hu, fun j hj => by omega⟩⟩
theorem St.row_empty {S0 : Nat → Prop} {l : List Asn} {size b : Nat} {vs : List Value} (i : Nat) (h : St W S0 w l) (hi : l[i]? = some (cellA b vs)) : St W S0 w (rowA size (.slice (some ⟨b, 0, none⟩) 0 0) 0 [] :: l.eraseIdx i) := by
  obtain ⟨S1, ⟨a, a'⟩, _, c⟩ := h.at i hi
  exact c w [_] (St.start (Sep.one ⟨Go.Proofs.Ytiaefmmcakagpaa.row_empty a, fun x => by rw [a' x]; simp [Value.ownBlock, eq_comm]⟩))
theorem i64s_one (l : List Int) : ∀ u ∈ i64s l, u.oneCell' = true := by
  intro u hu
  obtain ⟨x, _, rfl⟩ := List.mem_map.1 hu
  rfl
theorem i64s_ne {l : List Int} {n k : Nat} (h : l.length = n) (hk : k < n) : i64s l ≠ [] := by
  intro e
  have := congrArg List.length e
  simp [i64s] at this
  subst this
  simp at h
  omega
theorem i64s_len (l : List Int) : (i64s l).length = l.length := by simp [i64s]

theorem any_none {α : Type} {p : α → Bool} {l : List α} (h : ∀ i (hi : i < l.length), p l[i] = false) : l.any p = false := by
  rw [List.any_eq_false]
  intro x hx
  obtain ⟨i, hi, rfl⟩ := List.getElem_of_mem hx
  simp [h i hi]
theorem all_all {α : Type} {p : α → Bool} {l : List α} (h : ∀ i (hi : i < l.length), p l[i] = true) : l.all p = true := by
  rw [List.all_eq_true]
  intro x hx
  obtain ⟨i, hi, rfl⟩ := List.getElem_of_mem hx
  exact h i hi
/-- Where p is met first, or -1. -/
def idxF {α : Type} (p : α → Bool) (l : List α) : Int := if l.any p then (l.findIdx p : Int) else -1
theorem idx_none {α : Type} {p : α → Bool} {l : List α} (h : ∀ i (hi : i < l.length), p l[i] = false) : idxF p l = -1 := by
  have : l.any p = false := by
    rw [List.any_eq_false]
    intro x hx
    obtain ⟨i, hi, rfl⟩ := List.getElem_of_mem hx
    simp [h i hi]
  simp [idxF, this]
theorem idx_some {α : Type} {p : α → Bool} {l : List α} {k : Nat} (hk : k < l.length) (hp : p l[k] = true) (h : ∀ i (hi : i < l.length), i < k → p l[i] = false) : idxF p l = (k : Int) := by
  have h1 : l.any p = true := List.any_eq_true.2 ⟨l[k], List.getElem_mem hk, hp⟩
  have h2 : l.findIdx p = k := (List.findIdx_eq hk).2 ⟨hp, fun j hj => h j (by omega) hj⟩
  simp [idxF, h1, h2]
theorem idx_ge {α : Type} (p : α → Bool) (l : List α) : decide (0 ≤ idxF p l) = l.any p := by
  unfold idxF
  cases l.any p <;> simp <;> omega
theorem idx_bd {α : Type} (p : α → Bool) (l : List α) : -1 ≤ idxF p l ∧ idxF p l < l.length := by
  unfold idxF
  split
  · rename_i h
    have : l.findIdx p < l.length := List.findIdx_lt_length_of_exists (by obtain ⟨x, hx, hp⟩ := List.any_eq_true.1 h; exact ⟨x, hx, hp⟩)
    omega
  · omega
end
end Go.Proofs.Ytiaefmmcakagpaa

/- Rows of the call's own: a part of a row is overwritten, cut out, or made zero. -/
namespace Go.Proofs.Ytiaefmmcakagpaa
set_option linter.unusedSimpArgs false
set_option linter.unusedVariables false
open Go Go.RowKit

section
variable {w w' W : World} {base size n : Nat} {v : Value} {xs : List Value} {S0 : Nat → Prop} {l : List Asn}

theorem grown_cells (b : Nat) : ∀ (vs : List Value) (o : Nat) (w : World), w.grownBy (w.setCells b o vs) (some b)
  | [], _, _ => ⟨rfl, rfl, rfl, Nat.le_refl _, fun _ _ _ => rfl⟩
  | u :: vs, k, w => by
    have h0 := grown_cells b vs (k + 1) (w.setCell ⟨b, k, none⟩ u)
    have hsz : (w.setCell ⟨b, k, none⟩ u).heap.size = w.heap.size := by simp
    exact ⟨h0.os, h0.tape, h0.output, by have := h0.size; rw [hsz] at this; exact this, fun j hj hjk => (h0.block j (by rw [hsz]; exact hj) hjk).trans (Below.heap_setCell w ⟨b, k, none⟩ u j (fun e => hjk (by rw [e])))⟩
theorem size_cells (b : Nat) : ∀ (vs : List Value) (o : Nat) (w : World), (w.setCells b o vs).heap.size = w.heap.size
  | [], _, _ => rfl
  | u :: vs, k, w => by rw [World.setCells, size_cells b vs]; simp

/-- From the i-th element on m others are laid. -/
theorem Own.splice {g o cap i m : Nat} {news : List Value} (h : Own w base size (.slice (some ⟨g, o, none⟩) n cap) n xs) (hi : i ≤ n) (hm : i + m ≤ cap) (hl : news.length = m * size) :
    Own (w.setCells g (o + i * size) news) base size (.slice (some ⟨g, o, none⟩) (i + m) cap) (i + m) (xs.take (i * size) ++ news) := by
  obtain ⟨hlen, h⟩ := h
  have hin : i * size ≤ xs.length := by rw [hlen]; exact Nat.mul_le_mul_right _ hi
  have hcs : i * size + news.length ≤ cap * size := by rw [hl, ← Nat.add_mul]; exact Nat.mul_le_mul_right _ hm
  rcases h with ⟨h, _⟩ | ⟨g', o', cap', e, hb, hlt, hn, hc, hx, hr⟩
  · cases h
  · injection e with e1 e2 e3
    injection e1 with e1
    injection e1 with e4 e5
    subst e4 e5 e3
    have hsp : ∀ j, j < news.length → (w.cell? ⟨g, o + i * size + j, none⟩).isSome = true ∧ w.frozen? ⟨g, o + i * size + j, none⟩ = false := fun j hj => by
      have := hr (i * size + j) (by omega)
      rw [Nat.add_assoc]
      exact this
    refine ⟨by rw [List.length_append, List.length_take, Nat.min_eq_left hin, hl, Nat.add_mul], .inr ⟨g, o, cap, rfl, hb, by rw [size_cells]; exact hlt, hm, hc, fun j u hu => ?_, fun j hj => ?_⟩⟩
    · by_cases hj : j < i * size
      · rw [List.getElem?_append_left (by simp; omega), List.getElem?_take_of_lt hj] at hu
        rw [World.cell?_setCells_out g news (o + i * size) w ⟨g, o + j, none⟩ (fun _ _ => .inl (by simp only; omega))]
        exact hx j u hu
      · rw [List.getElem?_append_right (by simp; omega)] at hu
        have hj1 : j - (xs.take (i * size)).length = j - i * size := by rw [List.length_take, Nat.min_eq_left hin]
        rw [hj1] at hu
        have hj2 : j - i * size < news.length := (List.getElem?_eq_some_iff.1 hu).1
        have := World.cell?_setCells_in g news (o + i * size) w (fun j hj => (hsp j hj).1) (j - i * size) hj2
        rw [show o + j = o + i * size + (j - i * size) by omega, this]
        rw [List.getElem?_eq_getElem hj2] at hu
        exact hu
    · refine ⟨?_, by rw [World.frozen?_setCells]; exact (hr j hj).2⟩
      by_cases hj1 : j < i * size ∨ i * size + news.length ≤ j
      · rw [World.cell?_setCells_out g news (o + i * size) w ⟨g, o + j, none⟩ (fun _ _ => by simp only; omega)]
        exact (hr j hj).1
      · have hj2 : j - i * size < news.length := by omega
        have := World.cell?_setCells_in g news (o + i * size) w (fun j hj => (hsp j hj).1) (j - i * size) hj2
        rw [show o + j = o + i * size + (j - i * size) by omega, this]
        rfl
theorem Own.prefix_ {g o cap i : Nat} (h : Own w base size (.slice (some ⟨g, o, none⟩) n cap) n xs) (hi : i ≤ n) : Own w base size (.slice (some ⟨g, o, none⟩) i cap) i (xs.take (i * size)) := by
  have hc : n ≤ cap := by
    rcases h.2 with ⟨h, _⟩ | ⟨_, _, _, e, _, _, hn, _⟩
    · cases h
    · injection e with e1 e2 e3; omega
  have := h.splice (i := i) (m := 0) (news := []) hi (by omega) (by simp)
  simpa [World.setCells] using this
theorem Own.roomy {g o cap : Nat} (h : Own w base size (.slice (some ⟨g, o, none⟩) n cap) n xs) : n ≤ cap ∧ cap ≤ maxLen := by
  rcases h.2 with ⟨h, _⟩ | ⟨_, _, _, e, _, _, hn, hc, _⟩
  · cases h
  · injection e with e1 e2 e3; omega
theorem St.splice {g o cap i m k : Nat} {news : List Value} (H : St W S0 w l) (hk : l[k]? = some (rowA size (.slice (some ⟨g, o, none⟩) n cap) n xs)) (hi : i ≤ n) (hm : i + m ≤ cap) (hl : news.length = m * size) :
    St W S0 (w.setCells g (o + i * size) news) (rowA size (.slice (some ⟨g, o, none⟩) (i + m) cap) (i + m) (xs.take (i * size) ++ news) :: l.eraseIdx k) :=
  H.app k hk ((H.row k hk).splice hi hm hl) (grown_cells g _ _ _) (.inl rfl)
theorem St.prefix_ {g o cap i k : Nat} (H : St W S0 w l) (hk : l[k]? = some (rowA size (.slice (some ⟨g, o, none⟩) n cap) n xs)) (hi : i ≤ n) :
    St W S0 w (rowA size (.slice (some ⟨g, o, none⟩) i cap) i (xs.take (i * size)) :: l.eraseIdx k) := by
  have hc := (H.row k hk).roomy
  have := H.splice (i := i) (m := 0) (news := []) hk hi (by omega) (by simp)
  simpa [World.setCells] using this

/-- 'append(s[:i], s[j:]...)'. -/
theorem wpList_cutS {P : Program} {ops : Array Oper} {rest : List Oper} {q : Oper} {a : Act} {Q : Exit → Act → World → Prop} (hgd : q.guard = none) (s x : Operand) (t : TypeId)
    (ho : q.op = .call { callee := .builtin .append, args := #[s, x], argTypes := #[t, t] })
    (e : TypeId) (i0 : TypeInfo) (ht : P.underlying t = some (.slice e)) (hi0 : P.info? e = some i0) (hsize : i0.size = size) (hsz : 0 < size)
    (k : Nat) (g o cap i j : Nat) (H : St W S0 w l) (hk : l[k]? = some (rowA size (.slice (some ⟨g, o, none⟩) n cap) n xs)) (hij : i ≤ j) (hjn : j ≤ n)
    (hs : a.eval s = .slice (some ⟨g, o, none⟩) i cap) (ad : Option Addr) (c m : Nat) (hm : m = n - j) (hmc : m ≤ c) (hx : a.eval x = .slice ad m c) (had : 0 < m → ad = some ⟨g, o + j * size, none⟩) (h1 : ∀ u ∈ xs, u.oneCell' = true)
    (h : ∀ w', St W S0 w' (rowA size (.slice (some ⟨g, o, none⟩) (i + m) cap) (i + m) (xs.take (i * size) ++ xs.drop (j * size)) :: l.eraseIdx k) → wpList P ops Q rest (a.put q.dst (.slice (some ⟨g, o, none⟩) (i + m) cap)) w') : wpList P ops Q (q :: rest) a w :=
  wpList_plain hgd fun _ hK => by
    subst hm
    have hown := H.row k hk
    obtain ⟨hlen, hown'⟩ := id hown
    obtain ⟨hnc, hcm⟩ := hown.roomy
    subst hsize
    have hdl : (xs.drop (j * i0.size)).length = (n - j) * i0.size := by rw [List.length_drop, hlen, Nat.sub_mul]
    have hS := H.splice (i := i) (m := n - j) (news := xs.drop (j * i0.size)) hk (by omega) (by omega) hdl
    have hcells : ∀ p u, xs[p]? = some u → w.cell? ⟨g, o + p, none⟩ = some u := by
      rcases hown' with ⟨h, _⟩ | ⟨_, _, _, e, _, _, _, _, hc, _⟩
      · cases h
      · injection e with e1 e2 e3
        injection e1 with e1
        injection e1 with e4 e5
        subst e4 e5
        exact hc
    have hroom : ∀ p, p < cap * i0.size → (w.cell? ⟨g, o + p, none⟩).isSome = true ∧ w.frozen? ⟨g, o + p, none⟩ = false := by
      rcases hown' with ⟨h, _⟩ | ⟨_, _, _, e, _, _, _, _, _, hc⟩
      · cases h
      · injection e with e1 e2 e3
        injection e1 with e1
        injection e1 with e4 e5
        subst e4 e5 e3
        exact hc
    by_cases h0 : 0 < n - j
    · obtain rfl := had h0
      have hadd : ∀ p, (⟨g, o + j * i0.size, none⟩ : Addr).add p = ⟨g, o + j * i0.size + p, none⟩ := fun p => by unfold Addr.add; split <;> simp_all
      have hrun := run_append_room_cells (P := P) w t q.type e i0 ht hi0 g o i cap ⟨g, o + j * i0.size, none⟩ (n - j) c (xs.drop (j * i0.size)) hdl (fun p u hu => by
          rw [hadd, Nat.add_assoc]
          refine hcells _ _ ?_
          rw [List.getElem?_drop] at hu
          exact hu) (fun u hu => h1 u (List.mem_of_mem_drop hu)) (by omega) (fun p hp => by
          rw [Nat.add_assoc]
          refine (hroom _ ?_).1
          rw [hdl] at hp
          have : (i + (n - j)) * i0.size ≤ cap * i0.size := Nat.mul_le_mul_right _ (by omega)
          rw [Nat.add_mul] at this
          omega) (fun p hp => by
          rw [Nat.add_assoc]
          refine (hroom _ ?_).2
          rw [hdl] at hp
          have : (i + (n - j)) * i0.size ≤ cap * i0.size := Nat.mul_le_mul_right _ (by omega)
          rw [Nat.add_mul] at this
          omega)
      unfold Oper.wp execOp
      simp only [ho, resolve, invoke, builtin, Sem.run_bind, Sem.run_pure, Result.andThen_ok, List.map_toArray, List.map_cons, List.map_nil, hs, hx, hrun]
      exact hK _ _ (h _ hS)
    · have h0' : n - j = 0 := by omega
      have hnil : xs.drop (j * i0.size) = [] := List.eq_nil_of_length_eq_zero (by rw [hdl, h0', Nat.zero_mul])
      rw [hnil] at hS
      simp only [World.setCells, h0', Nat.add_zero, List.append_nil] at hS
      rw [hnil] at h
      simp only [h0', Nat.add_zero, List.append_nil] at h
      rw [h0'] at hx
      have hrun : (Builtin.append_ #[t, t] q.type #[.slice (some ⟨g, o, none⟩) i cap, .slice ad 0 c]).run P w = .ok (.slice (some ⟨g, o, none⟩) i cap) w := by
        have : i ≤ cap := by omega
        cases ad <;> simp [Builtin.append_, run_underlying ht, sizeOf, typeInfo, hi0, Builtin.lenOf, this, Builtin.firstCells, storeCells, Sem.run_pure, loadCells, loadCellsFrom]
      unfold Oper.wp execOp
      simp only [ho, resolve, invoke, builtin, Sem.run_bind, Sem.run_pure, Result.andThen_ok, List.map_toArray, List.map_cons, List.map_nil, hs, hx, hrun]
      exact hK _ _ (h _ hS)

/-- 'clear(s[n:])' of what lies behind a row's end. -/
theorem run_clearS {P : Program} (t ty e : TypeId) (i0 : TypeInfo) (z : Value) (ht : P.underlying t = some (.slice e)) (hi0 : P.info? e = some i0) (hz : i0.zero = some z) (hzs : z.cells.size = size) (hsz : 0 < size) (hz1 : ∀ u ∈ z.cells.toList, u.oneCell' = true)
    (k : Nat) (g o cap : Nat) (H : St W S0 w l) (hk : l[k]? = some (rowA size (.slice (some ⟨g, o, none⟩) n cap) n xs)) (m c : Nat) (hm : n + m ≤ cap) (h0 : 0 < m) :
    ∃ w', (Builtin.clear_ #[t] ty #[.slice (some ⟨g, o + n * size, none⟩) m c]).run P w = .ok (.tuple #[]) w' ∧ St W S0 w' (rowA size (.slice (some ⟨g, o, none⟩) n cap) n xs :: l.eraseIdx k) := by
  have hown := H.row k hk
  obtain ⟨hlen, hown'⟩ := id hown
  have hzv : ∀ w : World, (zeroValue e).run P w = .ok z w := fun w => by simp [zeroValue, typeInfo, hi0, hz, Sem.run_bind, Sem.run_pure, Result.andThen, go_sem]
  have hzl : (Builtin.zeroCells z.cells m).toList.length = m * size := by simp [Builtin.zeroCells, hzs]
  have hone : ∀ u ∈ (Builtin.zeroCells z.cells m).toList, u.oneCell' = true := fun u hu => by
    simp only [Builtin.zeroCells, Array.toList_map, List.mem_map] at hu
    obtain ⟨i, _, rfl⟩ := hu
    have hlt : i % z.cells.size < z.cells.size := Nat.mod_lt _ (by omega)
    rw [show z.cells[i % z.cells.size]! = z.cells[i % z.cells.size] from getElem!_pos z.cells (i % z.cells.size) hlt]
    exact hz1 _ (by simp)
  have hS := H.splice (i := n) (m := m) (news := (Builtin.zeroCells z.cells m).toList) hk (Nat.le_refl _) hm hzl
  have hS2 := hS.prefix_ (i := n) (k := 0) rfl (by omega)
  have hx2 : (xs.take (n * size) ++ (Builtin.zeroCells z.cells m).toList).take (n * size) = xs := by
    rw [List.take_append_of_le_length (by simp; omega), List.take_take, Nat.min_self, List.take_of_length_le (by omega)]
  rw [hx2] at hS2
  have hroom : ∀ p, p < cap * size → (w.cell? ⟨g, o + p, none⟩).isSome = true ∧ w.frozen? ⟨g, o + p, none⟩ = false := by
    rcases hown' with ⟨h, _⟩ | ⟨_, _, _, e, _, _, _, _, _, hc⟩
    · cases h
    · injection e with e1 e2 e3
      injection e1 with e1
      injection e1 with e4 e5
      subst e4 e5 e3
      exact hc
  have hbd : ∀ j, j < (Builtin.zeroCells z.cells m).toList.length → n * size + j < cap * size := fun j hj => by
    have : (n + m) * size ≤ cap * size := Nat.mul_le_mul_right _ hm
    rw [Nat.add_mul] at this
    omega
  have hst := run_storeCells_cells (P := P) g (o + n * size) (Builtin.zeroCells z.cells m).toList 0 w (fun j hj => by
      rw [Nat.add_zero, Nat.add_assoc]; exact (hroom _ (hbd j hj)).1) (fun j hj => by
      rw [Nat.add_zero, Nat.add_assoc]; exact (hroom _ (hbd j hj)).2) hone
  rw [Nat.add_zero] at hst
  obtain ⟨m', rfl⟩ : ∃ m', m = m' + 1 := ⟨m - 1, by omega⟩
  exact ⟨_, by simp [Builtin.clear_, run_underlying ht, Sem.run_bind, Sem.run_pure, hzv, hst, Result.andThen], hS2⟩
end
end Go.Proofs.Ytiaefmmcakagpaa

/- 'append' to a row of the call's own, as one step of a statement that draws its order. -/
namespace Go.Proofs.Ytiaefmmcakagpaa
set_option linter.unusedSimpArgs false
set_option linter.unusedVariables false
open Go Go.RowKit

section
variable {w w' W : World} {S0 : Nat → Prop} {l : List Asn}
theorem step_appS {P : Program} {ops : Array Oper} {o : Oper} {a : Act} {K : Act → World → Prop} {Q : Exit → Act → World → Prop} {E : Prop} (hgd : o.guard = none) (s x : Operand) (t : TypeId)
    (ho : o.op = .call { callee := .builtin .append, args := #[s, x], argTypes := #[t, t] })
    (e : TypeId) (i : TypeInfo) (z : Value) (size bytes : Nat) (ht : P.underlying t = some (.slice e)) (hi : P.info? e = some i) (hz : i.zero = some z)
    (hsize : i.size = size) (hby : i.bytes = bytes) (hzs : z.cells.size = size) (hsz : 0 < size)
    (k : Nat) (v : Value) (n : Nat) (xs : List Value) (hs : a.eval s = v) (H : St W S0 w l) (hk : l[k]? = some (rowA size v n xs))
    (m c : Nat) (news : List Value) {q : Nat} (hx : a.eval x = .slice (some ⟨q, 0, none⟩) m c) (hl : news.length = m * size) (hnews : ∀ j u, news[j]? = some u → w.cell? ⟨q, j, none⟩ = some u) (h1 : ∀ u ∈ news, u.oneCell' = true)
    (hsm : n + m ≤ 1000000000) (hbs : bytes ≤ 100000)
    (h : ∀ v' w', St W S0 w' (rowA size v' (n + m) (xs ++ news) :: l.eraseIdx k) → (∃ g off cap, v' = .slice (some ⟨g, off, none⟩) (n + m) cap) → K (a.put o.dst v') w') (hm : 0 < m) :
    if Region.wanted o (yielded ops a.tmps) = true then Oper.wp P o a w K Q else E := by
  have hw : Region.wanted o (yielded ops a.tmps) = true := by simp [Region.wanted, hgd]
  rw [if_pos hw]
  have hb : (n + m) * bytes ≤ 1000000000 * 100000 := Nat.mul_le_mul hsm hbs
  obtain ⟨v', w', hrun, h2, h3, h4⟩ := run_app (P := P) 0 t o.type e i z size bytes ht hi hz hsize hby hzs hsz v n xs (H.row k hk) ⟨q, 0, none⟩ m c news hl (fun j u hu => by
    have := hnews j u hu
    unfold Addr.add
    split
    · rename_i h0; subst h0; simpa using this
    · simpa using this) h1 (by unfold maxLen; omega) (by omega) (Nat.zero_le _)
  unfold Oper.wp execOp
  simp only [ho, resolve, invoke, builtin, Sem.run_bind, Sem.run_pure, Result.andThen_ok, List.map_toArray, List.map_cons, List.map_nil, hs, hx, hrun]
  refine h v' w' (H.app k hk h2 h3 h4) ?_
  rcases h2.2 with ⟨_, e0⟩ | ⟨g, off, cap, e, _⟩
  · omega
  · exact ⟨g, off, cap, e⟩
theorem St.held {p : Asn} (k : Nat) (H : St W S0 w l) (hk : l[k]? = some p) : ∃ S1, p.holds w S1 := by
  obtain ⟨S1, a, _⟩ := H.at k hk
  exact ⟨S1, a⟩
/-- A call that reads one part. -/
theorem Calls.rd_at {P : Program} {f : FuncId} {args : Array Value} {v : Value} {p : Asn} (k : Nat) (H : St W S0 w l) (hk : l[k]? = some p) (h : ∀ S, p.holds w S → Calls P f args w (Ret w v)) :
    Calls P f args w (Fin W S0 v l) := by
  obtain ⟨S1, a⟩ := H.held k hk
  exact (h S1 a).mono fun _ _ ⟨he, hb⟩ => ⟨he, H.thru hb⟩
/-- A call that turns one part. -/
theorem Calls.st_at {P : Program} {f : FuncId} {args : Array Value} {v : Value} {p : Asn} {l' : List Asn} (k : Nat) (H : St W S0 w l) (hk : l[k]? = some p) (h : ∀ S, p.holds w S → Calls P f args w (Fin w S v l')) :
    Calls P f args w (Fin W S0 v (l' ++ l.eraseIdx k)) := by
  obtain ⟨S1, a, _, c⟩ := H.at k hk
  exact (h S1 a).mono fun _ w' ⟨he, hst⟩ => ⟨he, c w' l' hst⟩
/-- A call that turns nothing that is known. -/
theorem Calls.st_ret {P : Program} {f : FuncId} {args : Array Value} {v : Value} (H : St W S0 w l) (h : Calls P f args w (Ret w v)) : Calls P f args w (Fin W S0 v l) :=
  h.mono fun _ _ ⟨he, hb⟩ => ⟨he, H.thru hb⟩
theorem St.thruB (h : St W S0 w l) {B : Nat} (hB : w.heap.size ≤ B) (hb : Below B w w') : St W S0 w' l := h.thru (hb.mono hB)
theorem Own.tail {base size n g o cap i : Nat} {xs : List Value} (h : Own w base size (.slice (some ⟨g, o, none⟩) n cap) n xs) (hi : i ≤ n) : Own w base size (.slice (some ⟨g, o + i * size, none⟩) (n - i) (cap - i)) (n - i) (xs.drop (i * size)) := by
  obtain ⟨hl, h⟩ := h
  rcases h with ⟨h, _⟩ | ⟨g', o', cap', e, hb, hlt, hn, hc, hx, hr⟩
  · cases h
  · injection e with e1 e2 e3
    injection e1 with e1
    injection e1 with e4 e5
    subst e4 e5 e3
    refine ⟨by rw [List.length_drop, hl, Nat.sub_mul], .inr ⟨g, o + i * size, cap - i, rfl, hb, hlt, by omega, by omega, fun j u hu => ?_, fun j hj => ?_⟩⟩
    · rw [List.getElem?_drop] at hu
      rw [Nat.add_assoc]; exact hx _ _ hu
    · rw [Nat.add_assoc]
      refine hr _ ?_
      rw [Nat.sub_mul] at hj
      omega
theorem St.tail {size n g o cap i k : Nat} {xs : List Value} (H : St W S0 w l) (hk : l[k]? = some (rowA size (.slice (some ⟨g, o, none⟩) n cap) n xs)) (hi : i ≤ n) :
    St W S0 w (rowA size (.slice (some ⟨g, o + i * size, none⟩) (n - i) (cap - i)) (n - i) (xs.drop (i * size)) :: l.eraseIdx k) :=
  H.app k hk ((H.row k hk).tail hi) (World.grownBy.refl w _) (.inl rfl)
/-- A row that is handed on as an empty one, wherever it leads. -/
theorem St.tail0 {size n g o cap k : Nat} {xs : List Value} (H : St W S0 w l) (hk : l[k]? = some (rowA size (.slice (some ⟨g, o, none⟩) n cap) n xs)) :
    St W S0 w (rowA size (.slice (some ⟨g, o, none⟩) 0 0) 0 [] :: l.eraseIdx k) := by
  have h := H.row k hk
  refine H.app k hk ⟨by simp, .inr ⟨g, o, 0, rfl, Nat.zero_le _, (h.lt g rfl).2, Nat.le_refl _, Nat.zero_le _, fun j u hu => by simp at hu, fun j hj => by omega⟩⟩ (World.grownBy.refl w _) (.inl rfl)
/-- From place p on others are laid. -/
theorem Own.over {base size n g o cap p : Nat} {xs news : List Value} (h : Own w base size (.slice (some ⟨g, o, none⟩) n cap) n xs) (hl : p + news.length ≤ xs.length) :
    Own (w.setCells g (o + p) news) base size (.slice (some ⟨g, o, none⟩) n cap) n (xs.take p ++ news ++ xs.drop (p + news.length)) := by
  obtain ⟨hlen, h⟩ := h
  rcases h with ⟨h, _⟩ | ⟨g', o', cap', e, hb, hlt, hn, hc, hx, hr⟩
  · cases h
  · injection e with e1 e2 e3
    injection e1 with e1
    injection e1 with e4 e5
    subst e4 e5 e3
    have hnc : n * size ≤ cap * size := Nat.mul_le_mul_right _ hn
    have hsp : ∀ j, j < news.length → (w.cell? ⟨g, o + p + j, none⟩).isSome = true := fun j hj => by
      have := (hr (p + j) (by omega)).1
      rwa [← Nat.add_assoc] at this
    have htp : (xs.take p).length = p := by rw [List.length_take]; omega
    refine ⟨by simp only [List.length_append, htp, List.length_drop]; omega, .inr ⟨g, o, cap, rfl, hb, by rw [size_cells]; exact hlt, hn, hc, fun j u hu => ?_, fun j hj => ?_⟩⟩
    · by_cases h1 : j < p
      · rw [List.append_assoc, List.getElem?_append_left (by omega), List.getElem?_take_of_lt h1] at hu
        rw [World.cell?_setCells_out g news (o + p) w ⟨g, o + j, none⟩ (fun _ _ => .inl (by simp only; omega))]
        exact hx j u hu
      · by_cases h2 : j < p + news.length
        · rw [List.append_assoc, List.getElem?_append_right (by omega), htp, List.getElem?_append_left (by omega)] at hu
          have hj2 : j - p < news.length := by omega
          have := World.cell?_setCells_in g news (o + p) w hsp (j - p) hj2
          rw [show o + j = o + p + (j - p) by omega, this]
          rw [List.getElem?_eq_getElem hj2] at hu
          exact hu
        · rw [List.getElem?_append_right (by simp [htp]; omega), List.getElem?_drop] at hu
          rw [World.cell?_setCells_out g news (o + p) w ⟨g, o + j, none⟩ (fun _ _ => .inr (by simp only; omega))]
          refine hx j u ?_
          rw [← hu]
          congr 1
          simp only [List.length_append, htp]
          omega
    · refine ⟨?_, by rw [World.frozen?_setCells]; exact (hr j hj).2⟩
      by_cases h1 : j < p ∨ p + news.length ≤ j
      · rw [World.cell?_setCells_out g news (o + p) w ⟨g, o + j, none⟩ (fun _ _ => by simp only; omega)]
        exact (hr j hj).1
      · have hj2 : j - p < news.length := by omega
        have := World.cell?_setCells_in g news (o + p) w hsp (j - p) hj2
        rw [show o + j = o + p + (j - p) by omega, this]
        rfl
theorem St.over {size n g o cap p k : Nat} {xs news : List Value} (H : St W S0 w l) (hk : l[k]? = some (rowA size (.slice (some ⟨g, o, none⟩) n cap) n xs)) (hl : p + news.length ≤ xs.length) :
    St W S0 (w.setCells g (o + p) news) (rowA size (.slice (some ⟨g, o, none⟩) n cap) n (xs.take p ++ news ++ xs.drop (p + news.length)) :: l.eraseIdx k) :=
  H.app k hk ((H.row k hk).over hl) (grown_cells g _ _ _) (.inl rfl)
/-- A made block of cells as a row. -/
theorem St.row_made {size b n : Nat} {vs : List Value} (i : Nat) (h : St W S0 w l) (hi : l[i]? = some (cellA b vs)) (hn : vs.length = n * size) (hm : n ≤ maxLen) : St W S0 w (rowA size (.slice (some ⟨b, 0, none⟩) n n) n vs :: l.eraseIdx i) := by
  obtain ⟨S1, ⟨a, a'⟩, _, c⟩ := h.at i hi
  refine c w [_] (St.start (Sep.one ⟨⟨hn, .inr ⟨b, 0, n, rfl, Nat.zero_le _, a.lt, Nat.le_refl _, hm, fun j u hu => by rw [Nat.zero_add, a.cells]; exact hu, fun j hj => ?_⟩⟩, fun x => by rw [a' x]; simp [Value.ownBlock, eq_comm]⟩))
  rw [Nat.zero_add, a.cells]
  exact ⟨by simp; omega, a.free _⟩
/-- 'copy(dst, src)' where all of src goes over. -/
theorem wpList_copyS {P : Program} {ops : Array Oper} {rest : List Oper} {q : Oper} {a : Act} {Q : Exit → Act → World → Prop} {size n : Nat} {xs : List Value} (hgd : q.guard = none) (dO sO : Operand) (t : TypeId)
    (ho : q.op = .call { callee := .builtin .copy, args := #[dO, sO], argTypes := #[t, t] })
    (e : TypeId) (i0 : TypeInfo) (ht : P.underlying t = some (.slice e)) (hi0 : P.info? e = some i0) (hsize : i0.size = size)
    (k g o cap : Nat) (H : St W S0 w l) (hk : l[k]? = some (rowA size (.slice (some ⟨g, o, none⟩) n cap) n xs))
    (hd : a.eval dO = .slice (some ⟨g, o, none⟩) n cap) (ad : Option Addr) (m c : Nat) (hx : a.eval sO = .slice ad m c) (hm : m ≤ n) (news : List Value) (hl : news.length = m * size)
    (hnews : 0 < m → ∃ b off, ad = some ⟨b, off, none⟩ ∧ ∀ j u, news[j]? = some u → w.cell? ⟨b, off + j, none⟩ = some u) (h1 : ∀ u ∈ news, u.oneCell' = true)
    (h : ∀ w', St W S0 w' (rowA size (.slice (some ⟨g, o, none⟩) n cap) n (news ++ xs.drop news.length) :: l.eraseIdx k) → wpList P ops Q rest (a.put q.dst (.int .i64 m)) w') : wpList P ops Q (q :: rest) a w :=
  wpList_plain hgd fun _ hK => by
    subst hsize
    have hown := H.row k hk
    obtain ⟨hlen, hown'⟩ := id hown
    have hmn : m * i0.size ≤ n * i0.size := Nat.mul_le_mul_right _ hm
    have hS := H.over (p := 0) (news := news) hk (by omega)
    simp only [Nat.zero_add, Nat.add_zero, List.take_zero, List.nil_append] at hS
    have hmin : Nat.min m n = m := Nat.min_eq_left hm
    by_cases h0 : 0 < m
    · obtain ⟨b, off, rfl, hc⟩ := hnews h0
      have hll := run_loadCells_list (P := P) (w := w) ⟨b, off, none⟩ news (fun j u hu => by
        have := hc j u hu
        unfold Addr.add
        split
        · rename_i hj; subst hj; simpa using this
        · simpa using this)
      have hroom : ∀ j, j < news.length → (w.cell? ⟨g, o + 0 + j, none⟩).isSome = true ∧ w.frozen? ⟨g, o + 0 + j, none⟩ = false := fun j hj => by
        rcases hown' with ⟨h, _⟩ | ⟨_, _, _, e, _, _, hn, _, _, hr⟩
        · cases h
        · injection e with e1 e2 e3
          injection e1 with e1
          injection e1 with e4 e5
          subst e4 e5 e3
          have : n * i0.size ≤ cap * i0.size := Nat.mul_le_mul_right _ hn
          rw [Nat.add_zero]
          exact hr j (by omega)
      have hst := run_storeCells_cells (P := P) g o news 0 w (fun j hj => (hroom j hj).1) (fun j hj => (hroom j hj).2) h1
      rw [Nat.add_zero] at hst
      have hrun : (Builtin.copy_ #[t, t] q.type #[.slice (some ⟨g, o, none⟩) n cap, .slice (some ⟨b, off, none⟩) m c]).run P w = .ok (goInt m) (w.setCells g o news) := by
        simp [Builtin.copy_, run_underlying ht, Builtin.lenOf, Builtin.firstCells, sizeOf, typeInfo, hi0, hmin, ← hl, hll, hst]
      unfold Oper.wp execOp
      simp only [ho, resolve, invoke, builtin, Sem.run_bind, Sem.run_pure, Result.andThen_ok, List.map_toArray, List.map_cons, List.map_nil, hd, hx, hrun]
      exact hK _ _ (h _ hS)
    · obtain rfl : m = 0 := by omega
      obtain rfl : news = [] := List.eq_nil_of_length_eq_zero (by omega)
      simp only [World.setCells] at hS
      have hl0 : ∀ (x : Addr), (loadCells x 0).run P w = .ok #[] w := fun x => by simpa using run_loadCells_list (P := P) (w := w) x [] (by simp)
      have hrun : (Builtin.copy_ #[t, t] q.type #[.slice (some ⟨g, o, none⟩) n cap, .slice ad 0 c]).run P w = .ok (goInt 0) w := by
        cases ad <;> simp [Builtin.copy_, run_underlying ht, Builtin.lenOf, Builtin.firstCells, sizeOf, typeInfo, hi0, storeCells, hl0]
      unfold Oper.wp execOp
      simp only [ho, resolve, invoke, builtin, Sem.run_bind, Sem.run_pure, Result.andThen_ok, List.map_toArray, List.map_cons, List.map_nil, hd, hx, hrun]
      exact hK _ _ (h _ hS)
end
end Go.Proofs.Ytiaefmmcakagpaa

/- More of parts of memory: two parts are never the same block; blocks that hold no cells. -/
namespace Go.Proofs.Ytiaefmmcakagpaa
set_option linter.unusedSimpArgs false
set_option linter.unusedVariables false
open Go Go.RowKit

section
variable {w w' W : World} {S S0 : Nat → Prop} {l : List Asn} {p q : Asn}
theorem Sep.part : ∀ {l : List Asn} {S : Nat → Prop} (i : Nat), Sep w l S → l[i]? = some p → ∃ S1, p.holds w S1 ∧ ∀ b, S1 b → S b
  | _, _, i, h, hi => let ⟨S1, a, b, _⟩ := h.at i hi; ⟨S1, a, b⟩
theorem Sep.apart : ∀ {l : List Asn} {S : Nat → Prop} (i j : Nat), i < j → Sep w l S → l[i]? = some p → l[j]? = some q → ∃ S1 S2, p.holds w S1 ∧ q.holds w S2 ∧ ∀ b, S1 b → ¬ S2 b
  | [], _, _, _, _, _, h, _ => by simp at h
  | a :: l, S, 0, j + 1, _, ⟨S1, S2, h1, h2, h3, h4⟩, hi, hj => by
    obtain rfl : a = p := by simpa using hi
    obtain ⟨T, t1, t2⟩ := Sep.part j h2 (by simpa using hj)
    exact ⟨S1, T, h1, t1, fun b hb ht => h3 b hb (t2 b ht)⟩
  | a :: l, S, i + 1, j + 1, hij, ⟨S1, S2, h1, h2, h3, h4⟩, hi, hj => Sep.apart i j (by omega) h2 (by simpa using hi) (by simpa using hj)
theorem St.apart (i j : Nat) (h : St W S0 w l) (hij : i < j) (hi : l[i]? = some p) (hj : l[j]? = some q) : ∃ S1 S2, p.holds w S1 ∧ q.holds w S2 ∧ ∀ b, S1 b → ¬ S2 b := by
  obtain ⟨_, S, h2, _⟩ := h
  exact h2.apart i j hij hi hj
/-- Two blocks of cells are not the same one. -/
theorem St.ne_cells {b c : Nat} {vs us : List Value} (i j : Nat) (h : St W S0 w l) (hi : l[i]? = some (cellA b vs)) (hj : l[j]? = some (cellA c us)) (hij : i < j) : ¬ b = c := by
  obtain ⟨S1, S2, h1, h2, h3⟩ := h.apart i j hij hi hj
  intro e
  exact h3 b ((h1.2 b).2 rfl) ((h2.2 b).2 e)

/-- Only the first parts. -/
theorem St.drops (h : St W S0 w l) (n : Nat) : St W S0 w (l.take n) := by
  have h' : St W S0 w (l.take n ++ l.drop n) := by rwa [List.take_append_drop]
  have := (St.join _ _ h').front 0 rfl
  obtain ⟨h1, S, ⟨S1, S2, g1, g2, g3, g4⟩, h3⟩ := this
  exact ⟨h1, S1, g1, fun b hb => h3 b ((g4 b).2 (.inl hb))⟩
theorem St.all (h : St W S0 w l) : St W S0 w [sepA l] := St.join l [] (by rwa [List.append_nil])
theorem Sep.perm {l l' : List Asn} (hp : l.Perm l') : ∀ {S : Nat → Prop}, Sep w l S → Sep w l' S := by
  induction hp with
  | nil => exact id
  | cons a _ ih =>
    rintro S ⟨S1, S2, h1, h2, h3, h4⟩
    exact ⟨S1, S2, h1, ih h2, h3, h4⟩
  | swap a b l =>
    rintro S ⟨S1, S2, h1, ⟨S3, S4, g1, g2, g3, g4⟩, h3, h4⟩
    refine ⟨S3, fun x => S1 x ∨ S4 x, g1, ⟨S1, S4, h1, g2, fun x hx hy => h3 x hx ((g4 x).2 (.inr hy)), fun _ => Iff.rfl⟩, fun x hx hy => ?_, fun x => ?_⟩
    · rcases hy with hy | hy
      · exact h3 x hy ((g4 x).2 (.inl hx))
      · exact g3 x hx hy
    · rw [h4, g4]
      exact ⟨fun h => by rcases h with h | h | h <;> simp [h], fun h => by rcases h with h | h | h <;> simp [h]⟩
  | trans _ _ ih1 ih2 => exact fun h => ih2 (ih1 h)
theorem range_getD {α : Type} (d : α) (l : List α) : (List.range l.length).map (fun i => l.getD i d) = l := by
  apply List.ext_getElem?
  intro i
  by_cases h : i < l.length
  · simp [h]
  · simp [h]
/-- Another order of the parts: 'is' names them by where they stand. -/
theorem St.arr (h : St W S0 w l) (is : List Nat) (hp : is.isPerm (List.range l.length) = true) : St W S0 w (is.map fun i => l.getD i (sepA [])) := by
  obtain ⟨h1, S, h2, h3⟩ := h
  have hq : (is.map fun i => l.getD i (sepA [])).Perm l := by
    have := (List.isPerm_iff.1 hp).map (fun i => l.getD i (sepA []))
    rwa [range_getD] at this
  exact ⟨h1, S, h2.perm hq.symm, h3⟩
/-- Another order of the first parts. -/
theorem St.arrN (h : St W S0 w l) (is : List Nat) (hp : is.isPerm (List.range is.length) = true) (hn : is.length ≤ l.length := by simp) : St W S0 w ((is.map fun i => l.getD i (sepA [])) ++ l.drop is.length) := by
  obtain ⟨h1, S, h2, h3⟩ := h
  have hq : ((is.map fun i => l.getD i (sepA [])) ++ l.drop is.length).Perm l := by
    have h4 := (List.isPerm_iff.1 hp).map (fun i => l.getD i (sepA []))
    have h5 : (List.range is.length).map (fun i => l.getD i (sepA [])) = l.take is.length := by
      apply List.ext_getElem?
      intro i
      by_cases h : i < is.length
      · simp [h, show i < l.length by omega]
      · simp [h]
        omega
    rw [h5] at h4
    have := h4.append_right (l.drop is.length)
    rwa [List.take_append_drop] at this
  exact ⟨h1, S, h2.perm hq.symm, h3⟩
/-- A block that holds just this object. -/
def objA (b : Nat) (o : Obj) : Asn where
  holds w S := w.heap[b]? = some o ∧ ∀ x, S x ↔ x = b
  keeps w w' S h hs hb := ⟨(hb b ((h.2 b).2 rfl)).trans h.1, h.2⟩
  inb w S b' h hx := by
    rw [(h.2 b').1 hx]
    exact (Array.getElem?_eq_some_iff.1 h.1).1
theorem St.obj {b : Nat} {o : Obj} (i : Nat) (h : St W S0 w l) (hi : l[i]? = some (objA b o)) : w.heap[b]? = some o := by
  obtain ⟨S1, a, _⟩ := h.at i hi
  exact a.1
theorem St.newObj (h : St W S0 w l) (o : Obj) : St W S0 (w.alloc o) (objA w.heap.size o :: l) := by
  obtain ⟨h1, _, _, _⟩ := h.skip o
  obtain ⟨S2, h4, h5⟩ := h.sep
  have h4' := h4.keeps (w' := w.alloc o) (by simp) fun b hx => Below.heap_alloc w _ b (h4.inb hx)
  refine ⟨h1, fun b => b = w.heap.size ∨ S2 b, ⟨fun b => b = w.heap.size, S2, ⟨?_, fun _ => Iff.rfl⟩, h4', fun b e hx => ?_, fun _ => Iff.rfl⟩, fun b hx => ?_⟩
  · show (w.heap.push o)[w.heap.size]? = some o
    simp
  · have := h4.inb hx
    omega
  · rcases hx with hx | hx
    · exact .inr (by rw [hx]; exact h.size)
    · exact h5 b hx
theorem St.all_front (l1 l2 : List Asn) (p : Asn) (h : St W S0 w (l1 ++ p :: l2)) : St W S0 w (p :: (l1 ++ l2)) := by
  have := h.front l1.length (p := p) (by simp)
  rwa [List.eraseIdx_append_of_length_le (Nat.le_refl _), Nat.sub_self, List.eraseIdx_zero, List.tail_cons] at this
theorem St.into (l1 l2 : List Asn) (p : Asn) (h : St W S0 w (p :: (l1 ++ l2))) : St W S0 w (l1 ++ p :: l2) := by
  induction l1 generalizing p W S0 with
  | nil => exact h
  | cons a l1 ih =>
    have h1 : St W S0 w (a :: p :: (l1 ++ l2)) := by simpa using h.front 1 (p := a) (by simp)
    obtain ⟨k1, S, ⟨S1, S2, g1, g2, g3, g4⟩, k3⟩ := h1
    have : St w S2 w (p :: (l1 ++ l2)) := St.start g2
    obtain ⟨_, T, t1, t2⟩ := ih p this
    have hsub : ∀ b, T b → S2 b := fun b hb => by
      rcases t2 b hb with h | h
      · exact h
      · have := t1.inb hb; omega
    refine ⟨k1, fun b => S1 b ∨ T b, ⟨S1, T, g1, t1, fun b hb ht => g3 b hb (hsub b ht), fun _ => Iff.rfl⟩, fun b hb => ?_⟩
    rcases hb with hb | hb
    · exact k3 b ((g4 b).2 (.inl hb))
    · exact k3 b ((g4 b).2 (.inr (hsub b hb)))
/-- A block's cells, read as a slice. -/
theorem Box.rd {b : Nat} {vs : List Value} (h : Box w b vs) : Rd w (some ⟨b, 0, none⟩) vs := .inr ⟨b, 0, rfl, h.lt, fun j u hu => by rw [Nat.zero_add, h.cells]; exact hu⟩
/-- 'string([]byte{c})'. -/
theorem run_byte {P : Program} (src dst e : TypeId) (hs : P.underlying src = some (.slice e)) (he : P.underlying e = some (.int .u8)) (hd : P.underlying dst = some .string) {b : Nat} {c : Nat} (hc : c < 256) (h : Box w b [.int .u8 (c : Int)]) :
    (convert src dst (.slice (some ⟨b, 0, none⟩) 1 1)).run P w = .ok (.string ⟨#[UInt8.ofNat c]⟩) w :=
  run_convert_bytes_back w src dst e ⟨b, 0, none⟩ 1 [UInt8.ofNat c] hs he hd fun j hj => by
    obtain rfl : j = 0 := by simp at hj; omega
    have := h.cells 0
    simp only [Addr.add, if_pos]
    rw [this]
    simp [Nat.mod_eq_of_lt hc]
/-- What is told of a row that is handed on. -/
theorem St.slice {size n : Nat} {v : Value} {xs : List Value} (hs : 0 < size) (i : Nat) (h : St W S0 w l) (hi : l[i]? = some (rowA size v n xs)) :
    ∃ a cap, v = .slice a n cap ∧ n ≤ cap ∧ cap ≤ maxLen ∧ (a = none → n = 0) ∧ Rd w a xs := by
  have ho := h.row i hi
  obtain ⟨a, cap, e, _, hl, hr⟩ := ho.rd hs
  refine ⟨a, cap, e, ?_⟩
  subst e
  rcases ho.2 with ⟨e, e0⟩ | ⟨g, o, cap', e, _, _, hn, hc, _⟩
  · injection e with e1 e2 e3
    subst e1 e3 e0
    exact ⟨Nat.le_refl _, Nat.zero_le _, fun _ => rfl, hr⟩
  · injection e with e1 e2 e3
    subst e1 e3
    exact ⟨hn, hc, (fun e => by cases e), hr⟩
theorem St.rd {size n cap : Nat} {a : Option Addr} {xs : List Value} (hs : 0 < size) (i : Nat) (h : St W S0 w l) (hi : l[i]? = some (rowA size (.slice a n cap) n xs)) : Rd w a xs := by
  obtain ⟨a', cap', e, _, _, hr⟩ := (h.row i hi).rd hs
  injection e with e1 e2 e3
  subst e1
  exact hr
/-- A function value is not nil; nil is. -/
def isF : Option TypeDesc → Bool
  | some (.func ..) => true
  | _ => false
theorem equalIn_func {P : Program} (d : Nat) (t : TypeId) (h : isF (P.underlying t) = true) (f : Fn) (fi ca : Array Value) (w : World) : (Op.equalIn (d + 1) t (.func f fi ca) .nilFunc).run P w = .ok false w := by
  cases hu : P.underlying t with
  | none => rw [hu] at h; cases h
  | some e =>
    rw [hu] at h
    cases e <;> first | (cases h; done) | skip
    simp [Op.equalIn, run_underlying hu]
theorem equalIn_nilf {P : Program} (d : Nat) (t : TypeId) (h : isF (P.underlying t) = true) (w : World) : (Op.equalIn (d + 1) t .nilFunc .nilFunc).run P w = .ok true w := by
  cases hu : P.underlying t with
  | none => rw [hu] at h; cases h
  | some e =>
    rw [hu] at h
    cases e <;> first | (cases h; done) | skip
    simp [Op.equalIn, run_underlying hu]
theorem equal_func {P : Program} (t : TypeId) (h : isF (P.underlying t) = true) (f : Fn) (fi ca : Array Value) (w : World) : (Op.equal t (.func f fi ca) .nilFunc).run P w = .ok false w := equalIn_func 9999 t h f fi ca w
theorem equal_nilf {P : Program} (t : TypeId) (h : isF (P.underlying t) = true) (w : World) : (Op.equal t .nilFunc .nilFunc).run P w = .ok true w := equalIn_nilf 9999 t h w
theorem run_eql_func {P : Program} (t : TypeId) (h : isF (P.underlying t) = true) (f : Fn) (fi ca : Array Value) (w : World) : (binOp .eql t (.func f fi ca) .nilFunc).run P w = .ok (.bool false) w := by
  simp only [binOp]
  simp [equal_func t h f fi ca w]
theorem run_eql_snil {P : Program} (t e : TypeId) (h : P.underlying t = some (.slice e)) (a : Option Addr) (n c : Nat) (w : World) : (binOp .eql t (.slice a n c) (.slice none 0 0)).run P w = .ok (.bool a.isNone) w := by
  simp only [binOp]
  have := run_equal_slice_nil w t e a n c h
  simp [this]
theorem run_neq_func {P : Program} (t : TypeId) (h : isF (P.underlying t) = true) (f : Fn) (fi ca : Array Value) (w : World) : (binOp .neq t (.func f fi ca) .nilFunc).run P w = .ok (.bool true) w := by
  simp only [binOp]
  simp [equal_func t h f fi ca w]
theorem run_eql_nilf {P : Program} (t : TypeId) (h : isF (P.underlying t) = true) (w : World) : (binOp .eql t .nilFunc .nilFunc).run P w = .ok (.bool true) w := by
  simp only [binOp]
  simp [equal_nilf t h w]
theorem run_neq_nilf {P : Program} (t : TypeId) (h : isF (P.underlying t) = true) (w : World) : (binOp .neq t .nilFunc .nilFunc).run P w = .ok (.bool false) w := by
  simp only [binOp]
  simp [equal_nilf t h w]
end
end Go.Proofs.Ytiaefmmcakagpaa

/- A statement whose order Go leaves open, of which some operations only read (they are walked first, once, in the order of the text), and the others make or write memory of the call's own (they are walked in each order that may come up). -/
namespace Go.Proofs.Ytiaefmmcakagpaa
set_option linter.unusedSimpArgs false
set_option linter.unusedVariables false
open Go Go.RowKit

/-- Operations that hand back a value and enter no function. -/
def calmB (o : Oper) : Bool :=
  match o.op with
  | .move _ | .assign _ | .pick .. | .load .. | .binOp .. | .unOp .. | .convert .. | .slice .. | .fieldAddr .. | .field .. | .indexAddr .. | .index .. | .extract .. | .build .. | .nilCheck .. => true
  | .call c => match c.callee with
    | .builtin .len => true
    | .builtin .min => true
    | .builtin .max => true
    | .builtin .cap => true
    | _ => false
  | _ => false

section
variable {P : Program} {ops : Array Oper} {md : Region.Mode} {Q : Exit → Act → World → Prop} {S : World → Prop} {C : World → Prop}

theorem run_v {s : Sem Value} {w w' : World} {n : Next} (h : (do pure (Next.value (← s)) : Sem Next).run P w = .ok n w') : ∃ u, n = .value u := by
  rw [Sem.run_bind] at h
  cases hs : s.run P w with
  | ok u w1 =>
    rw [hs] at h
    simp only [Result.andThen, Sem.run_pure] at h
    injection h with h1 h2
    exact ⟨u, h1.symm⟩
  | halt x w1 =>
    rw [hs] at h
    simp only [Result.andThen] at h
    cases h
theorem run_p {u : Value} {w w' : World} {n : Next} (h : (pure (Next.value u) : Sem Next).run P w = .ok n w') : ∃ u, n = .value u := by
  rw [Sem.run_pure] at h
  injection h with h1 h2
  exact ⟨u, h1.symm⟩
theorem calm_value {o : Oper} (hc : calmB o = true) {ρ : Operand → Value} {w w' : World} {n : Next} (h : (execOp ρ o).run P w = .ok n w') : ∃ u, n = .value u := by
  obtain ⟨dst, op, type, pos, after, guard⟩ := o
  unfold calmB at hc
  unfold execOp at h
  simp only at hc h
  cases op <;> simp only at hc h <;> first | exact run_v h | exact run_p (P := P) h | (cases hc; done) | skip
  case nilCheck x =>
    split at h
    all_goals first
      | exact run_p (P := P) h
      | (unfold runtimePanic at h; simp [go_sem] at h; done)
      | (simp [go_sem, runtimePanic] at h; done)
      | (split at h <;> first | exact run_p (P := P) h | (simp [go_sem, runtimePanic] at h; done) | (simp [go_sem, runtimePanic, Result.andThen] at h; (repeat' split at h) <;> first | (injection h with h1 h2; exact ⟨_, h1.symm⟩) | (cases h; done) | (simp [go_sem] at h; done)))
  case pick x a b =>
    rw [Sem.run_bind] at h
    cases hs : (asBool (ρ x)).run P w with
    | ok u w1 =>
      rw [hs] at h
      exact run_p (P := P) h
    | halt x w1 =>
      rw [hs] at h
      simp only [Result.andThen] at h
      cases h
  case call c =>
    obtain ⟨callee, args, ats⟩ := c
    simp only at hc h
    cases callee with
    | builtin b =>
      unfold resolve at h
      simp only [pure_bind] at h
      unfold invoke at h
      simp only at h
      unfold builtin at h
      cases b <;> simp only at hc h <;> first | exact run_v h | (cases hc; done)
    | value f => cases hc
    | invoke r m => cases hc
theorem yieldsIf_of_in {o : Oper} {v : Value} {a : Act} (hc : calmB o = true) (hSC : ∀ w, S w → C w) (h : YieldsIn P ops C o v a) : YieldsIf P ops S o v a := by
  rcases h with ⟨hw, hv⟩ | ⟨hw, hv⟩
  · refine .inl ⟨hw, fun w hS => ?_⟩
    have h1 := hv w (hSC w hS)
    unfold Oper.quietAt at h1
    generalize hr : (execOp a.eval o).run P w = r at *
    cases r with
    | ok n w' =>
      obtain ⟨u, rfl⟩ := calm_value hc hr
      obtain ⟨e1, e2⟩ := h1
      rw [e1, e2]
    | halt x w' => exact h1.elim
  · exact .inr ⟨hw, hv⟩

/-- Those that only read may be taken in this order. -/
def Region.quietB (md : Region.Mode) (ops : Array Oper) : List Nat → Array Bool → Bool
  | [], _ => true
  | k :: ks, listed => ((Region.ready md ops listed).contains k && Region.free md ops listed k) && Region.quietB md ops ks (listed.setIfInBounds k true)
def setAll (ks : List Nat) (listed : Array Bool) : Array Bool := ks.foldl (fun l k => l.setIfInBounds k true) listed

theorem held_quiet (hs : Region.noSelect ops = true) (hSC : ∀ w, S w → C w) (hQ : ∀ c a a' w, a.defers = a'.defers → Q (.panic c) a w → Q (.panic c) a' w) {f : Nat} {w : World} (hS : S w) :
    ∀ (os : List Nat) (lo : List Oper) (listed : Array Bool) (a : Act), os.map (fun k => ops[k]?) = lo.map some → lo.all calmB = true → Region.quietB md ops os listed = true →
      wpQuiet P ops C (fun a' => wpAnyH P md ops Q S f (setAll os listed) a' w) lo a → wpAnyH P md ops Q S (f + os.length) listed a w
  | [], [], listed, a, _, _, _, h => h
  | k :: os, o :: lo, listed, a, hl, hc, hB, h => by
    simp only [List.map_cons, List.cons.injEq] at hl
    simp only [List.all_cons, Bool.and_eq_true] at hc
    simp only [Region.quietB, Bool.and_eq_true] at hB
    have hst : qOp P ops C k (wpQuiet P ops C (fun a' => wpAnyH P md ops Q S f (setAll (k :: os) listed) a' w) lo) a := by
      unfold qOp; simp only [hl.1]; exact h
    obtain ⟨v, hy, hK⟩ := yieldsIn_of_qOp hl.1 hst
    exact wpAnyH_take hl.1 hs hB.1.2 hB.1.1 (fun c a w hq => hQ c _ _ w (by cases o.dst <;> rfl) hq) (yieldsIf_of_in hc.1 hSC hy) hS
      (held_quiet hs hSC hQ hS os lo _ _ hl.2 hc.2 hB.2 hK)
  | [], _ :: _, _, _, hl, _, _, _ => by simp at hl
  | _ :: _, [], _, _, hl, _, _, _ => by simp at hl

theorem wpOp_of_list {i : Nat} {oi : Oper} (hi : ops[i]? = some oi) {K : Act → World → Prop} {a : Act} {w : World} (h : wpList P ops (Exit.then K Q) [oi] a w) : wpOp P ops Q i K a w := by
  unfold wpOp
  simp only [hi]
  unfold wpList at h
  have hnil : wpList P ops (Exit.then K Q) [] = K := by funext a w; rfl
  rw [hnil] at h
  split
  · rename_i hw
    rw [if_pos hw] at h
    rcases h with h | ⟨h1, h2⟩
    · left
      unfold Oper.wp at *
      generalize (execOp a.eval oi).run P w = r at *
      cases r with
      | ok n w' =>
        cases n <;> simp only [Oper.upon] at h ⊢ <;> first | exact h | exact Calls.mono h (fun e w'' he => by cases e <;> exact he) | exact Rows.mono h (fun _ _ he => he)
      | halt x w' => cases x <;> simp only [Oper.upon] at h ⊢ <;> exact h
    · exact .inr ⟨h1, h2⟩
  · rename_i hw
    rw [if_neg hw] at h
    exact h

theorem wpOp_of_at {l : List Oper} {i : Nat} {K : Act → World → Prop} {a : Act} {w : World} (h : wpList P l.toArray (Exit.then K Q) ((l.drop i).take 1) a w) : wpOp P l.toArray Q i K a w := by
  by_cases hi : i < l.length
  · rw [List.drop_eq_getElem_cons hi, List.take_succ_cons, List.take_zero] at h
    exact wpOp_of_list (by simp [hi]) h
  · rw [List.drop_of_length_le (by omega), List.take_nil] at h
    unfold wpOp
    rw [show l.toArray[i]? = none by simp; omega]
    exact h
/-- One operation alone may come up. -/
theorem held_one {l : List Oper} {i f : Nat} {listed : Array Bool} {a : Act} {w : World} (hr : Region.ready md l.toArray listed = [i])
    (h : ∀ K : Act → World → Prop, (∀ a' w', S w' → wpAnyH P md l.toArray Q S f (listed.setIfInBounds i true) a' w' → K a' w') → wpList P l.toArray (Exit.then K Q) ((l.drop i).take 1) a w) : wpAnyH P md l.toArray Q S (f + 1) listed a w :=
  wpAnyH_all hr (by simp) fun j hj => by
    obtain rfl : j = i := by simpa using hj
    exact wpOp_of_at (h _ fun a' w' h1 h2 => ⟨h1, h2⟩)
/-- Either of two may come up. -/
theorem held_two {l : List Oper} {i j f : Nat} {listed : Array Bool} {a : Act} {w : World} (hr : Region.ready md l.toArray listed = [i, j])
    (h1 : ∀ K : Act → World → Prop, (∀ a' w', S w' → wpAnyH P md l.toArray Q S f (listed.setIfInBounds i true) a' w' → K a' w') → wpList P l.toArray (Exit.then K Q) ((l.drop i).take 1) a w)
    (h2 : ∀ K : Act → World → Prop, (∀ a' w', S w' → wpAnyH P md l.toArray Q S f (listed.setIfInBounds j true) a' w' → K a' w') → wpList P l.toArray (Exit.then K Q) ((l.drop j).take 1) a w) : wpAnyH P md l.toArray Q S (f + 1) listed a w :=
  wpAnyH_all hr (by simp) fun k hk => by
    by_cases e : k = i
    · subst e
      exact wpOp_of_at (h1 _ fun a' w' h1 h2 => ⟨h1, h2⟩)
    · obtain rfl : k = j := by simp at hk; omega
      exact wpOp_of_at (h2 _ fun a' w' h1 h2 => ⟨h1, h2⟩)
theorem held_done {listed : Array Bool} {a : Act} {w : World} (hr : Region.ready md ops listed = []) (h : Q .normal a w) : wpAnyH P md ops Q S 0 listed a w := ⟨hr, h⟩

/-- Those of a list that a mask shows. -/
def pickB : List Bool → List Oper → List Oper
  | true :: m, o :: l => o :: pickB m l
  | false :: m, _ :: l => pickB m l
  | _, _ => []
/-- The beginning: those of 'os' only read, in all worlds that are as W was below B. -/
theorem wp_region_made {id : Nat} {a : Act} {w : World} {l : List Oper} (B : Nat) (W : World) (os : List Nat) (m : List Bool) (f : Nat) (listed : Array Bool) (hm : P.follows .mixedOrders = true) (hW : Below B W w)
    (hl : os.map (fun k => l.toArray[k]?) = (pickB m l).map some) (hc : (pickB m l).all calmB = true) (hs : Region.noSelect l.toArray = true) (hf : f + os.length = l.length)
    (hB : Region.quietB .any l.toArray os (Array.replicate l.length false) = true) (hd : setAll os (Array.replicate l.length false) = listed)
    (hQ : ∀ c a a' w, a.defers = a'.defers → Q (.panic c) a w → Q (.panic c) a' w)
    (h : (∀ (s : Near B W) b o, b < B → s.it.cell? ⟨b, o, none⟩ = W.cell? ⟨b, o, none⟩) →
      wpQuiet P l.toArray (fun w' => ∃ s : Near B W, w' = s.it) (fun a' => wpAnyH P .any l.toArray Q (Below B W) f listed a' w.drew) (pickB m l) a) : (Code.region id l.toArray true).wp P Q a w := by
  refine wp_region_held (S := Below B W) hm ?_
  subst hd
  have := held_quiet (P := P) (md := .any) (ops := l.toArray) (Q := Q) (S := Below B W) (C := fun w' => ∃ s : Near B W, w' = s.it) (f := f) (w := w.drew) hs (fun w' hw' => ⟨⟨w', hw'⟩, rfl⟩) hQ hW.drew os (pickB m l) _ a hl hc hB (h (near_cells _ _))
  rw [hf] at this
  simpa using this
theorem quiet_mono' {C : World → Prop} : ∀ (lo : List Oper) (a : Act) (K K' : Act → Prop), (∀ a, K a → K' a) → wpQuiet P ops C K lo a → wpQuiet P ops C K' lo a
  | [], _, _, _, h, hh => h _ hh
  | o :: lo, a, K, K', h, hh => by
    unfold wpQuiet at *
    split
    · rename_i hw
      rw [if_pos hw] at hh
      exact Oper.quiet_mono (fun a => quiet_mono' lo a K K' h) hh
    · rename_i hw
      rw [if_neg hw] at hh
      exact quiet_mono' lo _ K K' h hh
theorem wp_region_made0 {id : Nat} {a : Act} {w : World} {l : List Oper} (os : List Nat) (m : List Bool) (f : Nat) (listed : Array Bool) (hm : P.follows .mixedOrders = true)
    (hl : os.map (fun k => l.toArray[k]?) = (pickB m l).map some) (hc : (pickB m l).all calmB = true) (hs : Region.noSelect l.toArray = true) (hf : f + os.length = l.length)
    (hB : Region.quietB .any l.toArray os (Array.replicate l.length false) = true) (hd : setAll os (Array.replicate l.length false) = listed)
    (hQ : ∀ c a a' w, a.defers = a'.defers → Q (.panic c) a w → Q (.panic c) a' w)
    (h : (∀ (s : Near w.heap.size w) b o, b < w.heap.size → s.it.cell? ⟨b, o, none⟩ = w.cell? ⟨b, o, none⟩) →
      wpQuiet P l.toArray (fun w' => ∃ s : Near w.heap.size w, w' = s.it) (fun a' => ∀ W, W = w → wpAnyH P .any l.toArray Q (Below W.heap.size W) f listed a' W.drew) (pickB m l) a) : (Code.region id l.toArray true).wp P Q a w :=
  wp_region_made w.heap.size w os m f listed hm (Below.refl _ _) hl hc hs hf hB hd hQ fun hs => quiet_mono' _ _ _ _ (fun _ h => h w rfl) (h hs)
end
end Go.Proofs.Ytiaefmmcakagpaa

/- Drawn regions that make memory, and end in one operation that waits for all others (a store into what was there). -/
namespace Go.Proofs.Ytiaefmmcakagpaa
set_option linter.unusedSimpArgs false
set_option linter.unusedVariables false
open Go Go.RowKit
section
variable {P : Program} {md : Region.Mode} {ops : Array Oper} {Q : Exit → Act → World → Prop} {S C : World → Prop} {t : Nat}

/-- Whatever order is picked, S holds behind each operation up to the last one, t. -/
def wpTo (P : Program) (md : Region.Mode) (ops : Array Oper) (Q : Exit → Act → World → Prop) (S : World → Prop) (t : Nat) : Nat → Array Bool → Act → World → Prop
  | 0, listed, a, w => Region.ready md ops listed = [t] ∧ Region.ready md ops (listed.setIfInBounds t true) = [] ∧ wpOp P ops Q t (Q .normal) a w
  | f + 1, listed, a, w => Region.ready md ops listed ≠ [] ∧ ∀ i ∈ Region.ready md ops listed, wpOp P ops Q i (fun a' w' => S w' ∧ wpTo P md ops Q S t f (listed.setIfInBounds i true) a' w') a w
theorem wpAny_of_to : ∀ (f : Nat) (listed : Array Bool) (a : Act) (w : World), wpTo P md ops Q S t f listed a w → wpAny P md ops Q (f + 1) listed a w
  | 0, _, _, _, ⟨h1, h2, h3⟩ => ⟨fun h => (by rw [h1] at h; cases h), fun i hi => by
      rw [h1] at hi
      obtain rfl : i = t := by simpa using hi
      exact wpOp_mono (fun a' w' h' => ⟨h2, h'⟩) h3⟩
  | f + 1, _, _, _, h => ⟨fun h0 => absurd h0 h.1, fun i hi => wpOp_mono (fun a' w' h' => wpAny_of_to f _ a' w' h'.2) (h.2 i hi)⟩

theorem wpTo_first {i : Nat} {oi : Oper} {v : Value} (hi : ops[i]? = some oi) (hs : Region.noSelect ops = true)
    (ht : ∀ listed, t ∈ Region.ready md ops listed → i ∈ Region.ready md ops listed → i = t) (hit : i ≠ t)
    (hQ : ∀ c a w, Q (.panic c) (a.put oi.dst v) w → Q (.panic c) a w) :
    ∀ (fuel : Nat) (listed : Array Bool) (a : Act) (w : World),
      (∀ j oj, ops[j]? = some oj → j ≠ i → listed.getD j true = false → (∀ e ∈ oj.after, Region.binds md e = true → e.on ≠ i) → oi.apart ops oj = true) →
      i ∈ Region.ready md ops listed → YieldsIf P ops S oi v a → S w →
      wpTo P md ops Q S t fuel (listed.setIfInBounds i true) (a.put oi.dst v) w → wpTo P md ops Q S t (fuel + 1) listed a w := by
  intro fuel
  induction fuel with
  | zero =>
    intro listed a w _ hr hy hS H
    refine ⟨fun h => (by rw [h] at hr; cases hr), fun j hj => ?_⟩
    by_cases hji : j = i
    · subst hji; exact hy.wpOp hi hS ⟨hS, H⟩
    · have := ready_mono hj hji
      rw [H.1] at this
      obtain rfl : j = t := by simpa using this
      exact absurd (ht listed hj hr) hit
  | succ fuel ih =>
    intro listed a w hfree hr hy hS H
    refine ⟨fun h => (by rw [h] at hr; cases hr), fun j hj => ?_⟩
    by_cases hji : j = i
    · subst hji; exact hy.wpOp hi hS ⟨hS, H⟩
    · have h1 := H.2 j (ready_mono hj hji)
      obtain ⟨hjun, oj, hoj, hall⟩ := mem_ready.1 hj
      have hnot : ∀ e ∈ oj.after, Region.binds md e = true → e.on ≠ i := fun e he hb heq => by
        have h1 := hall e he hb
        have h0 := (mem_ready.1 hr).1
        rw [heq] at h1
        rcases Nat.lt_or_ge i listed.size with h' | h'
        · simp [h'] at h0 h1; rw [h0] at h1; cases h1
        · simp [Array.getElem?_eq_none h'] at h1
      have h2 := wpOp_putIf hoj (hfree j oj hoj hji hjun hnot) (fun cs b => Region.noSelect_spec hs i oi cs b hi) (fun cs b => Region.noSelect_spec hs j oj cs b hoj) hQ hy h1
      have hfree' : ∀ k ok, ops[k]? = some ok → k ≠ i → (listed.setIfInBounds j true).getD k true = false →
          (∀ e ∈ ok.after, Region.binds md e = true → e.on ≠ i) → oi.apart ops ok = true := fun k ok hk hki hun hno => by
        refine hfree k ok hk hki ?_ hno
        by_cases hjk : j = k
        · subst hjk; exact hjun
        · rw [getD_set_ne true hjk] at hun; exact hun
      refine wpOp_mono (fun a' w' h3 => ⟨h3.2.1, ih (listed.setIfInBounds j true) a' w' hfree' (ready_mono hr (Ne.symm hji)) h3.1 h3.2.1 ?_⟩) h2
      rw [Array.setIfInBounds_comm _ _ hji]
      exact h3.2.2

/-- t waits for each of these. -/
def Region.lastB (md : Region.Mode) (ops : Array Oper) (t : Nat) (os : List Nat) : Bool := os.all fun i => decide (i ≠ t) && Region.waitsFor md ops t i
theorem last_spec {i : Nat} (h : Region.waitsFor md ops t i = true) (listed : Array Bool) (h1 : t ∈ Region.ready md ops listed) (h2 : i ∈ Region.ready md ops listed) : i = t := by
  exfalso
  obtain ⟨ot, hot, e, he, hb, hon⟩ := Region.waitsFor_spec h
  obtain ⟨_, ot', hot', hall⟩ := mem_ready.1 h1
  obtain rfl : ot' = ot := Option.some.inj (hot'.symm.trans hot)
  have h3 := hall e he hb
  rw [hon] at h3
  have h0 := (mem_ready.1 h2).1
  rcases Nat.lt_or_ge i listed.size with h' | h'
  · simp [h'] at h0 h3; rw [h0] at h3; cases h3
  · simp [Array.getElem?_eq_none h'] at h3

theorem to_quiet (hs : Region.noSelect ops = true) (hSC : ∀ w, S w → C w) (hQ : ∀ c a a' w, a.defers = a'.defers → Q (.panic c) a w → Q (.panic c) a' w) {f : Nat} {w : World} (hS : S w) :
    ∀ (os : List Nat) (lo : List Oper) (listed : Array Bool) (a : Act), os.map (fun k => ops[k]?) = lo.map some → lo.all calmB = true → Region.quietB md ops os listed = true → Region.lastB md ops t os = true →
      wpQuiet P ops C (fun a' => wpTo P md ops Q S t f (setAll os listed) a' w) lo a → wpTo P md ops Q S t (f + os.length) listed a w
  | [], [], listed, a, _, _, _, _, h => h
  | k :: os, o :: lo, listed, a, hl, hc, hB, hL, h => by
    simp only [List.map_cons, List.cons.injEq] at hl
    simp only [List.all_cons, Bool.and_eq_true] at hc
    simp only [Region.quietB, Bool.and_eq_true] at hB
    have hL' : (decide (k ≠ t) && Region.waitsFor md ops t k) = true ∧ Region.lastB md ops t os = true := by
      unfold Region.lastB at hL ⊢
      rwa [List.all_cons, Bool.and_eq_true] at hL
    obtain ⟨hL1, hL2⟩ := hL'
    rw [Bool.and_eq_true, decide_eq_true_eq] at hL1
    have hst : qOp P ops C k (wpQuiet P ops C (fun a' => wpTo P md ops Q S t f (setAll (k :: os) listed) a' w) lo) a := by
      unfold qOp; simp only [hl.1]; exact h
    obtain ⟨v, hy, hK⟩ := yieldsIn_of_qOp hl.1 hst
    exact wpTo_first hl.1 hs (last_spec hL1.2) hL1.1 (fun c a w hq => hQ c _ _ w (by cases o.dst <;> rfl) hq) _ listed a w (Region.free_spec hl.1 hB.1.2) (by simpa using hB.1.1) (yieldsIf_of_in hc.1 hSC hy) hS
      (to_quiet hs hSC hQ hS os lo _ _ hl.2 hc.2 hB.2 hL2 hK)
  | [], _ :: _, _, _, hl, _, _, _, _ => by simp at hl
  | _ :: _, [], _, _, hl, _, _, _, _ => by simp at hl

theorem to_one {l : List Oper} {i f : Nat} {listed : Array Bool} {a : Act} {w : World} (hr : Region.ready md l.toArray listed = [i])
    (h : ∀ K : Act → World → Prop, (∀ a' w', S w' → wpTo P md l.toArray Q S t f (listed.setIfInBounds i true) a' w' → K a' w') → wpList P l.toArray (Exit.then K Q) ((l.drop i).take 1) a w) : wpTo P md l.toArray Q S t (f + 1) listed a w :=
  ⟨by rw [hr]; simp, fun j hj => by
    rw [hr] at hj
    obtain rfl : j = i := by simpa using hj
    exact wpOp_of_at (h _ fun a' w' h1 h2 => ⟨h1, h2⟩)⟩
theorem to_two {l : List Oper} {i j f : Nat} {listed : Array Bool} {a : Act} {w : World} (hr : Region.ready md l.toArray listed = [i, j])
    (h1 : ∀ K : Act → World → Prop, (∀ a' w', S w' → wpTo P md l.toArray Q S t f (listed.setIfInBounds i true) a' w' → K a' w') → wpList P l.toArray (Exit.then K Q) ((l.drop i).take 1) a w)
    (h2 : ∀ K : Act → World → Prop, (∀ a' w', S w' → wpTo P md l.toArray Q S t f (listed.setIfInBounds j true) a' w' → K a' w') → wpList P l.toArray (Exit.then K Q) ((l.drop j).take 1) a w) : wpTo P md l.toArray Q S t (f + 1) listed a w :=
  ⟨by rw [hr]; simp, fun k hk => by
    rw [hr] at hk
    by_cases e : k = i
    · subst e
      exact wpOp_of_at (h1 _ fun a' w' h1 h2 => ⟨h1, h2⟩)
    · obtain rfl : k = j := by simp at hk; omega
      exact wpOp_of_at (h2 _ fun a' w' h1 h2 => ⟨h1, h2⟩)⟩
theorem to_last {l : List Oper} {listed : Array Bool} {a : Act} {w : World} (hr : Region.ready md l.toArray listed = [t]) (hr2 : Region.ready md l.toArray (listed.setIfInBounds t true) = []) (h : ∀ K : Act → World → Prop, (∀ a' w', Q .normal a' w' → K a' w') → wpList P l.toArray (Exit.then K Q) ((l.drop t).take 1) a w) : wpTo P md l.toArray Q S t 0 listed a w :=
  ⟨hr, hr2, wpOp_of_at (h _ fun _ _ h => h)⟩

theorem wp_region_to {id : Nat} {a : Act} {w : World} {l : List Oper} (t : Nat) (os : List Nat) (m : List Bool) (f : Nat) (listed : Array Bool) (hm : P.follows .mixedOrders = true)
    (hl : os.map (fun k => l.toArray[k]?) = (pickB m l).map some) (hc : (pickB m l).all calmB = true) (hs : Region.noSelect l.toArray = true) (hf : f + os.length + 1 = l.length)
    (hB : (Region.quietB .any l.toArray os (Array.replicate l.length false) && Region.lastB .any l.toArray t os) = true) (hd : setAll os (Array.replicate l.length false) = listed)
    (hQ : ∀ c a a' w, a.defers = a'.defers → Q (.panic c) a w → Q (.panic c) a' w)
    (h : (∀ (s : Near w.heap.size w) b o, b < w.heap.size → s.it.cell? ⟨b, o, none⟩ = w.cell? ⟨b, o, none⟩) →
      wpQuiet P l.toArray (fun w' => ∃ s : Near w.heap.size w, w' = s.it) (fun a' => ∀ W, W = w → wpTo P .any l.toArray Q (Below W.heap.size W) t f listed a' W.drew) (pickB m l) a) : (Code.region id l.toArray true).wp P Q a w := by
  refine wp_region_any hm ?_
  subst hd
  rw [Bool.and_eq_true] at hB
  have H := to_quiet (P := P) (md := .any) (ops := l.toArray) (Q := Q) (t := t) (S := Below w.heap.size w) (C := fun w' => ∃ s : Near w.heap.size w, w' = s.it) (f := f) (w := w.drew) hs (fun w' hw' => ⟨⟨w', hw'⟩, rfl⟩) hQ (Below.refl _ _).drew os (pickB m l) _ a hl hc hB.1 hB.2
    (quiet_mono' _ _ _ _ (fun _ h => h w rfl) (h (near_cells _ _)))
  have := wpAny_of_to _ _ _ _ H
  rw [hf] at this
  simpa using this
end
section
variable {P : Program} {Q : Exit → Act → World → Prop} {W w : World} {S0 : Nat → Prop} {l : List Asn}
/-- The beginning, among the worlds of which the same is known: those of 'os' only read there. -/
theorem wp_region_madeC {id : Nat} {a : Act} {ops : List Oper} (H : St W S0 w l) (os : List Nat) (m : List Bool) (f : Nat) (listed : Array Bool) (hm : P.follows .mixedOrders = true)
    (hl : os.map (fun k => ops.toArray[k]?) = (pickB m ops).map some) (hc : (pickB m ops).all calmB = true) (hs : Region.noSelect ops.toArray = true) (hf : f + os.length = ops.length)
    (hB : Region.quietB .any ops.toArray os (Array.replicate ops.length false) = true) (hd : setAll os (Array.replicate ops.length false) = listed)
    (hQ : ∀ c a a' w, a.defers = a'.defers → Q (.panic c) a w → Q (.panic c) a' w)
    (h : wpQuiet P ops.toArray (fun w' => ∃ s : Cls W S0 l, w' = s.it) (fun a' => wpAnyH P .any ops.toArray Q (fun w' => St W S0 w' l) f listed a' w.drew) (pickB m ops) a) : (Code.region id ops.toArray true).wp P Q a w := by
  refine wp_region_held (S := fun w' => St W S0 w' l) hm ?_
  subst hd
  have := held_quiet (P := P) (md := .any) (ops := ops.toArray) (Q := Q) (S := fun w' => St W S0 w' l) (C := fun w' => ∃ s : Cls W S0 l, w' = s.it) (f := f) (w := w.drew) hs (fun w' hw' => ⟨⟨w', hw'⟩, rfl⟩) hQ H.drew os (pickB m ops) _ a hl hc hB h
  rw [hf] at this
  simpa using this
/-- Further on. -/
theorem calmC {a : Act} {ops : List Oper} (H : St W S0 w l) (os : List Nat) (m : List Bool) (f g : Nat) (listed listed' : Array Bool)
    (hl : os.map (fun k => ops.toArray[k]?) = (pickB m ops).map some) (hc : (pickB m ops).all calmB = true) (hs : Region.noSelect ops.toArray = true) (hf : f + os.length = g)
    (hB : Region.quietB .any ops.toArray os listed = true) (hd : setAll os listed = listed')
    (hQ : ∀ c a a' w, a.defers = a'.defers → Q (.panic c) a w → Q (.panic c) a' w)
    (h : wpQuiet P ops.toArray (fun w' => ∃ s : Cls W S0 l, w' = s.it) (fun a' => wpAnyH P .any ops.toArray Q (fun w' => St W S0 w' l) f listed' a' w) (pickB m ops) a) : wpAnyH P .any ops.toArray Q (fun w' => St W S0 w' l) g listed a w := by
  subst hd
  have := held_quiet (P := P) (md := .any) (ops := ops.toArray) (Q := Q) (S := fun w' => St W S0 w' l) (C := fun w' => ∃ s : Cls W S0 l, w' = s.it) (f := f) (w := w) hs (fun w' hw' => ⟨⟨w', hw'⟩, rfl⟩) hQ H os (pickB m ops) _ a hl hc hB h
  rw [hf] at this
  exact this
end
/-- A block of cells is not the one of a row. -/
theorem St.ne_row {W w : World} {S0 : Nat → Prop} {l : List Asn} {b g o size n cap : Nat} {vs xs : List Value} (i j : Nat) (h : St W S0 w l) (hi : l[i]? = some (cellA b vs)) (hj : l[j]? = some (rowA size (.slice (some ⟨g, o, none⟩) n cap) n xs)) (hij : i < j) : ¬ b = g := by
  obtain ⟨S1, S2, h1, h2, h3⟩ := h.apart i j hij hi hj
  intro e
  exact h3 b ((h1.2 b).2 rfl) ((h2.2 b).2 (by rw [e]; rfl))
end Go.Proofs.Ytiaefmmcakagpaa

/- A drawn region of which what is left only reads, calls included, among the worlds that are as the world at hand was. -/
namespace Go.Proofs.Ytiaefmmcakagpaa
set_option linter.unusedSimpArgs false
set_option linter.unusedVariables false
open Go Go.RowKit
section
variable {P : Program} {md : Region.Mode} {ops : Array Oper} {Q : Exit → Act → World → Prop} {S C : World → Prop}

/-- The next f operations each quiet in C, in whatever order; behind them L. -/
def headAll (P : Program) (md : Region.Mode) (ops : Array Oper) (C : World → Prop) (L : Array Bool → Act → Prop) : Nat → Array Bool → Act → Prop
  | 0, listed, a => L listed a
  | f + 1, listed, a => Region.ready md ops listed ≠ [] ∧ ∀ i ∈ Region.ready md ops listed, qOp P ops C i (headAll P md ops C L f (listed.setIfInBounds i true)) a
theorem headAll_sound {L : Array Bool → Act → Prop} (hCS : ∀ w, C w → S w) (hL : ∀ listed a w, C w → L listed a → wpAnyH P md ops Q S 0 listed a w) :
    ∀ (f : Nat) (listed : Array Bool) (a : Act) (w : World), C w → headAll P md ops C L f listed a → wpAnyH P md ops Q S f listed a w
  | 0, _, _, _, hw, h => hL _ _ _ hw h
  | f + 1, _, _, _, hw, h => ⟨fun h0 => absurd h0 h.1, fun i hi => wpOp_of_qOp hw (fun a' w' hw' h' => ⟨hCS w' hw', headAll_sound hCS hL f _ a' w' hw' h'⟩) (h.2 i hi)⟩
theorem headAll_first {i : Nat} {oi : Oper} {v : Value} {L : Array Bool → Act → Prop} (hi : ops[i]? = some oi) (hs : Region.noSelect ops = true)
    (hdone : ∀ listed a, L listed a → Region.ready md ops listed = []) (f : Nat) :
    ∀ (listed : Array Bool) (a : Act),
      (∀ j oj, ops[j]? = some oj → j ≠ i → listed.getD j true = false → (∀ e ∈ oj.after, Region.binds md e = true → e.on ≠ i) → oi.apart ops oj = true) →
      i ∈ Region.ready md ops listed → YieldsIn P ops C oi v a →
      headAll P md ops C L f (listed.setIfInBounds i true) (a.put oi.dst v) → headAll P md ops C L (f + 1) listed a := by
  induction f with
  | zero =>
    intro listed a _ hr hy H
    refine ⟨fun h => (by rw [h] at hr; cases hr), fun j hj => ?_⟩
    by_cases hji : j = i
    · subst hji; exact hy.qOp hi H
    · have := ready_mono hj hji
      rw [hdone _ _ H] at this
      cases this
  | succ f ih =>
    intro listed a hfree hr hy H
    refine ⟨fun h => (by rw [h] at hr; cases hr), fun j hj => ?_⟩
    by_cases hji : j = i
    · subst hji; exact hy.qOp hi H
    · obtain ⟨hjun, oj, hoj, hall⟩ := mem_ready.1 hj
      have hnot : ∀ e ∈ oj.after, Region.binds md e = true → e.on ≠ i := fun e he hb heq => by
        have h1 := hall e he hb
        rw [heq, getD_both (mem_ready.1 hr).1] at h1
        cases h1
      refine qOp_mono (fun a' h3 => ?_) (qOp_put hoj (hfree j oj hoj hji hjun hnot) (fun cs b => Region.noSelect_spec hs i oi cs b hi) (fun cs b => Region.noSelect_spec hs j oj cs b hoj) hy (H.2 j (ready_mono hj hji)))
      refine ih (listed.setIfInBounds j true) a' (fun k ok hk hki hun hno => ?_) (ready_mono hr (Ne.symm hji)) h3.1 ?_
      · refine hfree k ok hk hki ?_ hno
        by_cases hjk : j = k
        · subst hjk; exact hjun
        · rw [getD_set_ne true hjk] at hun; exact hun
      · rw [Array.setIfInBounds_comm _ _ hji]
        exact h3.2
theorem headAll_list {K : Act → Prop} {L' : Array Bool} (hs : Region.noSelect ops = true) (he : Region.ready md ops L' = []) :
    ∀ (os : List Nat) (lo : List Oper) (listed : Array Bool) (a : Act), os.map (fun k => ops[k]?) = lo.map some → Region.quietB md ops os listed = true → setAll os listed = L' → wpQuiet P ops C K lo a →
    headAll P md ops C (fun listed' a' => Region.ready md ops listed' = [] ∧ K a') os.length listed a
  | [], [], listed, a, _, _, hL, h => ⟨by rw [show listed = L' from hL]; exact he, h⟩
  | k :: os, o :: lo, listed, a, hl, hB, hL, h => by
    simp only [List.map_cons, List.cons.injEq] at hl
    simp only [Region.quietB, Bool.and_eq_true] at hB
    have hst : qOp P ops C k (wpQuiet P ops C K lo) a := by unfold qOp; simp only [hl.1]; exact h
    obtain ⟨v, hy, hK⟩ := yieldsIn_of_qOp hl.1 hst
    exact headAll_first hl.1 hs (fun _ _ h => h.1) os.length listed a (Region.free_spec hl.1 hB.1.2) (by simpa using hB.1.1) hy (headAll_list hs he os lo _ _ hl.2 hB.2 hL hK)
  | [], _ :: _, _, _, hl, _, _, _ => by simp at hl
  | _ :: _, [], _, _, hl, _, _, _ => by simp at hl
end
section
variable {P : Program} {Q : Exit → Act → World → Prop} {W w : World} {S0 : Nat → Prop} {l : List Asn}
/-- What is left only reads. -/
theorem held_near {a : Act} {ops : List Oper} {f : Nat} {listed listed' : Array Bool} (H : St W S0 w l) (os : List Nat) (m : List Bool) (hf : os.length = f)
    (hl : os.map (fun k => ops.toArray[k]?) = (pickB m ops).map some) (hs : Region.noSelect ops.toArray = true) (hB : Region.quietB .any ops.toArray os listed = true) (hd : setAll os listed = listed') (he : Region.ready .any ops.toArray listed' = [])
    (h : (∀ (s : Near w.heap.size w) b o, b < w.heap.size → s.it.cell? ⟨b, o, none⟩ = w.cell? ⟨b, o, none⟩) →
      wpQuiet P ops.toArray (fun w' => ∃ s : Near w.heap.size w, w' = s.it) (fun a' => ∀ w', Below w.heap.size w w' → Q .normal a' w') (pickB m ops) a) : wpAnyH P .any ops.toArray Q (fun w' => St W S0 w' l) f listed a w := by
  subst hf
  refine headAll_sound (C := fun w' => ∃ s : Near w.heap.size w, w' = s.it) (L := fun listed' a' => Region.ready .any ops.toArray listed' = [] ∧ ∀ w', Below w.heap.size w w' → Q .normal a' w') ?_ ?_ _ _ _ _ ⟨⟨w, Below.refl _ _⟩, rfl⟩ (headAll_list hs he os (pickB m ops) listed a hl hB hd (h (near_cells _ _)))
  · rintro w' ⟨s, rfl⟩
    exact H.thru s.near
  · rintro listed' a' w' ⟨s, rfl⟩ h
    exact ⟨h.1, h.2 _ s.near⟩
end
end Go.Proofs.Ytiaefmmcakagpaa

/- A row that is only read, and of which later ones are parts. -/
namespace Go.Proofs.Ytiaefmmcakagpaa
set_option linter.unusedSimpArgs false
set_option linter.unusedVariables false
open Go Go.RowKit

/-- A slice value that holds these cells; nothing is said of room behind them. -/
def readA (size : Nat) (v : Value) (n : Nat) (xs : List Value) : Asn where
  holds w S := (xs.length = n * size ∧ ∃ a cap, v = .slice a n cap ∧ n ≤ cap ∧ cap ≤ maxLen ∧ ((a = none ∧ n = 0 ∧ cap = 0) ∨ ∃ g o, a = some ⟨g, o, none⟩ ∧ g < w.heap.size ∧ ∀ j u, xs[j]? = some u → w.cell? ⟨g, o + j, none⟩ = some u)) ∧ ∀ x, S x ↔ v.ownBlock = some x
  keeps w w' S h hs hb := by
    obtain ⟨⟨h1, a, cap, rfl, h2, h3, h4⟩, hS⟩ := h
    refine ⟨⟨h1, a, cap, rfl, h2, h3, h4.imp id ?_⟩, hS⟩
    rintro ⟨g, o, rfl, hlt, hx⟩
    have e := hb g ((hS g).2 rfl)
    refine ⟨g, o, rfl, Nat.lt_of_lt_of_le hlt hs, fun j u hu => ?_⟩
    rw [World.cell?_of_block (w := w) (a := ⟨g, o + j, none⟩) e]
    exact hx j u hu
  inb w S b h hx := by
    obtain ⟨⟨h1, a, cap, rfl, h2, h3, h4⟩, hS⟩ := h
    have e := (hS b).1 hx
    rcases h4 with ⟨rfl, _⟩ | ⟨g, o, rfl, hlt, _⟩
    · cases e
    · cases e
      exact hlt
section
variable {W w : World} {S0 : Nat → Prop} {l : List Asn} {size n : Nat} {v : Value} {xs : List Value}
theorem St.reads (i : Nat) (h : St W S0 w l) (hi : l[i]? = some (readA size v n xs)) : xs.length = n * size ∧ ∃ a cap, v = .slice a n cap ∧ n ≤ cap ∧ cap ≤ maxLen ∧ ((a = none ∧ n = 0 ∧ cap = 0) ∨ ∃ g o, a = some ⟨g, o, none⟩ ∧ g < w.heap.size ∧ ∀ j u, xs[j]? = some u → w.cell? ⟨g, o + j, none⟩ = some u) := by
  obtain ⟨S1, a, _⟩ := h.at i hi
  exact a.1
theorem St.reads_rd {a : Option Addr} {cap : Nat} (i : Nat) (h : St W S0 w l) (hi : l[i]? = some (readA size (.slice a n cap) n xs)) : Rd w a xs := by
  obtain ⟨h1, a', cap', e, _, _, h4⟩ := St.reads i h hi
  cases e
  rcases h4 with ⟨_, rfl, _⟩ | ⟨g, o, e, hlt, hx⟩
  · rw [Nat.zero_mul] at h1
    exact .inl (List.eq_nil_of_length_eq_zero h1)
  · exact .inr ⟨g, o, e, hlt, hx⟩
/-- A row of the call's own, to be read only. -/
theorem St.to_read (i : Nat) (h : St W S0 w l) (hi : l[i]? = some (rowA size v n xs)) : St W S0 w (readA size v n xs :: l.eraseIdx i) := by
  obtain ⟨S1, ⟨⟨a1, a2⟩, a'⟩, _, c⟩ := h.at i hi
  refine c w [_] (St.start (Sep.one ⟨⟨a1, ?_⟩, a'⟩))
  rcases a2 with ⟨rfl, rfl⟩ | ⟨g, o, cap, rfl, _, hlt, hn, hc, hx, _⟩
  · exact ⟨none, 0, rfl, Nat.le_refl _, Nat.zero_le _, .inl ⟨rfl, rfl, rfl⟩⟩
  · exact ⟨_, cap, rfl, hn, hc, .inr ⟨g, o, rfl, hlt, hx⟩⟩
/-- A part of it. -/
theorem St.read_part {g o cap n' o' cap' : Nat} {xs' : List Value} (i : Nat) (h : St W S0 w l) (hi : l[i]? = some (readA size (.slice (some ⟨g, o, none⟩) n cap) n xs))
    (hl : xs'.length = n' * size) (hn : n' ≤ cap') (hc : cap' ≤ maxLen) (hx : ∀ j u, xs'[j]? = some u → ∃ j', xs[j']? = some u ∧ o + j' = o' + j) :
    St W S0 w (readA size (.slice (some ⟨g, o', none⟩) n' cap') n' xs' :: l.eraseIdx i) := by
  obtain ⟨S1, ⟨⟨a1, a, c0, e, a2, a3, a4⟩, a'⟩, _, c⟩ := h.at i hi
  cases e
  refine c w [_] (St.start (Sep.one ⟨⟨hl, _, cap', rfl, hn, hc, .inr ?_⟩, a'⟩))
  rcases a4 with ⟨e, _⟩ | ⟨g', o1, e, hlt, hr⟩
  · cases e
  · cases e
    refine ⟨g, o', rfl, hlt, fun j u hu => ?_⟩
    obtain ⟨j', h1, h2⟩ := hx j u hu
    rw [← h2]
    exact hr j' u h1
end
end Go.Proofs.Ytiaefmmcakagpaa

/- 'for x := range seq { .. }' over an iterator that has a contract, told by parts of memory: the loop's record is one part, the body's own are others. -/
namespace Go.Proofs.Ytiaefmmcakagpaa
set_option linter.unusedSimpArgs false
set_option linter.unusedVariables false
open Go Go.RowKit

section
variable {w w' W : World} {S S0 : Nat → Prop} {l : List Asn} {p q : Asn}
theorem St.perm {l' : List Asn} (h : St W S0 w l) (hp : l.Perm l') : St W S0 w l' := by
  obtain ⟨h1, S, h2, h3⟩ := h
  exact ⟨h1, S, h2.perm hp, h3⟩
theorem St.putObj {b : Nat} {o : Obj} (i : Nat) (h : St W S0 w l) (hi : l[i]? = some (objA b o)) (o' : Obj) : St W S0 (w.putObj b o') (objA b o' :: l.eraseIdx i) := by
  obtain ⟨S1, ⟨a, a'⟩, _, c⟩ := h.at i hi
  have hb : b < w.heap.size := (Array.getElem?_eq_some_iff.1 a).1
  refine c _ [_] ⟨⟨rfl, rfl, rfl, by simp, fun x _ hn => World.putObj_heap_other (fun e => hn ((a' x).2 e))⟩, S1, Sep.one ⟨World.putObj_heap_same hb, a'⟩, fun _ h => .inl h⟩
/-- In place. -/
theorem St.putIn {b : Nat} {o : Obj} {l1 l2 : List Asn} (h : St W S0 w (l1 ++ objA b o :: l2)) (o' : Obj) : St W S0 (w.putObj b o') (l1 ++ objA b o' :: l2) := by
  have := h.putObj (b := b) (o := o) l1.length (by simp) o'
  rw [List.eraseIdx_append_of_length_le (Nat.le_refl _), Nat.sub_self, List.eraseIdx_zero, List.tail_cons] at this
  exact this.perm List.perm_middle.symm
theorem St.objIn {b : Nat} {o : Obj} {l1 l2 : List Asn} (h : St W S0 w (l1 ++ objA b o :: l2)) : w.heap[b]? = some o := h.obj (b := b) (o := o) l1.length (by simp)
end

section
variable {F : Fence} {n : Nat} {P : Program} {α : Type} {W : World} {S0 : Nat → Prop}
/-- The iterator gf, with what it has captured, tells xs, whose memory A it reads: whatever the rounds do with parts of their own. -/
def Iter (F : Fence) (n : Nat) (P : Program) (gf : Nat) (lb : Array Value) (encs : α → Array Value) (xs : List α) (A : List Asn) (W : World) (S0 : Nat → Prop) : Prop :=
  ∀ (l : Nat) (w : World) (J Jx : List α → List Asn), St W S0 w (A ++ J []) →
    (∀ (p : List Asn) (pre : List α) (x : α) (suf : List α) (w1 : World), xs = pre ++ x :: suf → St W S0 w1 (p ++ J pre) →
      YieldAt F (n - 1) P l (encs x) w1 fun e w' => (e = .returned (.bool true) ∧ St W S0 w' (p ++ J (pre ++ [x]))) ∨ (e = .returned (.bool false) ∧ St W S0 w' (p ++ Jx (pre ++ [x])))) →
    CallsIn F n P gf (#[.func (.yield l) #[] #[]] ++ lb) w fun e w' => (∃ v, e = .returned v) ∧
      (St W S0 w' (A ++ J xs) ∨ ∃ pre x suf, xs = pre ++ x :: suf ∧ St W S0 w' (A ++ Jx (pre ++ [x])))

/-- How a round may be left. -/
def stPost (W : World) (S0 : Nat → Prop) (p : List Asn) (I : List α → List Asn) (Ix : Code → List α → List Asn) (xs : List α) : Exit → Act → World → Prop
  | .normal, _, w' => St W S0 w' (p ++ I xs)
  | .ret, _, w' => St W S0 w' (p ++ Ix .ret xs)
  | .exit id, _, w' => St W S0 w' (p ++ Ix (.exit id) xs)
  | .goto t, _, w' => St W S0 w' (p ++ Ix (.goto t) xs)
  | .panic _, _, _ => False
  | .outgrown, _, _ => False

/-- The mark that a loop over a function leaves with its activation. -/
def markD (D : Nat) : Deferred := { target := .collected D, args := #[] }

theorem wpIn_range_st {g : Operand} {ps : Array Tmp} {assign body : Code} {Q : Exit → Act → World → Prop} {a : Act} {w : World}
    (hro : F.round = none) (h1 : 1 ≤ n) {gf : Nat} {lb : Array Value} (hg : a.eval g = .func (.func gf) #[] lb) (hFg : F.fn gf) (eg : ∀ args w, (callFunc gf args).run P w = .ok (.enter gf args) w)
    {encs : α → Array Value} {xs : List α} {A : List Asn} (hit : Iter F (n - 1) P gf lb encs xs A W S0) (hps : ∀ x, (encs x).size = ps.size)
    (I : List α → List Asn) (Ix : Code → List α → List Asn) (h0 : St W S0 w (A ++ I []))
    (hround : ∀ (l : Nat) (pre : List α) (x : α) (suf : List α) (w1 : World), xs = pre ++ x :: suf →
      assign.wpIn (F.inRound l) (n - 1 - 1) P (Exit.then (fun a2 w2 => w2 = w1 ∧ ∀ (p : List Asn) (w3 : World), St W S0 w3 (p ++ I pre) → body.wpIn (F.inRound l) (n - 1 - 1) P (stPost W S0 p I Ix (pre ++ [x])) a2 w3) (fun _ _ _ => False))
        { tmps := (ps.zip (encs x)).foldl (fun t (p, v) => t.setIfInBounds p v) a.tmps, defers := [] } w1)
    (hdone : ∀ (D : Nat) (w' : World), St W S0 w' (objA D (.deferred (some [])) :: (A ++ I xs)) → Q .normal { a with defers := markD D :: a.defers } w')
    (hstop : ∀ (D : Nat) (c : Code) (pre : List α) (x : α) (suf : List α) (w' : World), xs = pre ++ x :: suf → St W S0 w' (objA D (.deferred (some [])) :: (A ++ Ix c (pre ++ [x]))) → c.wpIn F n P Q { a with defers := markD D :: a.defers } w') :
    (Code.rangeFunc g ps assign body).wpIn F n P Q a w := by
  refine wpIn_rangeFunc ?_
  intro fn hfn
  rw [hro]
  obtain ⟨rec, hrec⟩ : ∃ rec : LoopState → Option Code → Loop, rec = fun st pe => { state := st, pending := pe, fn, tmps := a.tmps, params := ps, assign, body, defers := w.heap.size } := ⟨_, rfl⟩
  obtain ⟨D, hD⟩ : ∃ D, D = w.heap.size := ⟨_, rfl⟩
  have hSt : St W S0 ((w.alloc (.deferred (some []))).alloc (.loop (rec .ready none))) (A ++ (objA (D + 1) (.loop (rec .ready none)) :: objA D (.deferred (some [])) :: I [])) := by
    have h2 := (h0.newObj (.deferred (some []))).newObj (.loop (rec .ready none))
    rw [World.size_alloc, ← hD] at h2
    exact h2.perm (List.perm_append_comm_assoc [_, _] A (I []))
  refine ⟨w.heap.size + 1, [markD w.heap.size], (w.alloc (.deferred (some []))).alloc (.loop (rec .ready none)), { target := .fn (.func gf) lb, args := #[.func (.yield (w.heap.size + 1)) #[] #[]] }, (w.alloc (.deferred (some []))).alloc (.loop (rec .ready none)), gf,
    #[.func (.yield (w.heap.size + 1)) #[] #[]] ++ lb, (w.alloc (.deferred (some []))).alloc (.loop (rec .ready none)), ?_, ?_, ?_, ?_, fun _ => h1, ?_⟩
  · rw [hrec]; exact run_enterLoop_outer _ _ _ _ _
  · simp only [resolve, hg]
    simp [go_sem]
  · intro f' hf'; simp [Target.leads] at hf'; subst hf'; exact hFg
  · simp [invoke, go_sem, eg]
  · rw [← hD]
    refine (hit (D + 1) _ (fun pre => objA (D + 1) (.loop (rec .ready none)) :: objA D (.deferred (some [])) :: I pre)
      (fun pre => [exA fun c => sepA (objA (D + 1) (.loop (rec .done (some c))) :: objA D (.deferred (some [])) :: Ix c pre)]) hSt ?_).mono ?_
    · -- one round
      intro p pre x suf w1 hx hs
      have hl := St.objIn hs
      have hy := run_yield (P := P) (args := encs x) hl (by rw [hrec]; exact hps x)
      rw [hrec] at hy
      refine ⟨fn, _, assign, body, hy, roundIn_of_wpIn hfn (wpIn_mono (hround _ pre x suf w1 hx) ?_)⟩
      rintro e2 a2 w2 h22
      cases e2 with
      | exit id => exact h22.elim
      | goto t => exact h22.elim
      | ret => exact h22.elim
      | panic ch => exact h22.elim
      | outgrown => exact h22.elim
      | normal =>
      obtain ⟨rfl, hbody⟩ := h22
      refine ⟨_, run_beginRound hl (by rw [hrec]), ?_⟩
      have hs2 := St.putIn hs (.loop { rec .ready none with state := .busy })
      have hs3 : St W S0 (w2.putObj (D + 1) (.loop { rec .ready none with state := .busy })) ((p ++ [objA (D + 1) (.loop { rec .ready none with state := .busy }), objA D (.deferred (some []))]) ++ I pre) := by
        rw [List.append_assoc]; exact hs2
      refine wpIn_mono (hbody _ _ hs3) ?_
      have fin : ∀ (jump : Option Code) (w3 : World) (r : List Asn), St W S0 w3 ((p ++ [objA (D + 1) (.loop { rec .ready none with state := .busy }), objA D (.deferred (some []))]) ++ r) →
          (Instr.endRound (D + 1) jump).run P w3 = .ok (.bool jump.isNone) (w3.putObj (D + 1) (.loop (rec (if jump.isNone then .ready else .done) jump))) ∧
          St W S0 (w3.putObj (D + 1) (.loop (rec (if jump.isNone then .ready else .done) jump))) (p ++ (objA (D + 1) (.loop (rec (if jump.isNone then .ready else .done) jump)) :: objA D (.deferred (some [])) :: r)) := fun jump w3 r h => by
        rw [List.append_assoc] at h
        have h' : St W S0 w3 (p ++ (objA (D + 1) (.loop { rec .ready none with state := .busy }) :: objA D (.deferred (some [])) :: r)) := h
        have hl3 := St.objIn h'
        have := run_endRound (P := P) jump hl3
        have h4 := St.putIn h' (.loop (rec (if jump.isNone then .ready else .done) jump))
        refine ⟨?_, h4⟩
        rw [this, hrec]
      rintro e a3 w3 hp
      cases e with
      | normal =>
        obtain ⟨hr, h4⟩ := fin none w3 _ hp
        exact ⟨_, _, hr, .inl ⟨rfl, h4⟩⟩
      | ret =>
        obtain ⟨hr, h4⟩ := fin (some .ret) w3 _ hp
        exact ⟨_, _, hr, .inr ⟨rfl, (St.ex (l := p) (fun c => sepA (objA (D + 1) (.loop (rec .done (some c))) :: objA D (.deferred (some [])) :: Ix c (pre ++ [x]))) .ret (St.join _ p (h4.perm List.perm_append_comm))).perm (List.perm_append_comm (l₁ := [_]))⟩⟩
      | exit id =>
        obtain ⟨hr, h4⟩ := fin (some (.exit id)) w3 _ hp
        exact ⟨_, _, hr, .inr ⟨rfl, (St.ex (l := p) (fun c => sepA (objA (D + 1) (.loop (rec .done (some c))) :: objA D (.deferred (some [])) :: Ix c (pre ++ [x]))) (.exit id) (St.join _ p (h4.perm List.perm_append_comm))).perm (List.perm_append_comm (l₁ := [_]))⟩⟩
      | goto t =>
        obtain ⟨hr, h4⟩ := fin (some (.goto t)) w3 _ hp
        exact ⟨_, _, hr, .inr ⟨rfl, (St.ex (l := p) (fun c => sepA (objA (D + 1) (.loop (rec .done (some c))) :: objA D (.deferred (some [])) :: Ix c (pre ++ [x]))) (.goto t) (St.join _ p (h4.perm List.perm_append_comm))).perm (List.perm_append_comm (l₁ := [_]))⟩⟩
      | panic ch => exact hp.elim
      | outgrown => exact hp.elim
    · rintro e w2 ⟨⟨v, rfl⟩, (h | ⟨pre, x, suf, hx, h⟩)⟩
      · have hl := St.objIn h
        have h2 := (St.putIn h (.loop { rec .ready none with state := .exhausted })).perm (l' := objA (D + 1) (.loop { rec .ready none with state := .exhausted }) :: objA D (.deferred (some [])) :: (A ++ I xs)) (List.perm_append_comm_assoc [_, _] A (I xs)).symm
        exact ⟨none, _, by have := run_endLoop (P := P) hl (by rw [hrec]; simp); rw [hrec] at this ⊢; exact this, hdone D _ (h2.drop 0 rfl)⟩
      · have h' := h.perm (List.perm_append_comm (l₁ := A) (l₂ := [_]))
        obtain ⟨c, h3⟩ := St.unex 0 h' rfl
        have h4 : St W S0 w2 ([] ++ (objA (D + 1) (.loop (rec .done (some c))) :: objA D (.deferred (some [])) :: (Ix c (pre ++ [x]) ++ A))) := St.unsep 0 h3 rfl
        have hl := St.objIn h4
        have h5 := (St.putIn h4 (.loop { rec .done (some c) with state := .exhausted })).drop 0 rfl
        have h6 : St W S0 _ (objA D (.deferred (some [])) :: (A ++ Ix c (pre ++ [x]))) := h5.perm (List.Perm.cons _ List.perm_append_comm)
        exact ⟨some c, _, by have := run_endLoop (P := P) hl (by rw [hrec]; simp); rw [hrec] at this ⊢; exact this, hstop D c pre x suf _ hx h6⟩
/-- 'append(v, x..)' within a fence, where what is put behind was just laid in a new block. -/
theorem wpListIn_appS {ops : Array Oper} {rest : List Oper} {o : Oper} {a : Act} {Q : Exit → Act → World → Prop} {te : TypeId} {w : World} {l : List Asn} (hgd : o.guard = none) (s x : Operand) (t : TypeId)
    (ho : o.op = .call { callee := .builtin .append, args := #[s, x], argTypes := #[t, t] })
    (e : TypeId) (i : TypeInfo) (z : Value) (size bytes : Nat) (ht : P.underlying t = some (.slice e)) (hi : P.info? e = some i) (hz : i.zero = some z)
    (hsize : i.size = size) (hby : i.bytes = bytes) (hzs : z.cells.size = size) (hsz : 0 < size)
    (k : Nat) (v : Value) (m0 : Nat) (xs : List Value) (hs : a.eval s = v) (H : St W S0 w l) (hk : l[k]? = some (rowA size v m0 xs))
    (m c : Nat) (news : List Value) {q : Nat} (hx : a.eval x = .slice (some ⟨q, 0, none⟩) m c) (hl : news.length = m * size) (h1 : ∀ u ∈ news, u.oneCell' = true)
    (hsm : m0 + m ≤ 1000000000) (hbs : bytes ≤ 100000)
    (h : ∀ v' w', St W S0 w' (rowA size v' (m0 + m) (xs ++ news) :: l.eraseIdx k) → wpListIn F n P ops Q rest (a.put o.dst v') w') (hq : q = w.heap.size := by simp) :
    wpListIn F n P ops Q (o :: rest) a (w.alloc (.cells news.toArray te)) := by
  subst hq
  have hb : (m0 + m) * bytes ≤ 1000000000 * 100000 := Nat.mul_le_mul hsm hbs
  refine wpListIn_plain hgd fun K hK' => ?_
  obtain ⟨v', w', hrun, h2, h3, h4⟩ := run_app (P := P) 0 t o.type e i z size bytes ht hi hz hsize hby hzs hsz v m0 xs ((H.row k hk).alloc (.cells news.toArray te)) ⟨w.heap.size, 0, none⟩ m c news hl (fun j u hu => by
    have hadd : (⟨w.heap.size, 0, none⟩ : Addr).add j = ⟨w.heap.size, j, none⟩ := by unfold Addr.add; split <;> simp_all
    rw [hadd, World.cell?_alloc_new]
    simpa using hu) h1 (by unfold maxLen; omega) (by omega) (Nat.zero_le _)
  unfold Oper.wpIn
  refine ⟨?_, ?_⟩
  · simp [Oper.about, ho, resolve, Target.leads, Sem.run_pure]
  · rw [Oper.semAt_plain F _ _ (by rw [ho]; intro c hc'; cases hc')]
    simp [execOp, ho, resolve, invoke, builtin, hs, hx, hrun, Result.andThen]
    refine hK' _ _ (h v' w' ((H.skip _).app k hk h2 h3 h4))
end
end Go.Proofs.Ytiaefmmcakagpaa

/- 'for i, x := range seq { .. }' where the round's own variable lies in memory. -/
namespace Go.Proofs.Ytiaefmmcakagpaa
set_option linter.unusedSimpArgs false
set_option linter.unusedVariables false
open Go Go.RowKit
section
variable {F : Fence} {n : Nat} {P : Program} {α : Type} {W : World} {S0 : Nat → Prop}
theorem wpIn_range_st2 {g : Operand} {ps : Array Tmp} {assign body : Code} {Q : Exit → Act → World → Prop} {a : Act} {w : World}
    (hro : F.round = none) (h1 : 1 ≤ n) {gf : Nat} {lb : Array Value} (hg : a.eval g = .func (.func gf) #[] lb) (hFg : F.fn gf) (eg : ∀ args w, (callFunc gf args).run P w = .ok (.enter gf args) w)
    {encs : α → Array Value} {xs : List α} {A : List Asn} (hit : Iter F (n - 1) P gf lb encs xs A W S0) (hps : ∀ x, (encs x).size = ps.size)
    (I : List α → List Asn) (Ix : Code → List α → List Asn) (h0 : St W S0 w (A ++ I []))
    (hround : ∀ (l : Nat) (pre : List α) (x : α) (suf : List α) (w1 : World), xs = pre ++ x :: suf →
      assign.wpIn (F.inRound l) (n - 1 - 1) P (Exit.then (fun a2 w2 => ∃ q : Asn, (∀ l', St W S0 w1 l' → St W S0 w2 (q :: l')) ∧ ∀ (p : List Asn) (w3 : World), St W S0 w3 (q :: (p ++ I pre)) → body.wpIn (F.inRound l) (n - 1 - 1) P (stPost W S0 p I Ix (pre ++ [x])) a2 w3) (fun _ _ _ => False))
        { tmps := (ps.zip (encs x)).foldl (fun t (p, v) => t.setIfInBounds p v) a.tmps, defers := [] } w1)
    (hdone : ∀ (D : Nat) (w' : World), St W S0 w' (objA D (.deferred (some [])) :: (A ++ I xs)) → Q .normal { a with defers := markD D :: a.defers } w')
    (hstop : ∀ (D : Nat) (c : Code) (pre : List α) (x : α) (suf : List α) (w' : World), xs = pre ++ x :: suf → St W S0 w' (objA D (.deferred (some [])) :: (A ++ Ix c (pre ++ [x]))) → c.wpIn F n P Q { a with defers := markD D :: a.defers } w') :
    (Code.rangeFunc g ps assign body).wpIn F n P Q a w := by
  refine wpIn_rangeFunc ?_
  intro fn hfn
  rw [hro]
  obtain ⟨rec, hrec⟩ : ∃ rec : LoopState → Option Code → Loop, rec = fun st pe => { state := st, pending := pe, fn, tmps := a.tmps, params := ps, assign, body, defers := w.heap.size } := ⟨_, rfl⟩
  obtain ⟨D, hD⟩ : ∃ D, D = w.heap.size := ⟨_, rfl⟩
  have hSt : St W S0 ((w.alloc (.deferred (some []))).alloc (.loop (rec .ready none))) (A ++ (objA (D + 1) (.loop (rec .ready none)) :: objA D (.deferred (some [])) :: I [])) := by
    have h2 := (h0.newObj (.deferred (some []))).newObj (.loop (rec .ready none))
    rw [World.size_alloc, ← hD] at h2
    exact h2.perm (List.perm_append_comm_assoc [_, _] A (I []))
  refine ⟨w.heap.size + 1, [markD w.heap.size], (w.alloc (.deferred (some []))).alloc (.loop (rec .ready none)), { target := .fn (.func gf) lb, args := #[.func (.yield (w.heap.size + 1)) #[] #[]] }, (w.alloc (.deferred (some []))).alloc (.loop (rec .ready none)), gf,
    #[.func (.yield (w.heap.size + 1)) #[] #[]] ++ lb, (w.alloc (.deferred (some []))).alloc (.loop (rec .ready none)), ?_, ?_, ?_, ?_, fun _ => h1, ?_⟩
  · rw [hrec]; exact run_enterLoop_outer _ _ _ _ _
  · simp only [resolve, hg]
    simp [go_sem]
  · intro f' hf'; simp [Target.leads] at hf'; subst hf'; exact hFg
  · simp [invoke, go_sem, eg]
  · rw [← hD]
    refine (hit (D + 1) _ (fun pre => objA (D + 1) (.loop (rec .ready none)) :: objA D (.deferred (some [])) :: I pre)
      (fun pre => [exA fun c => sepA (objA (D + 1) (.loop (rec .done (some c))) :: objA D (.deferred (some [])) :: Ix c pre)]) hSt ?_).mono ?_
    · -- one round
      intro p pre x suf w1 hx hs
      have hl := St.objIn hs
      have hy := run_yield (P := P) (args := encs x) hl (by rw [hrec]; exact hps x)
      rw [hrec] at hy
      refine ⟨fn, _, assign, body, hy, roundIn_of_wpIn hfn (wpIn_mono (hround _ pre x suf w1 hx) ?_)⟩
      rintro e2 a2 w2 h22
      cases e2 with
      | exit id => exact h22.elim
      | goto t => exact h22.elim
      | ret => exact h22.elim
      | panic ch => exact h22.elim
      | outgrown => exact h22.elim
      | normal =>
      obtain ⟨q, hq, hbody⟩ := h22
      have hsq : St W S0 w2 ((q :: p) ++ objA (D + 1) (.loop (rec .ready none)) :: objA D (.deferred (some [])) :: I pre) := hq _ hs
      have hl2 := St.objIn hsq
      refine ⟨_, run_beginRound hl2 (by rw [hrec]), ?_⟩
      have hs2 := St.putIn hsq (.loop { rec .ready none with state := .busy })
      have hs3 : St W S0 (w2.putObj (D + 1) (.loop { rec .ready none with state := .busy })) (q :: ((p ++ [objA (D + 1) (.loop { rec .ready none with state := .busy }), objA D (.deferred (some []))]) ++ I pre)) := by
        rw [List.append_assoc]; exact hs2
      refine wpIn_mono (hbody _ _ hs3) ?_
      have fin : ∀ (jump : Option Code) (w3 : World) (r : List Asn), St W S0 w3 ((p ++ [objA (D + 1) (.loop { rec .ready none with state := .busy }), objA D (.deferred (some []))]) ++ r) →
          (Instr.endRound (D + 1) jump).run P w3 = .ok (.bool jump.isNone) (w3.putObj (D + 1) (.loop (rec (if jump.isNone then .ready else .done) jump))) ∧
          St W S0 (w3.putObj (D + 1) (.loop (rec (if jump.isNone then .ready else .done) jump))) (p ++ (objA (D + 1) (.loop (rec (if jump.isNone then .ready else .done) jump)) :: objA D (.deferred (some [])) :: r)) := fun jump w3 r h => by
        rw [List.append_assoc] at h
        have h' : St W S0 w3 (p ++ (objA (D + 1) (.loop { rec .ready none with state := .busy }) :: objA D (.deferred (some [])) :: r)) := h
        have hl3 := St.objIn h'
        have := run_endRound (P := P) jump hl3
        have h4 := St.putIn h' (.loop (rec (if jump.isNone then .ready else .done) jump))
        refine ⟨?_, h4⟩
        rw [this, hrec]
      rintro e a3 w3 hp
      cases e with
      | normal =>
        obtain ⟨hr, h4⟩ := fin none w3 _ hp
        exact ⟨_, _, hr, .inl ⟨rfl, h4⟩⟩
      | ret =>
        obtain ⟨hr, h4⟩ := fin (some .ret) w3 _ hp
        exact ⟨_, _, hr, .inr ⟨rfl, (St.ex (l := p) (fun c => sepA (objA (D + 1) (.loop (rec .done (some c))) :: objA D (.deferred (some [])) :: Ix c (pre ++ [x]))) .ret (St.join _ p (h4.perm List.perm_append_comm))).perm (List.perm_append_comm (l₁ := [_]))⟩⟩
      | exit id =>
        obtain ⟨hr, h4⟩ := fin (some (.exit id)) w3 _ hp
        exact ⟨_, _, hr, .inr ⟨rfl, (St.ex (l := p) (fun c => sepA (objA (D + 1) (.loop (rec .done (some c))) :: objA D (.deferred (some [])) :: Ix c (pre ++ [x]))) (.exit id) (St.join _ p (h4.perm List.perm_append_comm))).perm (List.perm_append_comm (l₁ := [_]))⟩⟩
      | goto t =>
        obtain ⟨hr, h4⟩ := fin (some (.goto t)) w3 _ hp
        exact ⟨_, _, hr, .inr ⟨rfl, (St.ex (l := p) (fun c => sepA (objA (D + 1) (.loop (rec .done (some c))) :: objA D (.deferred (some [])) :: Ix c (pre ++ [x]))) (.goto t) (St.join _ p (h4.perm List.perm_append_comm))).perm (List.perm_append_comm (l₁ := [_]))⟩⟩
      | panic ch => exact hp.elim
      | outgrown => exact hp.elim
    · rintro e w2 ⟨⟨v, rfl⟩, (h | ⟨pre, x, suf, hx, h⟩)⟩
      · have hl := St.objIn h
        have h2 := (St.putIn h (.loop { rec .ready none with state := .exhausted })).perm (l' := objA (D + 1) (.loop { rec .ready none with state := .exhausted }) :: objA D (.deferred (some [])) :: (A ++ I xs)) (List.perm_append_comm_assoc [_, _] A (I xs)).symm
        exact ⟨none, _, by have := run_endLoop (P := P) hl (by rw [hrec]; simp); rw [hrec] at this ⊢; exact this, hdone D _ (h2.drop 0 rfl)⟩
      · have h' := h.perm (List.perm_append_comm (l₁ := A) (l₂ := [_]))
        obtain ⟨c, h3⟩ := St.unex 0 h' rfl
        have h4 : St W S0 w2 ([] ++ (objA (D + 1) (.loop (rec .done (some c))) :: objA D (.deferred (some [])) :: (Ix c (pre ++ [x]) ++ A))) := St.unsep 0 h3 rfl
        have hl := St.objIn h4
        have h5 := (St.putIn h4 (.loop { rec .done (some c) with state := .exhausted })).drop 0 rfl
        have h6 : St W S0 _ (objA D (.deferred (some [])) :: (A ++ Ix c (pre ++ [x]))) := h5.perm (List.Perm.cons _ List.perm_append_comm)
        exact ⟨some c, _, by have := run_endLoop (P := P) hl (by rw [hrec]; simp); rw [hrec] at this ⊢; exact this, hstop D c pre x suf _ hx h6⟩
end
end Go.Proofs.Ytiaefmmcakagpaa


/- The walk of slices.Delete at a type of elements, in a row of the call's own. -/
namespace Go.Proofs.Ytiaefmmcakagpaa.DelWait
set_option linter.unusedSimpArgs false
set_option linter.unusedVariables false
open Go Go.RowKit Go.Proofs.Ytiaefmmcakagpaa
attribute [local irreducible] Calls

theorem el_info : (Try.prog.info? 98).map (fun i => (i.zero, i.size, i.bytes)) = some (some (.agg #[.int .i64 0, .string ByteArray.empty, .int .i64 0]), 3, 32) := by kernel_rfl

set_option maxRecDepth 100000 in
set_option maxHeartbeats 800000 in
theorem delete_any (g o n cap i j : Nat) (xs : List Value) (S : Nat → Prop) (w : World) (hr : (rowA 3 (.slice (some ⟨g, o, none⟩) n cap) n xs).holds w S) (hij : i < j) (hjn : j ≤ n) (h1 : ∀ u ∈ xs, u.oneCell' = true) :
    Calls Try.prog 113 #[.slice (some ⟨g, o, none⟩) n cap, .int .i64 (i : Int), .int .i64 (j : Int)] w fun e w' =>
      e = .returned (.slice (some ⟨g, o, none⟩) (i + (n - j)) cap) ∧ St w S w' [rowA 3 (.slice (some ⟨g, o, none⟩) (i + (n - j)) cap) (i + (n - j)) (xs.take (i * 3) ++ xs.drop (j * 3))] := by
  obtain ⟨i0, hi, hz, hz1, hz2⟩ := info_parts el_info
  have H0 : St w S w [rowA 3 (.slice (some ⟨g, o, none⟩) n cap) n xs] := St.start (Sep.one hr)
  obtain ⟨hnc, hcm⟩ := (H0.row 0 rfl).roomy
  unfold maxLen at hcm
  have q0 : decide ((i : Int) = (j : Int)) = false := decide_eq_false (by omega)
  have q1 : ((i : Int) == (j : Int)) = false := by simp; omega
  clear hr
  replace H0 := Lib.hid H0; replace h1 := Lib.hid h1
  go_enter Try.func113, Try.ntmps113
  go_wp2_with fail
  haveI := H0.out.ne
  refine wp_region_cls_tail 6 (by kernel_rfl) (by kernel_rfl) H0.out ?_
  simp only [List.take_succ_cons, List.take_zero, List.drop_succ_cons, List.drop_zero]
  repeat (go_big_quiet_step (fail))
  refine wpQuiet_nil ?_
  intro w1 H1
  have hq2 : (n : Int) - j = ((n - j : Nat) : Int) := by omega
  replace H1 := Lib.hid H1
  have hq3 : ((i + (n - j) : Nat) : Int) = (i : Int) + ((n - j : Nat) : Int) := by omega
  have hlt1 : i + (n - j) < n := by omega
  have hcl : i < cap := by omega
  by_cases hcj : cap = j
  · obtain rfl : n = cap := by omega
    subst hcj
    go_wp2_with (at_builtin; (refine wpList_cutS rfl (.tmp 22) (.tmp 25) _ rfl 98 i0 Try.underlying125 hi hz1 (by omega) 0 g o _ i n H1.out rfl (by omega) hjn rfl _ _ _ rfl (by omega) rfl (fun h => by (repeat' split) <;> first | rfl | (exfalso; omega) | (rw [Nat.mul_one]; done)) h1.out ?_; intro w2 H2; (try simp only [Nat.sub_self, Nat.add_zero] at H2); obtain ⟨w3, hclr, H3⟩ := run_clearS (P := Try.prog) (size := 3) (n := i) 125 0 98 i0 _ Try.underlying125 hi hz rfl (by omega) (by simp [Value.cells, Value.oneCell']) 0 g o n H2 rfl (n - i) (n - i) (by omega) (by omega); (try simp only [Nat.mul_one] at hclr); clear H2; replace H3 := Lib.hid H3))
    go_ret
    (try simp only [Nat.sub_self, Nat.add_zero])
    exact ⟨rfl, H3.out⟩
  · go_wp2_with (at_builtin; (refine wpList_cutS rfl (.tmp 22) (.tmp 25) _ rfl 98 i0 Try.underlying125 hi hz1 (by omega) 0 g o _ i j H1.out rfl (by omega) hjn rfl _ _ _ rfl (by omega) rfl (fun h => by (repeat' split) <;> first | rfl | (exfalso; omega) | (rw [Nat.mul_one]; done)) h1.out ?_; intro w2 H2; (try simp only [Nat.sub_self, Nat.add_zero] at H2); obtain ⟨w3, hclr, H3⟩ := run_clearS (P := Try.prog) (size := 3) (n := (i + (n - j))) 125 0 98 i0 _ Try.underlying125 hi hz rfl (by omega) (by simp [Value.cells, Value.oneCell']) 0 g o cap H2 rfl (n - (i + (n - j))) (cap - (i + (n - j))) (by omega) (by omega); (try simp only [Nat.mul_one] at hclr); clear H2; replace H3 := Lib.hid H3))
    go_ret
    skip
    exact ⟨rfl, H3.out⟩
end Go.Proofs.Ytiaefmmcakagpaa.DelWait


/- The walk of slices.Delete at a type of elements, in a row of the call's own. -/
namespace Go.Proofs.Ytiaefmmcakagpaa.DelDg
set_option linter.unusedSimpArgs false
set_option linter.unusedVariables false
open Go Go.RowKit Go.Proofs.Ytiaefmmcakagpaa
attribute [local irreducible] Calls

theorem el_info : (Try.prog.info? 45).map (fun i => (i.zero, i.size, i.bytes)) = some (some (.agg #[.int .i64 0, .string ByteArray.empty]), 2, 24) := by kernel_rfl

set_option maxRecDepth 100000 in
set_option maxHeartbeats 800000 in
theorem delete_any (g o n cap i j : Nat) (xs : List Value) (S : Nat → Prop) (w : World) (hr : (rowA 2 (.slice (some ⟨g, o, none⟩) n cap) n xs).holds w S) (hij : i < j) (hjn : j ≤ n) (h1 : ∀ u ∈ xs, u.oneCell' = true) :
    Calls Try.prog 104 #[.slice (some ⟨g, o, none⟩) n cap, .int .i64 (i : Int), .int .i64 (j : Int)] w fun e w' =>
      e = .returned (.slice (some ⟨g, o, none⟩) (i + (n - j)) cap) ∧ St w S w' [rowA 2 (.slice (some ⟨g, o, none⟩) (i + (n - j)) cap) (i + (n - j)) (xs.take (i * 2) ++ xs.drop (j * 2))] := by
  obtain ⟨i0, hi, hz, hz1, hz2⟩ := info_parts el_info
  have H0 : St w S w [rowA 2 (.slice (some ⟨g, o, none⟩) n cap) n xs] := St.start (Sep.one hr)
  obtain ⟨hnc, hcm⟩ := (H0.row 0 rfl).roomy
  unfold maxLen at hcm
  have q0 : decide ((i : Int) = (j : Int)) = false := decide_eq_false (by omega)
  have q1 : ((i : Int) == (j : Int)) = false := by simp; omega
  clear hr
  replace H0 := Lib.hid H0; replace h1 := Lib.hid h1
  go_enter Try.func104, Try.ntmps104
  go_wp2_with fail
  haveI := H0.out.ne
  refine wp_region_cls_tail 6 (by kernel_rfl) (by kernel_rfl) H0.out ?_
  simp only [List.take_succ_cons, List.take_zero, List.drop_succ_cons, List.drop_zero]
  repeat (go_big_quiet_step (fail))
  refine wpQuiet_nil ?_
  intro w1 H1
  have hq2 : (n : Int) - j = ((n - j : Nat) : Int) := by omega
  replace H1 := Lib.hid H1
  have hq3 : ((i + (n - j) : Nat) : Int) = (i : Int) + ((n - j : Nat) : Int) := by omega
  have hlt1 : i + (n - j) < n := by omega
  have hcl : i < cap := by omega
  by_cases hcj : cap = j
  · obtain rfl : n = cap := by omega
    subst hcj
    go_wp2_with (at_builtin; (refine wpList_cutS rfl (.tmp 22) (.tmp 25) _ rfl 45 i0 Try.underlying48 hi hz1 (by omega) 0 g o _ i n H1.out rfl (by omega) hjn rfl _ _ _ rfl (by omega) rfl (fun h => by (repeat' split) <;> first | rfl | (exfalso; omega) | (rw [Nat.mul_one]; done)) h1.out ?_; intro w2 H2; (try simp only [Nat.sub_self, Nat.add_zero] at H2); obtain ⟨w3, hclr, H3⟩ := run_clearS (P := Try.prog) (size := 2) (n := i) 48 0 45 i0 _ Try.underlying48 hi hz rfl (by omega) (by simp [Value.cells, Value.oneCell']) 0 g o n H2 rfl (n - i) (n - i) (by omega) (by omega); (try simp only [Nat.mul_one] at hclr); clear H2; replace H3 := Lib.hid H3))
    go_ret
    (try simp only [Nat.sub_self, Nat.add_zero])
    exact ⟨rfl, H3.out⟩
  · go_wp2_with (at_builtin; (refine wpList_cutS rfl (.tmp 22) (.tmp 25) _ rfl 45 i0 Try.underlying48 hi hz1 (by omega) 0 g o _ i j H1.out rfl (by omega) hjn rfl _ _ _ rfl (by omega) rfl (fun h => by (repeat' split) <;> first | rfl | (exfalso; omega) | (rw [Nat.mul_one]; done)) h1.out ?_; intro w2 H2; (try simp only [Nat.sub_self, Nat.add_zero] at H2); obtain ⟨w3, hclr, H3⟩ := run_clearS (P := Try.prog) (size := 2) (n := (i + (n - j))) 48 0 45 i0 _ Try.underlying48 hi hz rfl (by omega) (by simp [Value.cells, Value.oneCell']) 0 g o cap H2 rfl (n - (i + (n - j))) (cap - (i + (n - j))) (by omega) (by omega); (try simp only [Nat.mul_one] at hclr); clear H2; replace H3 := Lib.hid H3))
    go_ret
    skip
    exact ⟨rfl, H3.out⟩
end Go.Proofs.Ytiaefmmcakagpaa.DelDg

/- The walks of the package dock at a type of elements, without Push. -/
namespace Go.Proofs.Ytiaefmmcakagpaa.DockWait
set_option linter.unusedSimpArgs false
set_option linter.unusedVariables false
open Go Go.RowKit Go.Proofs.Ytiaefmmcakagpaa Go.Proofs.Ytiaefmmcakagpaa.DelWait
attribute [local irreducible] Calls

abbrev El := Int × ByteArray × Int
def enc (x : El) : List Value := [.int .i64 x.1, .string x.2.1, .int .i64 x.2.2]
def val (x : El) : Value := .agg #[.int .i64 x.1, .string x.2.1, .int .i64 x.2.2]
def zero : El := (0, ByteArray.empty, 0)
def encs (l : List El) : List Value := l.flatMap enc
theorem enc_len (x : El) : (enc x).length = 3 := rfl
theorem encs_len (l : List El) : (encs l).length = l.length * 3 := flat_len enc_len l
theorem encs_app (l : List El) (x : El) : encs l ++ enc x = encs (l ++ [x]) := by simp [encs]
theorem encs_one (l : List El) : ∀ u ∈ encs l, u.oneCell' = true := by
  intro u hu
  obtain ⟨x, _, h⟩ := List.mem_flatMap.1 hu
  have : ∀ u ∈ enc x, u.oneCell' = true := by simp [enc, Value.oneCell']
  exact this u h
theorem encs_drop (l : List El) (k : Nat) : (encs l).drop (k * 3) = encs (l.drop k) := by
  induction k generalizing l with
  | zero => simp
  | succ k ih =>
    cases l with
    | nil => simp [encs]
    | cons x l =>
      have h : encs (x :: l) = enc x ++ encs l := rfl
      rw [h, List.drop_append, enc_len, show (k + 1) * 3 - 3 = k * 3 by omega, ih, List.drop_of_length_le (by rw [enc_len]; omega)]
      rfl
theorem encs_take (l : List El) (k : Nat) : (encs l).take (k * 3) = encs (l.take k) := by
  induction k generalizing l with
  | zero => simp [encs]
  | succ k ih =>
    cases l with
    | nil => simp [encs]
    | cons x l =>
      have h : encs (x :: l) = enc x ++ encs l := rfl
      rw [h, List.take_append, enc_len, show (k + 1) * 3 - 3 = k * 3 by omega, ih, List.take_of_length_le (by rw [enc_len]; omega)]
      rfl

/-- A dock: where it lies, for how many, what waits. -/
def dockA (d : Nat) (most : Int) (l : List El) : Asn := exA fun v => sepA [cellA d [v, .int .i64 most], rowA 3 v l.length (encs l)]
/-- Its parts, in a call that began with it. -/
theorem dock_open {d : Nat} {most : Int} {l : List El} {w : World} {S : Nat → Prop} (h : (dockA d most l).holds w S) : ∃ v, St w S w [cellA d [v, .int .i64 most], rowA 3 v l.length (encs l)] := by
  obtain ⟨v, h⟩ := h
  exact ⟨v, St.start h⟩
theorem dock_shut {W w : World} {S : Nat → Prop} {d : Nat} {most : Int} {l : List El} {v : Value} {r : List Asn} (h : St W S w (cellA d [v, .int .i64 most] :: rowA 3 v l.length (encs l) :: r)) : St W S w (dockA d most l :: r) :=
  St.ex (fun v => sepA [cellA d [v, .int .i64 most], rowA 3 v l.length (encs l)]) v (St.join [cellA d [v, .int .i64 most], rowA 3 v l.length (encs l)] r h)
theorem dock_parts {W w : World} {S : Nat → Prop} {d : Nat} {most : Int} {l : List El} {r : List Asn} (h : St W S w (dockA d most l :: r)) : ∃ v, St W S w (cellA d [v, .int .i64 most] :: rowA 3 v l.length (encs l) :: r) := by
  obtain ⟨v, h⟩ := St.unex 0 h rfl
  exact ⟨v, St.unsep 0 h rfl⟩

theorem new_any (most : Int) (w : World) : Calls Try.prog 63 #[.int .i64 most] w fun e w' => ∃ d, e = .returned (.pointer (some ⟨d, 0, none⟩)) ∧ St w none0 w' [dockA d (min (max most 0) 1000) []] := by
  go_enter Try.func63, Try.ntmps63
  go_wp2_with fail
  go_ret
  exact ⟨_, rfl, dock_shut (v := .slice none 0 0) (r := []) (((St.zero w).row_nil (size := 3)).alloc [.slice none 0 0, .int .i64 (min (max most 0) 1000)] _)⟩

theorem len_any (d : Nat) (most : Int) (l : List El) (w : World) (S : Nat → Prop) (h : (dockA d most l).holds w S) : Calls Try.prog 69 #[.pointer (some ⟨d, 0, none⟩)] w (Ret w (.int .i64 l.length)) := by
  obtain ⟨v, H⟩ := dock_open h
  obtain ⟨a, cap, rfl, hn, hl, R⟩ := (H.row 1 rfl).rd (by omega)
  obtain ⟨z, c, f⟩ := H.box 0 rfl
  clear h H R hl
  go_enter Try.func69, Try.ntmps69
  go_wp2_with fail
  go_ret
  exact Ret.mk rfl (by repeat (first | with_reducible exact Below.refl _ _ | (with_reducible refine Below.al ?_) | (with_reducible refine Below.drew ?_) | (with_reducible refine Below.set ?_ (by first | (simp; done) | omega | (simp; omega))) | (with_reducible refine Below.thru ?_ (by assumption)) | (with_reducible refine Below.chg ?_ (by assumption) (by first | (simp; done) | omega | (simp; omega)))))
theorem len_none (w : World) : Calls Try.prog 69 #[.pointer none] w (Ret w (.int .i64 0)) := by
  go_enter Try.func69, Try.ntmps69
  go_wp2_with fail
  go_ret
  exact Ret.mk rfl (by repeat (first | with_reducible exact Below.refl _ _ | (with_reducible refine Below.al ?_) | (with_reducible refine Below.drew ?_) | (with_reducible refine Below.set ?_ (by first | (simp; done) | omega | (simp; omega))) | (with_reducible refine Below.thru ?_ (by assumption)) | (with_reducible refine Below.chg ?_ (by assumption) (by first | (simp; done) | omega | (simp; omega)))))
theorem full_any (d : Nat) (most : Int) (l : List El) (w : World) (S : Nat → Prop) (h : (dockA d most l).holds w S) : Calls Try.prog 94 #[.pointer (some ⟨d, 0, none⟩)] w (Ret w (.bool (decide (most ≤ l.length)))) := by
  obtain ⟨v, H⟩ := dock_open h
  obtain ⟨a, cap, rfl, hn, hl, R⟩ := (H.row 1 rfl).rd (by omega)
  obtain ⟨z, c, f⟩ := H.box 0 rfl
  clear h H R hl
  go_enter Try.func94, Try.ntmps94
  go_wp2_with fail
  refine wp_region_near (by kernel_rfl) (by kernel_rfl) ?_
  intro hs
  repeat (go_big_quiet_step (fail))
  refine wpQuiet_nil ?_
  clear hs
  intro w1 hb1
  go_wp2_with fail
  go_ret
  exact Ret.mk rfl (by repeat (first | with_reducible exact Below.refl _ _ | (with_reducible refine Below.al ?_) | (with_reducible refine Below.drew ?_) | (with_reducible refine Below.set ?_ (by first | (simp; done) | omega | (simp; omega))) | (with_reducible refine Below.thru ?_ (by assumption)) | (with_reducible refine Below.chg ?_ (by assumption) (by first | (simp; done) | omega | (simp; omega)))))
def headV (l : List El) : El := l.headD zero
theorem first_any (d : Nat) (most : Int) (l : List El) (w : World) (S : Nat → Prop) (h : (dockA d most l).holds w S) : Calls Try.prog 68 #[.pointer (some ⟨d, 0, none⟩)] w (Ret w (.tuple #[val (headV l), .bool (decide (0 < l.length))])) := by
  obtain ⟨v, H⟩ := dock_open h
  obtain ⟨a, cap, rfl, hn, hl, R⟩ := (H.row 1 rfl).rd (by omega)
  obtain ⟨z, c, f⟩ := H.box 0 rfl
  clear h H
  cases l with
  | nil =>
    clear R hl
    go_enter Try.func68, Try.ntmps68
    go_wp2_with fail
    exact bodyPost_ret (v := .tuple #[val (headV []), .bool false]) (by simp [results, Try.results68, go_sem, val, headV, zero]; try rfl) rfl (Ret.mk rfl (by repeat (first | with_reducible exact Below.refl _ _ | (with_reducible refine Below.al ?_) | (with_reducible refine Below.drew ?_) | (with_reducible refine Below.set ?_ (by first | (simp; done) | omega | (simp; omega))) | (with_reducible refine Below.thru ?_ (by assumption)) | (with_reducible refine Below.chg ?_ (by assumption) (by first | (simp; done) | omega | (simp; omega))))))
  | cons x l =>
    obtain ⟨b, off, rfl, hb, hc⟩ := Rd.rows enc_len (by omega) R rfl (by simp)
    have e0 := hc 0 (by simp)
    have e00 := e0 0 _ rfl; rw [show off + 0 * 3 + 0 = off + 0 by omega] at e00; simp only [List.getElem_cons_zero, Nat.add_zero] at e00
    have e01 := e0 1 _ rfl; rw [show off + 0 * 3 + 1 = off + 1 by omega] at e01; simp only [List.getElem_cons_zero, Nat.add_zero] at e01
    have e02 := e0 2 _ rfl; rw [show off + 0 * 3 + 2 = off + 2 by omega] at e02; simp only [List.getElem_cons_zero, Nat.add_zero] at e02
    have hlen : (x :: l).length = l.length + 1 := rfl
    have hn' : l.length + 1 ≤ maxLen := hn
    clear hc R hl e0 hn
    unfold maxLen at hn'
    simp only [List.length_cons] at c
    have hq : ((l.length + 1 : Nat) : Int) = (l.length : Int) + 1 := by omega
    have hq2 : (((l.length + 1 : Nat) : Int) == 0) = false := by simp; omega
    rw [show headV (x :: l) = x from rfl, show decide (0 < (x :: l).length) = true from rfl]
    have hpos : 0 < l.length + 1 := by omega
    generalize l.length + 1 = n at *
    generalize hx : x = y at *
    clear hlen hq
    go_enter Try.func68, Try.ntmps68
    go_wp2_with fail
    exact bodyPost_ret (v := .tuple #[val y, .bool true]) (by simp [results, Try.results68, go_sem, val]) rfl (Ret.mk rfl (by repeat (first | with_reducible exact Below.refl _ _ | (with_reducible refine Below.al ?_) | (with_reducible refine Below.drew ?_) | (with_reducible refine Below.set ?_ (by first | (simp; done) | omega | (simp; omega))) | (with_reducible refine Below.thru ?_ (by assumption)) | (with_reducible refine Below.chg ?_ (by assumption) (by first | (simp; done) | omega | (simp; omega))))))
theorem first_none (w : World) : Calls Try.prog 68 #[.pointer none] w (Ret w (.tuple #[val zero, .bool false])) := by
  go_enter Try.func68, Try.ntmps68
  go_wp2_with fail
  exact bodyPost_ret (v := .tuple #[val zero, .bool false]) (by simp [results, Try.results68, go_sem, val, zero]; try rfl) rfl (Ret.mk rfl (by repeat (first | with_reducible exact Below.refl _ _ | (with_reducible refine Below.al ?_) | (with_reducible refine Below.drew ?_) | (with_reducible refine Below.set ?_ (by first | (simp; done) | omega | (simp; omega))) | (with_reducible refine Below.thru ?_ (by assumption)) | (with_reducible refine Below.chg ?_ (by assumption) (by first | (simp; done) | omega | (simp; omega))))))

theorem first_nil (d : Nat) (most : Int) (w : World) (S : Nat → Prop) (h : (dockA d most []).holds w S) : Calls Try.prog 68 #[.pointer (some ⟨d, 0, none⟩)] w (Ret w (.tuple #[.agg #[.int .i64 0, .string ByteArray.empty, .int .i64 0], .bool false])) := first_any d most [] w S h
theorem first_cons (d : Nat) (most : Int) (x : El) (l : List El) (w : World) (S : Nat → Prop) (h : (dockA d most (x :: l)).holds w S) : Calls Try.prog 68 #[.pointer (some ⟨d, 0, none⟩)] w (Ret w (.tuple #[.agg #[.int .i64 x.1, .string x.2.1, .int .i64 x.2.2], .bool true])) := first_any d most (x :: l) w S h
theorem row_some {w : World} {base size n : Nat} {v : Value} {xs : List Value} (h : Own w base size v n xs) (hn : 0 < n) : ∃ g o cap, v = .slice (some ⟨g, o, none⟩) n cap := by
  rcases h.2 with ⟨_, e⟩ | ⟨g, o, cap, e, _⟩
  · omega
  · exact ⟨g, o, cap, e⟩
set_option maxRecDepth 100000 in
theorem pull_nil (d : Nat) (most : Int) (w : World) (S : Nat → Prop) (h : (dockA d most []).holds w S) :
    Calls Try.prog 97 #[.pointer (some ⟨d, 0, none⟩)] w (Ret w (.tuple #[.agg #[.int .i64 0, .string ByteArray.empty, .int .i64 0], .bool false])) := by
  have H0 : St w S w [dockA d most []] := St.start (Sep.one h)
  obtain ⟨SX, hSX⟩ := (H0.skip (.cells #[.int .i64 0, .string ByteArray.empty, .int .i64 0] 98)).held 0 rfl
  have H1 := H0.alloc [.int .i64 0, .string ByteArray.empty, .int .i64 0] 98
  replace H1 := Lib.hid H1
  clear H0
  go_enter Try.func97, Try.ntmps97
  go_wp2_with fail
  refine Calls.mono (first_nil d most _ SX hSX) ?_
  rintro e w1 ⟨rfl, hb1⟩
  obtain ⟨zr, cr, fr⟩ := (H1.out.thru hb1).box 0 rfl
  go_wp2_with fail
  exact bodyPost_ret (v := .tuple #[.agg #[.int .i64 0, .string ByteArray.empty, .int .i64 0], .bool false]) (by simp [results, Try.results97, go_sem, cr, zr]) rfl (Ret.mk rfl (by repeat (first | with_reducible exact Below.refl _ _ | (with_reducible refine Below.al ?_) | (with_reducible refine Below.drew ?_) | (with_reducible refine Below.set ?_ (by first | (simp; done) | omega | (simp; omega))) | (with_reducible refine Below.thru ?_ (by assumption)) | (with_reducible refine Below.chg ?_ (by assumption) (by first | (simp; done) | omega | (simp; omega))))))
set_option maxRecDepth 100000 in
theorem pull_cons (d : Nat) (most : Int) (x : El) (l : List El) (w : World) (S : Nat → Prop) (h : (dockA d most (x :: l)).holds w S) :
    Calls Try.prog 97 #[.pointer (some ⟨d, 0, none⟩)] w (Fin w S (.tuple #[.agg #[.int .i64 x.1, .string x.2.1, .int .i64 x.2.2], .bool true]) [dockA d most l]) := by
  have H0 : St w S w [dockA d most (x :: l)] := St.start (Sep.one h)
  obtain ⟨SX, hSX⟩ := (H0.skip (.cells #[.int .i64 0, .string ByteArray.empty, .int .i64 0] 98)).held 0 rfl
  have H1 := H0.alloc [.int .i64 0, .string ByteArray.empty, .int .i64 0] 98
  have hd0 : d < w.heap.size := by
    obtain ⟨_, HP⟩ := dock_parts H0
    exact (HP.box 0 rfl).lt
  replace H0 := Lib.hid H0; replace H1 := Lib.hid H1
  go_enter Try.func97, Try.ntmps97
  go_wp2_with fail
  refine Calls.mono (first_cons d most x l _ SX hSX) ?_
  rintro e w1 ⟨rfl, hb1⟩
  have z1 := hb1.size
  simp only [World.size_alloc] at z1
  have n1 : ¬ d = w.heap.size := by omega
  have n2 : ¬ w.heap.size = d := by omega
  have n3 : ¬ d = w1.heap.size := by omega
  have n4 : ¬ w1.heap.size = d := by omega
  have n5 : ¬ w.heap.size = w1.heap.size := by omega
  have n6 : ¬ w1.heap.size = w.heap.size := by omega
  obtain ⟨v, H2⟩ := dock_parts ((H1.out.thru hb1).front 1 rfl)
  obtain ⟨g, o, cap, rfl⟩ := row_some (H2.row 1 rfl) (by simp)
  obtain ⟨z2, k2, f2⟩ := H2.box 0 rfl
  clear hSX
  have HA := H2.alloc [.int .i64 x.1, .string x.2.1, .int .i64 x.2.2] 98
  have hlen : (x :: l).length = l.length + 1 := rfl
  replace H2 := Lib.hid H2
  simp only [List.length_cons] at k2
  go_wp2_with fail
  obtain ⟨SR, hR, _, hback⟩ := HA.at 2 rfl
  refine Calls.mono (DelWait.delete_any g o (l.length + 1) cap 0 1 (encs (x :: l)) SR _ hR (by omega) (by omega) (encs_one _)) ?_
  rintro e w3 ⟨rfl, h3⟩
  have H3 := hback w3 _ h3
  rw [show (encs (x :: l)).take (0 * 3) ++ (encs (x :: l)).drop (1 * 3) = encs l from by rw [encs_drop]; simp, show 0 + (l.length + 1 - 1) = l.length from by omega] at H3
  clear HA hback h3 hR
  obtain ⟨z3, k3, f3⟩ := H3.box 2 rfl
  obtain ⟨zt, kt, ft⟩ := H3.box 1 rfl
  obtain ⟨zr, kr, fr⟩ := H3.box 3 rfl
  replace H3 := Lib.hid H3
  go_wp2_with fail
  refine bodyPost_ret (v := .tuple #[.agg #[.int .i64 x.1, .string x.2.1, .int .i64 x.2.2], .bool true]) (by simp [results, Try.results97, go_sem, kr, n1, n2]) rfl ?_
  have H4 := H3.out.set 2 rfl 0 (.slice (some ⟨g, o, none⟩) l.length cap) (by simp)
  refine ⟨rfl, dock_shut (v := .slice (some ⟨g, o, none⟩) l.length cap) (r := []) ?_⟩
  exact ((((((((H4.front 3 rfl).set 0 rfl 0 _ (by simp))).set 0 rfl 1 _ (by simp))).set 0 rfl 2 _ (by simp))).drop 0 rfl).drop 2 rfl
theorem pull_none (w : World) : Calls Try.prog 97 #[.pointer none] w (Ret w (.tuple #[.agg #[.int .i64 0, .string ByteArray.empty, .int .i64 0], .bool false])) := by
  go_enter Try.func97, Try.ntmps97
  go_wp2_with fail
  refine Calls.mono (first_none _) ?_
  rintro e w1 ⟨rfl, hb1⟩
  have hz : val zero = .agg #[.int .i64 0, .string ByteArray.empty, .int .i64 0] := rfl
  rw [hz]
  have hr : Box w1 w.heap.size [.int .i64 0, .string ByteArray.empty, .int .i64 0] := (Box.new [.int .i64 0, .string ByteArray.empty, .int .i64 0] 98).below hb1
  obtain ⟨zr, cr, fr⟩ := hr
  go_wp2_with fail
  exact bodyPost_ret (v := .tuple #[.agg #[.int .i64 0, .string ByteArray.empty, .int .i64 0], .bool false]) (by simp [results, Try.results97, go_sem, cr, zr]) rfl (Ret.mk rfl (by repeat (first | with_reducible exact Below.refl _ _ | (with_reducible refine Below.al ?_) | (with_reducible refine Below.drew ?_) | (with_reducible refine Below.set ?_ (by first | (simp; done) | omega | (simp; omega))) | (with_reducible refine Below.thru ?_ (by assumption)) | (with_reducible refine Below.chg ?_ (by assumption) (by first | (simp; done) | omega | (simp; omega))))))
end Go.Proofs.Ytiaefmmcakagpaa.DockWait

/- The walks of the package dock at a type of elements, without Push. -/
namespace Go.Proofs.Ytiaefmmcakagpaa.DockDg
set_option linter.unusedSimpArgs false
set_option linter.unusedVariables false
open Go Go.RowKit Go.Proofs.Ytiaefmmcakagpaa Go.Proofs.Ytiaefmmcakagpaa.DelDg
attribute [local irreducible] Calls

abbrev El := Int × ByteArray
def enc (x : El) : List Value := [.int .i64 x.1, .string x.2]
def val (x : El) : Value := .agg #[.int .i64 x.1, .string x.2]
def zero : El := (0, ByteArray.empty)
def encs (l : List El) : List Value := l.flatMap enc
theorem enc_len (x : El) : (enc x).length = 2 := rfl
theorem encs_len (l : List El) : (encs l).length = l.length * 2 := flat_len enc_len l
theorem encs_app (l : List El) (x : El) : encs l ++ enc x = encs (l ++ [x]) := by simp [encs]
theorem encs_one (l : List El) : ∀ u ∈ encs l, u.oneCell' = true := by
  intro u hu
  obtain ⟨x, _, h⟩ := List.mem_flatMap.1 hu
  have : ∀ u ∈ enc x, u.oneCell' = true := by simp [enc, Value.oneCell']
  exact this u h
theorem encs_drop (l : List El) (k : Nat) : (encs l).drop (k * 2) = encs (l.drop k) := by
  induction k generalizing l with
  | zero => simp
  | succ k ih =>
    cases l with
    | nil => simp [encs]
    | cons x l =>
      have h : encs (x :: l) = enc x ++ encs l := rfl
      rw [h, List.drop_append, enc_len, show (k + 1) * 2 - 2 = k * 2 by omega, ih, List.drop_of_length_le (by rw [enc_len]; omega)]
      rfl
theorem encs_take (l : List El) (k : Nat) : (encs l).take (k * 2) = encs (l.take k) := by
  induction k generalizing l with
  | zero => simp [encs]
  | succ k ih =>
    cases l with
    | nil => simp [encs]
    | cons x l =>
      have h : encs (x :: l) = enc x ++ encs l := rfl
      rw [h, List.take_append, enc_len, show (k + 1) * 2 - 2 = k * 2 by omega, ih, List.take_of_length_le (by rw [enc_len]; omega)]
      rfl

/-- A dock: where it lies, for how many, what waits. -/
def dockA (d : Nat) (most : Int) (l : List El) : Asn := exA fun v => sepA [cellA d [v, .int .i64 most], rowA 2 v l.length (encs l)]
/-- Its parts, in a call that began with it. -/
theorem dock_open {d : Nat} {most : Int} {l : List El} {w : World} {S : Nat → Prop} (h : (dockA d most l).holds w S) : ∃ v, St w S w [cellA d [v, .int .i64 most], rowA 2 v l.length (encs l)] := by
  obtain ⟨v, h⟩ := h
  exact ⟨v, St.start h⟩
theorem dock_shut {W w : World} {S : Nat → Prop} {d : Nat} {most : Int} {l : List El} {v : Value} {r : List Asn} (h : St W S w (cellA d [v, .int .i64 most] :: rowA 2 v l.length (encs l) :: r)) : St W S w (dockA d most l :: r) :=
  St.ex (fun v => sepA [cellA d [v, .int .i64 most], rowA 2 v l.length (encs l)]) v (St.join [cellA d [v, .int .i64 most], rowA 2 v l.length (encs l)] r h)
theorem dock_parts {W w : World} {S : Nat → Prop} {d : Nat} {most : Int} {l : List El} {r : List Asn} (h : St W S w (dockA d most l :: r)) : ∃ v, St W S w (cellA d [v, .int .i64 most] :: rowA 2 v l.length (encs l) :: r) := by
  obtain ⟨v, h⟩ := St.unex 0 h rfl
  exact ⟨v, St.unsep 0 h rfl⟩

theorem new_any (most : Int) (w : World) : Calls Try.prog 75 #[.int .i64 most] w fun e w' => ∃ d, e = .returned (.pointer (some ⟨d, 0, none⟩)) ∧ St w none0 w' [dockA d (min (max most 0) 1000) []] := by
  go_enter Try.func75, Try.ntmps75
  go_wp2_with fail
  go_ret
  exact ⟨_, rfl, dock_shut (v := .slice none 0 0) (r := []) (((St.zero w).row_nil (size := 2)).alloc [.slice none 0 0, .int .i64 (min (max most 0) 1000)] _)⟩

theorem len_any (d : Nat) (most : Int) (l : List El) (w : World) (S : Nat → Prop) (h : (dockA d most l).holds w S) : Calls Try.prog 82 #[.pointer (some ⟨d, 0, none⟩)] w (Ret w (.int .i64 l.length)) := by
  obtain ⟨v, H⟩ := dock_open h
  obtain ⟨a, cap, rfl, hn, hl, R⟩ := (H.row 1 rfl).rd (by omega)
  obtain ⟨z, c, f⟩ := H.box 0 rfl
  clear h H R hl
  go_enter Try.func82, Try.ntmps82
  go_wp2_with fail
  go_ret
  exact Ret.mk rfl (by repeat (first | with_reducible exact Below.refl _ _ | (with_reducible refine Below.al ?_) | (with_reducible refine Below.drew ?_) | (with_reducible refine Below.set ?_ (by first | (simp; done) | omega | (simp; omega))) | (with_reducible refine Below.thru ?_ (by assumption)) | (with_reducible refine Below.chg ?_ (by assumption) (by first | (simp; done) | omega | (simp; omega)))))
theorem len_none (w : World) : Calls Try.prog 82 #[.pointer none] w (Ret w (.int .i64 0)) := by
  go_enter Try.func82, Try.ntmps82
  go_wp2_with fail
  go_ret
  exact Ret.mk rfl (by repeat (first | with_reducible exact Below.refl _ _ | (with_reducible refine Below.al ?_) | (with_reducible refine Below.drew ?_) | (with_reducible refine Below.set ?_ (by first | (simp; done) | omega | (simp; omega))) | (with_reducible refine Below.thru ?_ (by assumption)) | (with_reducible refine Below.chg ?_ (by assumption) (by first | (simp; done) | omega | (simp; omega)))))
theorem full_any (d : Nat) (most : Int) (l : List El) (w : World) (S : Nat → Prop) (h : (dockA d most l).holds w S) : Calls Try.prog 114 #[.pointer (some ⟨d, 0, none⟩)] w (Ret w (.bool (decide (most ≤ l.length)))) := by
  obtain ⟨v, H⟩ := dock_open h
  obtain ⟨a, cap, rfl, hn, hl, R⟩ := (H.row 1 rfl).rd (by omega)
  obtain ⟨z, c, f⟩ := H.box 0 rfl
  clear h H R hl
  go_enter Try.func114, Try.ntmps114
  go_wp2_with fail
  refine wp_region_near (by kernel_rfl) (by kernel_rfl) ?_
  intro hs
  repeat (go_big_quiet_step (fail))
  refine wpQuiet_nil ?_
  clear hs
  intro w1 hb1
  go_wp2_with fail
  go_ret
  exact Ret.mk rfl (by repeat (first | with_reducible exact Below.refl _ _ | (with_reducible refine Below.al ?_) | (with_reducible refine Below.drew ?_) | (with_reducible refine Below.set ?_ (by first | (simp; done) | omega | (simp; omega))) | (with_reducible refine Below.thru ?_ (by assumption)) | (with_reducible refine Below.chg ?_ (by assumption) (by first | (simp; done) | omega | (simp; omega)))))
def headV (l : List El) : El := l.headD zero
theorem first_any (d : Nat) (most : Int) (l : List El) (w : World) (S : Nat → Prop) (h : (dockA d most l).holds w S) : Calls Try.prog 103 #[.pointer (some ⟨d, 0, none⟩)] w (Ret w (.tuple #[val (headV l), .bool (decide (0 < l.length))])) := by
  obtain ⟨v, H⟩ := dock_open h
  obtain ⟨a, cap, rfl, hn, hl, R⟩ := (H.row 1 rfl).rd (by omega)
  obtain ⟨z, c, f⟩ := H.box 0 rfl
  clear h H
  cases l with
  | nil =>
    clear R hl
    go_enter Try.func103, Try.ntmps103
    go_wp2_with fail
    exact bodyPost_ret (v := .tuple #[val (headV []), .bool false]) (by simp [results, Try.results103, go_sem, val, headV, zero]; try rfl) rfl (Ret.mk rfl (by repeat (first | with_reducible exact Below.refl _ _ | (with_reducible refine Below.al ?_) | (with_reducible refine Below.drew ?_) | (with_reducible refine Below.set ?_ (by first | (simp; done) | omega | (simp; omega))) | (with_reducible refine Below.thru ?_ (by assumption)) | (with_reducible refine Below.chg ?_ (by assumption) (by first | (simp; done) | omega | (simp; omega))))))
  | cons x l =>
    obtain ⟨b, off, rfl, hb, hc⟩ := Rd.rows enc_len (by omega) R rfl (by simp)
    have e0 := hc 0 (by simp)
    have e00 := e0 0 _ rfl; rw [show off + 0 * 2 + 0 = off + 0 by omega] at e00; simp only [List.getElem_cons_zero, Nat.add_zero] at e00
    have e01 := e0 1 _ rfl; rw [show off + 0 * 2 + 1 = off + 1 by omega] at e01; simp only [List.getElem_cons_zero, Nat.add_zero] at e01
    have hlen : (x :: l).length = l.length + 1 := rfl
    have hn' : l.length + 1 ≤ maxLen := hn
    clear hc R hl e0 hn
    unfold maxLen at hn'
    simp only [List.length_cons] at c
    have hq : ((l.length + 1 : Nat) : Int) = (l.length : Int) + 1 := by omega
    have hq2 : (((l.length + 1 : Nat) : Int) == 0) = false := by simp; omega
    rw [show headV (x :: l) = x from rfl, show decide (0 < (x :: l).length) = true from rfl]
    have hpos : 0 < l.length + 1 := by omega
    generalize l.length + 1 = n at *
    generalize hx : x = y at *
    clear hlen hq
    go_enter Try.func103, Try.ntmps103
    go_wp2_with fail
    exact bodyPost_ret (v := .tuple #[val y, .bool true]) (by simp [results, Try.results103, go_sem, val]) rfl (Ret.mk rfl (by repeat (first | with_reducible exact Below.refl _ _ | (with_reducible refine Below.al ?_) | (with_reducible refine Below.drew ?_) | (with_reducible refine Below.set ?_ (by first | (simp; done) | omega | (simp; omega))) | (with_reducible refine Below.thru ?_ (by assumption)) | (with_reducible refine Below.chg ?_ (by assumption) (by first | (simp; done) | omega | (simp; omega))))))
theorem first_none (w : World) : Calls Try.prog 103 #[.pointer none] w (Ret w (.tuple #[val zero, .bool false])) := by
  go_enter Try.func103, Try.ntmps103
  go_wp2_with fail
  exact bodyPost_ret (v := .tuple #[val zero, .bool false]) (by simp [results, Try.results103, go_sem, val, zero]; try rfl) rfl (Ret.mk rfl (by repeat (first | with_reducible exact Below.refl _ _ | (with_reducible refine Below.al ?_) | (with_reducible refine Below.drew ?_) | (with_reducible refine Below.set ?_ (by first | (simp; done) | omega | (simp; omega))) | (with_reducible refine Below.thru ?_ (by assumption)) | (with_reducible refine Below.chg ?_ (by assumption) (by first | (simp; done) | omega | (simp; omega))))))

theorem first_nil (d : Nat) (most : Int) (w : World) (S : Nat → Prop) (h : (dockA d most []).holds w S) : Calls Try.prog 103 #[.pointer (some ⟨d, 0, none⟩)] w (Ret w (.tuple #[.agg #[.int .i64 0, .string ByteArray.empty], .bool false])) := first_any d most [] w S h
theorem first_cons (d : Nat) (most : Int) (x : El) (l : List El) (w : World) (S : Nat → Prop) (h : (dockA d most (x :: l)).holds w S) : Calls Try.prog 103 #[.pointer (some ⟨d, 0, none⟩)] w (Ret w (.tuple #[.agg #[.int .i64 x.1, .string x.2], .bool true])) := first_any d most (x :: l) w S h
theorem row_some {w : World} {base size n : Nat} {v : Value} {xs : List Value} (h : Own w base size v n xs) (hn : 0 < n) : ∃ g o cap, v = .slice (some ⟨g, o, none⟩) n cap := by
  rcases h.2 with ⟨_, e⟩ | ⟨g, o, cap, e, _⟩
  · omega
  · exact ⟨g, o, cap, e⟩
set_option maxRecDepth 100000 in
theorem pull_nil (d : Nat) (most : Int) (w : World) (S : Nat → Prop) (h : (dockA d most []).holds w S) :
    Calls Try.prog 77 #[.pointer (some ⟨d, 0, none⟩)] w (Ret w (.tuple #[.agg #[.int .i64 0, .string ByteArray.empty], .bool false])) := by
  have H0 : St w S w [dockA d most []] := St.start (Sep.one h)
  obtain ⟨SX, hSX⟩ := (H0.skip (.cells #[.int .i64 0, .string ByteArray.empty] 45)).held 0 rfl
  have H1 := H0.alloc [.int .i64 0, .string ByteArray.empty] 45
  replace H1 := Lib.hid H1
  clear H0
  go_enter Try.func77, Try.ntmps77
  go_wp2_with fail
  refine Calls.mono (first_nil d most _ SX hSX) ?_
  rintro e w1 ⟨rfl, hb1⟩
  obtain ⟨zr, cr, fr⟩ := (H1.out.thru hb1).box 0 rfl
  go_wp2_with fail
  exact bodyPost_ret (v := .tuple #[.agg #[.int .i64 0, .string ByteArray.empty], .bool false]) (by simp [results, Try.results77, go_sem, cr, zr]) rfl (Ret.mk rfl (by repeat (first | with_reducible exact Below.refl _ _ | (with_reducible refine Below.al ?_) | (with_reducible refine Below.drew ?_) | (with_reducible refine Below.set ?_ (by first | (simp; done) | omega | (simp; omega))) | (with_reducible refine Below.thru ?_ (by assumption)) | (with_reducible refine Below.chg ?_ (by assumption) (by first | (simp; done) | omega | (simp; omega))))))
set_option maxRecDepth 100000 in
theorem pull_cons (d : Nat) (most : Int) (x : El) (l : List El) (w : World) (S : Nat → Prop) (h : (dockA d most (x :: l)).holds w S) :
    Calls Try.prog 77 #[.pointer (some ⟨d, 0, none⟩)] w (Fin w S (.tuple #[.agg #[.int .i64 x.1, .string x.2], .bool true]) [dockA d most l]) := by
  have H0 : St w S w [dockA d most (x :: l)] := St.start (Sep.one h)
  obtain ⟨SX, hSX⟩ := (H0.skip (.cells #[.int .i64 0, .string ByteArray.empty] 45)).held 0 rfl
  have H1 := H0.alloc [.int .i64 0, .string ByteArray.empty] 45
  have hd0 : d < w.heap.size := by
    obtain ⟨_, HP⟩ := dock_parts H0
    exact (HP.box 0 rfl).lt
  replace H0 := Lib.hid H0; replace H1 := Lib.hid H1
  go_enter Try.func77, Try.ntmps77
  go_wp2_with fail
  refine Calls.mono (first_cons d most x l _ SX hSX) ?_
  rintro e w1 ⟨rfl, hb1⟩
  have z1 := hb1.size
  simp only [World.size_alloc] at z1
  have n1 : ¬ d = w.heap.size := by omega
  have n2 : ¬ w.heap.size = d := by omega
  have n3 : ¬ d = w1.heap.size := by omega
  have n4 : ¬ w1.heap.size = d := by omega
  have n5 : ¬ w.heap.size = w1.heap.size := by omega
  have n6 : ¬ w1.heap.size = w.heap.size := by omega
  obtain ⟨v, H2⟩ := dock_parts ((H1.out.thru hb1).front 1 rfl)
  obtain ⟨g, o, cap, rfl⟩ := row_some (H2.row 1 rfl) (by simp)
  obtain ⟨z2, k2, f2⟩ := H2.box 0 rfl
  clear hSX
  have HA := H2.alloc [.int .i64 x.1, .string x.2] 45
  have hlen : (x :: l).length = l.length + 1 := rfl
  replace H2 := Lib.hid H2
  simp only [List.length_cons] at k2
  go_wp2_with fail
  obtain ⟨SR, hR, _, hback⟩ := HA.at 2 rfl
  refine Calls.mono (DelDg.delete_any g o (l.length + 1) cap 0 1 (encs (x :: l)) SR _ hR (by omega) (by omega) (encs_one _)) ?_
  rintro e w3 ⟨rfl, h3⟩
  have H3 := hback w3 _ h3
  rw [show (encs (x :: l)).take (0 * 2) ++ (encs (x :: l)).drop (1 * 2) = encs l from by rw [encs_drop]; simp, show 0 + (l.length + 1 - 1) = l.length from by omega] at H3
  clear HA hback h3 hR
  obtain ⟨z3, k3, f3⟩ := H3.box 2 rfl
  obtain ⟨zt, kt, ft⟩ := H3.box 1 rfl
  obtain ⟨zr, kr, fr⟩ := H3.box 3 rfl
  replace H3 := Lib.hid H3
  go_wp2_with fail
  refine bodyPost_ret (v := .tuple #[.agg #[.int .i64 x.1, .string x.2], .bool true]) (by simp [results, Try.results77, go_sem, kr, n1, n2]) rfl ?_
  have H4 := H3.out.set 2 rfl 0 (.slice (some ⟨g, o, none⟩) l.length cap) (by simp)
  refine ⟨rfl, dock_shut (v := .slice (some ⟨g, o, none⟩) l.length cap) (r := []) ?_⟩
  exact ((((((H4.front 3 rfl).set 0 rfl 0 _ (by simp))).set 0 rfl 1 _ (by simp))).drop 0 rfl).drop 2 rfl
theorem pull_none (w : World) : Calls Try.prog 77 #[.pointer none] w (Ret w (.tuple #[.agg #[.int .i64 0, .string ByteArray.empty], .bool false])) := by
  go_enter Try.func77, Try.ntmps77
  go_wp2_with fail
  refine Calls.mono (first_none _) ?_
  rintro e w1 ⟨rfl, hb1⟩
  have hz : val zero = .agg #[.int .i64 0, .string ByteArray.empty] := rfl
  rw [hz]
  have hr : Box w1 w.heap.size [.int .i64 0, .string ByteArray.empty] := (Box.new [.int .i64 0, .string ByteArray.empty] 45).below hb1
  obtain ⟨zr, cr, fr⟩ := hr
  go_wp2_with fail
  exact bodyPost_ret (v := .tuple #[.agg #[.int .i64 0, .string ByteArray.empty], .bool false]) (by simp [results, Try.results77, go_sem, cr, zr]) rfl (Ret.mk rfl (by repeat (first | with_reducible exact Below.refl _ _ | (with_reducible refine Below.al ?_) | (with_reducible refine Below.drew ?_) | (with_reducible refine Below.set ?_ (by first | (simp; done) | omega | (simp; omega))) | (with_reducible refine Below.thru ?_ (by assumption)) | (with_reducible refine Below.chg ?_ (by assumption) (by first | (simp; done) | omega | (simp; omega))))))
end Go.Proofs.Ytiaefmmcakagpaa.DockDg


/- The walks of the package dock at a type of struct elements: Clone, All. -/
namespace Go.Proofs.Ytiaefmmcakagpaa.DockWait
set_option linter.unusedSimpArgs false
set_option linter.unusedVariables false
open Go Go.RowKit Go.Proofs.Ytiaefmmcakagpaa Go.Proofs.Ytiaefmmcakagpaa.DelWait
attribute [local irreducible] Calls

set_option maxRecDepth 100000 in
/-- A slice laid anew. -/
theorem clone_any (l : List El) (a : Option Addr) (cap : Nat) (w : World) (h : Rd w a (encs l)) (h0 : a = none → l.length = 0) (hn : l.length ≤ 100000) (hc : a = none → cap = 0) :
    Calls Try.prog 101 #[.slice a l.length cap] w (fun e w' => ∃ v, e = .returned v ∧ St w none0 w' [rowA 3 v l.length (encs l)]) := by
  obtain ⟨i0, hi, hz, hz1, hz2⟩ := info_parts el_info
  have hsn := run_eql_snil (P := Try.prog) 125 _ Try.underlying125
  cases a with
  | none =>
    obtain rfl : l = [] := List.eq_nil_of_length_eq_zero (h0 rfl)
    obtain rfl := hc rfl
    clear h h0 hc
    go_enter Try.func101, Try.ntmps101
    go_wp2_with fail
    go_ret
    exact ⟨_, rfl, (St.zero w).row_nil⟩
  | some a =>
    have E1 := (St.zero w).alloc [] 98
    have E2 := E1.row_empty (size := 3) 0 rfl
    have hr := h.of_st E2
    clear h E1
    replace E2 := Lib.hid E2; replace hr := Lib.hid hr
    go_enter Try.func101, Try.ntmps101
    go_wp2_with (at_builtin; (refine wpList_appRd rfl (.tmp 5) (.tmp 6) _ rfl 98 i0 _ 3 32 Try.underlying125 hi hz hz1 hz2 rfl (by omega) 0 _ 0 [] rfl E2.out rfl _ l.length cap (encs l) rfl (encs_len l) hr.out (fun e => by cases e) (encs_one l) (by omega) (by omega) ?_; intro wv5 w5 HA; simp only [Nat.zero_add, List.nil_append] at HA; replace HA := Lib.hid HA))
    go_ret
    exact ⟨_, rfl, HA.out.drops 1⟩
theorem all_new (d : Nat) (w : World) : Calls Try.prog 71 #[.pointer (some ⟨d, 0, none⟩)] w (fun e w' => ∃ nb, e = .returned (.func (.func 100) #[] #[.pointer (some ⟨nb, 0, none⟩)]) ∧ St w none0 w' [cellA nb [.pointer (some ⟨d, 0, none⟩)]]) := by
  have H := (St.zero w).alloc [.pointer (some ⟨d, 0, none⟩)] 95
  replace H := Lib.hid H
  go_enter Try.func71, Try.ntmps71
  go_wp2_with fail
  go_ret
  exact ⟨_, rfl, H.out⟩
theorem all_none (w : World) : Calls Try.prog 71 #[.pointer none] w (fun e w' => ∃ nb, e = .returned (.func (.func 100) #[] #[.pointer (some ⟨nb, 0, none⟩)]) ∧ St w none0 w' [cellA nb [.pointer none]]) := by
  have H := (St.zero w).alloc [.pointer none] 95
  replace H := Lib.hid H
  go_enter Try.func71, Try.ntmps71
  go_wp2_with fail
  go_ret
  exact ⟨_, rfl, H.out⟩
end Go.Proofs.Ytiaefmmcakagpaa.DockWait

/- Rows that are made longer, and copies into their middle. -/
namespace Go.Proofs.Ytiaefmmcakagpaa
set_option linter.unusedSimpArgs false
set_option linter.unusedVariables false
open Go Go.RowKit Go.Lib

section
variable {w w' W : World} {S0 : Nat → Prop} {l : List Asn}
theorem Own.parts {base size n g o cap : Nat} {xs : List Value} (h : Own w base size (.slice (some ⟨g, o, none⟩) n cap) n xs) :
    xs.length = n * size ∧ base ≤ g ∧ g < w.heap.size ∧ n ≤ cap ∧ cap ≤ maxLen ∧ (∀ j u, xs[j]? = some u → w.cell? ⟨g, o + j, none⟩ = some u) ∧ ∀ j, j < cap * size → (w.cell? ⟨g, o + j, none⟩).isSome = true ∧ w.frozen? ⟨g, o + j, none⟩ = false := by
  obtain ⟨hl, h⟩ := h
  rcases h with ⟨h, _⟩ | ⟨g', o', cap', e, hb, hlt, hn, hc, hx, hr⟩
  · cases h
  · injection e with e1 e2 e3
    injection e1 with e1
    injection e1 with e4 e5
    subst e4 e5 e3
    exact ⟨hl, hb, hlt, hn, hc, hx, hr⟩
theorem shape_cell {b o : Nat} (h : (w.cell? ⟨b, o, none⟩).isSome = true) : ∃ t k, w.shape? b = some (t, k) ∧ k ≠ 0 := by
  unfold World.cell? at h
  unfold World.shape?
  cases hq : w.heap[b]? with
  | none => simp [hq] at h
  | some ob =>
    cases ob <;> simp [hq] at h
    rename_i c t fr
    refine ⟨t, c.size, rfl, ?_⟩
    omega
theorem Box.shape {b : Nat} {vs : List Value} (h : Box w b vs) (hn : vs ≠ []) : ∃ t, w.shape? b = some (t, vs.length) := by
  have h0 := h.cells
  unfold World.cell? at h0
  unfold World.shape?
  cases hq : w.heap[b]? with
  | none =>
    cases vs with
    | nil => exact absurd rfl hn
    | cons v vs => have := h0 0; simp [hq] at this
  | some ob =>
    cases ob with
    | cells c t fr =>
      refine ⟨t, ?_⟩
      have h1 : ∀ o, c[o]? = vs[o]? := fun o => by have := h0 o; simpa [hq] using this
      have h2 : c.size = vs.length := by
        have e : c.toList = vs := List.ext_getElem? fun i => by rw [← h1 i]; simp
        rw [← e]; simp
      simp [h2]
    | _ =>
      cases vs with
      | nil => exact absurd rfl hn
      | cons v vs => have := h0 0; simp [hq] at this
theorem list_pick {β : Type} {f : Nat → Option β} : ∀ n : Nat, (∀ i, i < n → (f i).isSome = true) → ∃ ys : List β, ys.length = n ∧ ∀ i u, ys[i]? = some u → f i = some u := fun n h =>
  list_of (p := fun i x => f i = some x) n fun i hi => Option.isSome_iff_exists.1 (h i hi)
/-- A row that is looked at further on. -/
theorem St.extend {size n g o cap m k : Nat} {xs : List Value} (H : St W S0 w l) (hk : l[k]? = some (rowA size (.slice (some ⟨g, o, none⟩) n cap) n xs)) (hm : n + m ≤ cap) :
    ∃ ys, ys.length = m * size ∧ St W S0 w (rowA size (.slice (some ⟨g, o, none⟩) (n + m) cap) (n + m) (xs ++ ys) :: l.eraseIdx k) := by
  have h := H.row k hk
  obtain ⟨hl, hb, hlt, hn, hc, hx, hr⟩ := h.parts
  have hle : (n + m) * size ≤ cap * size := Nat.mul_le_mul_right _ hm
  rw [Nat.add_mul] at hle
  obtain ⟨ys, h1, h2⟩ := list_pick (f := fun i => w.cell? ⟨g, o + (n * size + i), none⟩) (m * size) fun i hi => (hr _ (by omega)).1
  refine ⟨ys, h1, H.app k hk ⟨by rw [List.length_append, hl, h1, Nat.add_mul], .inr ⟨g, o, cap, rfl, hb, hlt, hm, hc, fun j u hu => ?_, hr⟩⟩ (World.grownBy.refl w _) (.inl rfl)⟩
  by_cases hj : j < xs.length
  · rw [List.getElem?_append_left hj] at hu
    exact hx j u hu
  · rw [List.getElem?_append_right (by omega)] at hu
    have := h2 _ u hu
    rw [show n * size + (j - xs.length) = j by omega] at this
    exact this
/-- A new block as a row with room. -/
theorem St.row_grown {size b n G : Nat} {vs : List Value} (i : Nat) (h : St W S0 w l) (hi : l[i]? = some (cellA b vs)) (hG : vs.length = G * size) (hn : n ≤ G) (hm : G ≤ maxLen) :
    St W S0 w (rowA size (.slice (some ⟨b, 0, none⟩) n G) n (vs.take (n * size)) :: l.eraseIdx i) := by
  obtain ⟨S1, ⟨a, a'⟩, _, c⟩ := h.at i hi
  have hle : n * size ≤ G * size := Nat.mul_le_mul_right _ hn
  refine c w [_] (St.start (Sep.one ⟨⟨by rw [List.length_take]; omega, .inr ⟨b, 0, G, rfl, Nat.zero_le _, a.lt, hn, hm, fun j u hu => ?_, fun j hj => ?_⟩⟩, fun x => by rw [a' x]; simp [Value.ownBlock, eq_comm]⟩))
  · rw [Nat.zero_add, a.cells]
    have hj : j < n * size := by
      have := (List.getElem?_eq_some_iff.1 hu).1
      rw [List.length_take] at this
      omega
    rwa [List.getElem?_take_of_lt hj] at hu
  · rw [Nat.zero_add, a.cells]
    exact ⟨by simp; omega, a.free _⟩
/-- 'copy(dst, src)' where dst leads into a row, and m elements go over. -/
theorem run_copyAt {P : Program} (t ty e : TypeId) (i0 : TypeInfo) (ht : P.underlying t = some (.slice e)) (hi0 : P.info? e = some i0) {size : Nat} (hsize : i0.size = size)
    {n g o cap k : Nat} {xs : List Value} (H : St W S0 w l) (hk : l[k]? = some (rowA size (.slice (some ⟨g, o, none⟩) n cap) n xs))
    (p m dn dc sn sc : Nat) (ad : Addr) (hm : m = Nat.min sn dn) (hp : p + m ≤ n) (news : List Value) (hl : news.length = m * size)
    (hnews : ∀ j u, news[j]? = some u → w.cell? (ad.add j) = some u) (h1 : ∀ u ∈ news, u.oneCell' = true) :
    ∃ w', (Builtin.copy_ #[t, t] ty #[.slice (some ⟨g, o + p * size, none⟩) dn dc, .slice (some ad) sn sc]).run P w = .ok (goInt m) w' ∧
      St W S0 w' (rowA size (.slice (some ⟨g, o, none⟩) n cap) n (xs.take (p * size) ++ news ++ xs.drop (p * size + news.length)) :: l.eraseIdx k) := by
  subst hsize
  obtain ⟨hlen, hb, hlt, hn, hc, hx, hr⟩ := (H.row k hk).parts
  have hpm : (p + m) * i0.size ≤ n * i0.size := Nat.mul_le_mul_right _ hp
  have hnc : n * i0.size ≤ cap * i0.size := Nat.mul_le_mul_right _ hn
  rw [Nat.add_mul] at hpm
  have hS := H.over (p := p * i0.size) (news := news) hk (by omega)
  have hll := run_loadCells_list (P := P) w ad news hnews
  have hst := run_storeCells_cells (P := P) g (o + p * i0.size) news 0 w (fun j hj => by rw [Nat.add_zero, Nat.add_assoc]; exact (hr _ (by omega)).1) (fun j hj => by rw [Nat.add_zero, Nat.add_assoc]; exact (hr _ (by omega)).2) h1
  rw [Nat.add_zero] at hst
  refine ⟨_, ?_, hS⟩
  simp [Builtin.copy_, run_underlying ht, Builtin.lenOf, Builtin.firstCells, sizeOf, typeInfo, hi0, ← hm, ← hl, hll, hst]
theorem wpList_copy_run {P : Program} (w : World) {ops : Array Oper} {rest : List Oper} {o : Oper} {a : Act} {Q : Exit → Act → World → Prop} (hgd : o.guard = none) (d s : Operand) (t t' : TypeId)
    (ho : o.op = .call { callee := .builtin .copy, args := #[d, s], argTypes := #[t, t'] }) (v u : Value) (hd : a.eval d = v) (hs : a.eval s = u) {v' : Value} {w' : World}
    (hr : (Builtin.copy_ #[t, t'] o.type #[v, u]).run P w = .ok v' w') (h : wpList P ops Q rest (a.put o.dst v') w') : wpList P ops Q (o :: rest) a w :=
  wpList_plain hgd fun _ hK => by
    unfold Oper.wp execOp
    simp only [ho, resolve, invoke, builtin, Sem.run_bind, Sem.run_pure, Result.andThen_ok, List.map_toArray, List.map_cons, List.map_nil, hd, hs, hr]
    exact hK _ _ h
theorem step_copy_run {P : Program} {ops : Array Oper} {o : Oper} {a : Act} {w : World} {K : Act → World → Prop} {Q : Exit → Act → World → Prop} {E : Prop}
    (hg : o.guard = none) (d x : Operand) (dT sT : TypeId) (hop : o.op = Op.call { callee := Callee.builtin Builtin.copy, args := #[d, x], argTypes := #[dT, sT] })
    (v u : Value) (hd : a.eval d = v) (hx : a.eval x = u) {v' : Value} {w' : World} (hr : (Builtin.copy_ #[dT, sT] o.type #[v, u]).run P w = .ok v' w') (hK : K (a.put o.dst v') w') :
    if Region.wanted o (yielded ops a.tmps) = true then Oper.wp P o a w K Q else E := by
  have hw : Region.wanted o (yielded ops a.tmps) = true := by simp [Region.wanted, hg]
  rw [if_pos hw]
  unfold Oper.wp
  simp [execOp, hop, resolve, invoke, builtin, hd, hx, hr, Result.andThen]
  exact hK
/-- 'append(s[:i], make(S, m)...)' where the room does not serve. -/
theorem run_appMake {P : Program} (t tn e : TypeId) (i0 : TypeInfo) (z : Value) (kq kn : IntKind) (ht : P.underlying t = some (.slice e)) (htn : P.underlying tn = some (.int kn)) (hi0 : P.info? e = some i0) (hz : i0.zero = some z)
    {size bytes : Nat} (hsize : i0.size = size) (hby : i0.bytes = bytes) (hzs : z.cells.size = size) (hsz : 0 < size) {n g o cap k : Nat} {xs : List Value} (H : St W S0 w l) (hk : l[k]? = some (rowA size (.slice (some ⟨g, o, none⟩) n cap) n xs))
    (i m : Nat) (hi : i ≤ n) (hm : 0 < m) (hcap : cap < i + m) (hbig : i + m ≤ 1000000000) (hbs : bytes ≤ 100000) :
    ∃ G w', (∀ ty, (Builtin.append_ #[t, tn] ty #[.slice (some ⟨g, o, none⟩) i cap, .int kq m]).run P w = .ok (.slice (some ⟨w.heap.size, 0, none⟩) (i + m) G) w') ∧ i + m ≤ G ∧ G ≤ maxLen ∧ Below w.heap.size w w' ∧ w'.heap.size = w.heap.size + 1 ∧
      ∃ ys, ys.length = m * size ∧ St W S0 w' (rowA size (.slice (some ⟨w.heap.size, 0, none⟩) (i + m) G) (i + m) (xs.take (i * size) ++ ys) :: l) := by
  subst hsize hby
  obtain ⟨hlen, hb, hlt, hn, hc, hx, hr⟩ := (H.row k hk).parts
  have hle : i * i0.size ≤ n * i0.size := Nat.mul_le_mul_right _ hi
  have hbb : (i + m) * i0.bytes ≤ 1000000000 * 100000 := Nat.mul_le_mul hbig hbs
  have hmb : m * i0.bytes ≤ (i + m) * i0.bytes := Nat.mul_le_mul_right _ (by omega)
  have hold : (Builtin.firstCells i0.size i (.slice (some ⟨g, o, none⟩) i cap)).run P w.drew = .ok (xs.take (i * i0.size)).toArray w.drew :=
    run_firstCells_some w.drew i0.size i ⟨g, o, none⟩ i cap (xs.take (i * i0.size)) (by rw [List.length_take]; omega) (fun j v hj => by
      rw [Addr.add_lit]
      have : j < i * i0.size := by
        have := (List.getElem?_eq_some_iff.1 hj).1
        rw [List.length_take] at this
        omega
      rw [List.getElem?_take_of_lt this] at hj
      exact hx j v hj)
  have hrun := fun ty => Lib.run_append_grow_zeros w t tn ty e i0 z kq kn ht htn hi0 hz (some ⟨g, o, none⟩) i cap (xs.take (i * i0.size)) hold m hm hsz hcap (by omega) (by omega) (growslice_fits hcap (by omega))
  have hGn : i + m ≤ grownCap w (i + m) cap e := grownCap_ge w _ _ _
  have hGm : grownCap w (i + m) cap e ≤ maxLen := grownCap_le_maxLen w (i + m) cap e (by unfold maxLen; omega)
  have hzl : ∀ q, (Builtin.zeroCells z.cells q).toList.length = q * i0.size := fun q => by simp [Builtin.zeroCells, hzs]
  have htl : (xs.take (i * i0.size)).length = i * i0.size := by rw [List.length_take]; omega
  have hA := H.drew.alloc (xs.take (i * i0.size) ++ (Builtin.zeroCells z.cells m).toList ++ (Builtin.zeroCells z.cells (grownCap w (i + m) cap e - (i + m))).toList) e
  have hR := hA.row_grown (size := i0.size) (n := i + m) (G := grownCap w (i + m) cap e) 0 rfl (by
    rw [List.length_append, List.length_append, hzl, hzl, htl, ← Nat.add_mul, ← Nat.add_mul]
    congr 1
    omega) hGn hGm
  have he : (xs.take (i * i0.size) ++ (Builtin.zeroCells z.cells m).toList ++ (Builtin.zeroCells z.cells (grownCap w (i + m) cap e - (i + m))).toList).take ((i + m) * i0.size) = xs.take (i * i0.size) ++ (Builtin.zeroCells z.cells m).toList := by
    have h0 : (xs.take (i * i0.size) ++ (Builtin.zeroCells z.cells m).toList).length = (i + m) * i0.size := by rw [List.length_append, hzl, htl, Nat.add_mul]
    rw [List.take_append_of_le_length (by omega), List.take_of_length_le (by omega)]
  rw [he] at hR
  have hE : (xs.take (i * i0.size) ++ (Builtin.zeroCells z.cells m).toList ++ (Builtin.zeroCells z.cells (grownCap w (i + m) cap e - (i + m))).toList).toArray = (xs.take (i * i0.size)).toArray ++ Builtin.zeroCells z.cells m ++ Builtin.zeroCells z.cells (grownCap w (i + m) cap e - (i + m)) := by
    apply Array.ext'
    simp
  rw [hE] at hR
  exact ⟨grownCap w (i + m) cap e, _, hrun, hGn, hGm, ((Below.refl _ _).drew).alloc (Nat.le_refl _) _, by simp, _, hzl m, hR⟩
end
end Go.Proofs.Ytiaefmmcakagpaa


/- The walk of slices.Insert of one element into the middle of a row of the call's own. -/
namespace Go.Proofs.Ytiaefmmcakagpaa.InsWait
set_option linter.unusedSimpArgs false
set_option linter.unusedVariables false
open Go Go.RowKit Go.Proofs.Ytiaefmmcakagpaa Go.Proofs.Ytiaefmmcakagpaa.DelWait
attribute [local irreducible] Calls

theorem apart_any (w : World) (q g o la ca lb cb : Nat) (new : List Value) (hq : Box w q new) (hn : new ≠ []) (hne : q ≠ g) (hg : ∃ p, (w.cell? ⟨g, p, none⟩).isSome = true) :
    (callFunc 111 #[.slice (some ⟨q, 0, none⟩) la ca, .slice (some ⟨g, o, none⟩) lb cb]).run Try.prog w = .ok (.value (.bool false)) w := by
  obtain ⟨i0, hi, hz, hz1, hz2⟩ := info_parts el_info
  obtain ⟨tA, hsa⟩ := hq.shape hn
  obtain ⟨p, hp⟩ := hg
  obtain ⟨tB, kB, hsb, hkB⟩ := shape_cell hp
  rw [run_callFunc_extern Try.func111 (by kernel_rfl) (by kernel_rfl) (by kernel_rfl) (e := Extern.SlicesOverlaps.overlaps #[125, 125] #[4]) (by kernel_rfl),
    Lib.run_overlaps_apart w 125 4 98 Try.underlying125 3 (fun w => by simp [sizeOf, typeInfo, hi, hz1, Sem.run_bind, Sem.run_pure, Result.andThen, go_sem]) ⟨q, 0, none⟩ ⟨g, o, none⟩ la ca lb cb hne tA tB _ kB hsa hsb hkB (hq.free 0) (hq.free _)]
  rfl

set_option maxRecDepth 100000 in
set_option maxHeartbeats 800000 in
theorem insert_grow (g o n cap i q : Nat) (xs new : List Value) (S : Nat → Prop) (w : World) (hr : (rowA 3 (.slice (some ⟨g, o, none⟩) n cap) n xs).holds w S) (hi : i < n) (hsm : n ≤ 100000) (hcap : cap < n + 1)
    (h1 : ∀ u ∈ xs, u.oneCell' = true) (hq : Box w q new) (hnl : new.length = 3) (h2 : ∀ u ∈ new, u.oneCell' = true) (hns : ¬ S q) :
    Calls Try.prog 96 #[.slice (some ⟨g, o, none⟩) n cap, .int .i64 (i : Int), .slice (some ⟨q, 0, none⟩) 1 1] w fun e w' =>
      ∃ v', e = .returned v' ∧ St w S w' [rowA 3 v' (n + 1) (xs.take (i * 3) ++ new ++ xs.drop (i * 3))] := by
  obtain ⟨i0, hi0, hz, hz1, hz2⟩ := info_parts el_info
  have H0 : St w S w [rowA 3 (.slice (some ⟨g, o, none⟩) n cap) n xs] := St.start (Sep.one hr)
  obtain ⟨hlen, _, hlt, hnc, hcm, hx, hrm⟩ := (H0.row 0 rfl).parts
  unfold maxLen at hcm
  obtain ⟨G, w1, hrun, hG1, hG2, hB, hsz, ys, hys, H1⟩ := run_appMake (P := Try.prog) (n := n) (g := g) (o := o) (cap := cap) (xs := xs) (k := 0) 125 3 98 i0 _ .i64 .i64 Try.underlying125 Try.underlying3 hi0 hz hz1 hz2 rfl (by omega) H0 rfl i (n + 1 - i) (by omega) (by omega) (by omega) (by omega) (by omega)
  rw [show i + (n + 1 - i) = n + 1 by omega] at hrun H1 hG1
  unfold maxLen at hG2
  have hq1 := hq.below hB
  -- the first copy
  obtain ⟨w2, hc1, H2⟩ := run_copyAt (P := Try.prog) 125 3 98 i0 Try.underlying125 hi0 hz1 H1 (k := 0) rfl i 1 (n + 1 - i) (G - i) 1 1 ⟨q, 0, none⟩ (by simp only [Nat.min_def]; split <;> omega) (by omega) new (by omega) (fun j u hu => by rw [Addr.add_lit, hq1.cells, Nat.zero_add]; exact hu) h2
  have hL1 : (xs.take (i * 3) ++ ys).take (i * 3) ++ new ++ (xs.take (i * 3) ++ ys).drop (i * 3 + new.length) = xs.take (i * 3) ++ new ++ ys.drop 3 := by
    have ht : (xs.take (i * 3)).length = i * 3 := by rw [List.length_take]; omega
    rw [List.take_append_of_le_length (by omega), List.take_take, Nat.min_self, hnl, List.drop_append, ht, List.drop_of_length_le (by omega), List.nil_append, show i * 3 + 3 - i * 3 = 3 by omega]
  rw [hL1] at H2
  obtain ⟨Y, hY⟩ : ∃ Y, Y = xs.take (i * 3) ++ new ++ ys.drop 3 := ⟨_, rfl⟩
  rw [← hY] at H2
  simp only [List.eraseIdx_cons_zero, List.eraseIdx_cons_succ] at H2
  replace hY := Lib.hid hY
  clear hL1 H1 hB hsz hq1 hx
  have hkk : (n : Int) + 1 - (i : Int) = ((n + 1 - i : Nat) : Int) := by omega
  have b1 : decide ((cap : Int) < (n : Int) + 1) = true := decide_eq_true (by omega)
  have b2 : decide ((i : Int) = (n : Int)) = false := decide_eq_false (by omega)
  have b3 : ((i : Int) == (n : Int)) = false := by simp; omega
  have htn : ((i : Int) + 1).toNat = i + 1 := by omega
  have hb1 : (0 : Int) ≤ (i : Int) + 1 := by omega
  have hin : i ≤ n := by omega
  have hb3 : (i : Int) ≤ (n : Int) := by omega
  have hGi : ¬ (G = i) := by omega
  have hGim : ¬ (G = i + 1) := by omega
  have hci : ¬ (cap = i) := by omega
  rw [← hkk] at hrun
  simp only [Nat.zero_add] at hc1
  try simp only [Nat.mul_one] at hc1
  replace hlen := Lib.hid hlen
  replace hys := Lib.hid hys
  replace hkk := Lib.hid hkk
  replace hnl := Lib.hid hnl
  replace H0 := Lib.hid H0; replace H2 := Lib.hid H2
  go_enter Try.func96, Try.ntmps96
  go_wp2_with (first
    | (at_builtin; refine Lib.wpList_append_run _ rfl _ _ _ _ rfl _ _ rfl rfl _ _ (hrun _) ?_)
    | (at_builtin; refine wpList_copy_run _ rfl _ _ _ _ rfl _ _ rfl rfl hc1 ?_))
  haveI := H2.out.ne
  refine wp_region_cls_tail 8 (by kernel_rfl) (by kernel_rfl) H2.out ?_
  simp only [List.take_succ_cons, List.take_zero, List.drop_succ_cons, List.drop_zero]
  repeat (go_big_quiet_step (fail))
  refine wpQuiet_nil ?_
  intro w3 H3
  obtain ⟨hxl, _, _, _, _, hx, _⟩ := (H3.row 1 rfl).parts
  have hle : i * 3 + 3 ≤ n * 3 := by omega
  have hdl : (xs.drop (i * 3)).length = (n - i) * 3 := by rw [List.length_drop, hxl]; omega
  obtain ⟨w4, hc2, H4⟩ := run_copyAt (P := Try.prog) 125 3 98 i0 Try.underlying125 hi0 hz1 H3 (k := 0) rfl (i + 1) (n - i) (n - i) (G - (i + 1)) (n - i) (cap - i) ⟨g, o + i * 3, none⟩ (by simp only [Nat.min_def]; split <;> omega) (by omega) (xs.drop (i * 3)) hdl (fun j u hu => by rw [Addr.add_lit, Nat.add_assoc]; exact hx _ _ (by rwa [List.getElem?_drop] at hu)) (fun u hu => h1 u (List.mem_of_mem_drop hu))
  have hL2 : (xs.take (i * 3) ++ new ++ ys.drop 3).take ((i + 1) * 3) ++ xs.drop (i * 3) ++ (xs.take (i * 3) ++ new ++ ys.drop 3).drop ((i + 1) * 3 + (xs.drop (i * 3)).length) = xs.take (i * 3) ++ new ++ xs.drop (i * 3) := by
    have ht : (xs.take (i * 3) ++ new).length = (i + 1) * 3 := by rw [List.length_append, List.length_take, hnl.out]; omega
    have hyl : (ys.drop 3).length = (n - i) * 3 := by rw [List.length_drop, hys.out]; omega
    have hll : (xs.take (i * 3) ++ new ++ ys.drop 3).length = (i + 1) * 3 + (xs.drop (i * 3)).length := by rw [List.length_append, ht, hyl, hdl]
    rw [List.take_left' ht, List.drop_of_length_le (Nat.le_of_eq hll), List.append_nil]
  rw [hY.out, hL2] at H4
  simp only [Nat.zero_add] at hc2
  try simp only [Nat.mul_one] at hc2
  clear hx hle hxl hdl hL2 H3
  replace H4 := Lib.hid H4
  refine wpList_copy_run _ rfl _ _ _ _ rfl _ _ rfl rfl hc2 ?_
  go_wp2_with fail
  go_ret
  exact ⟨_, rfl, H4.out.drops 1⟩
set_option maxRecDepth 100000 in
set_option maxHeartbeats 800000 in
theorem insert_room (g o n cap i q : Nat) (xs new : List Value) (S : Nat → Prop) (w : World) (hr : (rowA 3 (.slice (some ⟨g, o, none⟩) n cap) n xs).holds w S) (hi : i < n) (hsm : n ≤ 100000) (hcap : n + 1 ≤ cap)
    (h1 : ∀ u ∈ xs, u.oneCell' = true) (hq : Box w q new) (hnl : new.length = 3) (h2 : ∀ u ∈ new, u.oneCell' = true) (hns : ¬ S q) :
    Calls Try.prog 96 #[.slice (some ⟨g, o, none⟩) n cap, .int .i64 (i : Int), .slice (some ⟨q, 0, none⟩) 1 1] w fun e w' =>
      ∃ v', e = .returned v' ∧ St w S w' [rowA 3 v' (n + 1) (xs.take (i * 3) ++ new ++ xs.drop (i * 3))] := by
  obtain ⟨i0, hi0, hz, hz1, hz2⟩ := info_parts el_info
  have H0 : St w S w [rowA 3 (.slice (some ⟨g, o, none⟩) n cap) n xs] := St.start (Sep.one hr)
  obtain ⟨hlen, _, hlt, hnc, hcm, hx, hrm⟩ := (H0.row 0 rfl).parts
  unfold maxLen at hcm
  have hne : q ≠ g := fun e => hns (by rw [e]; exact (hr.2 g).2 rfl)
  have hov : ∀ lb cb, (callFunc 111 #[.slice (some ⟨q, 0, none⟩) 1 1, .slice (some ⟨g, o + (i + 1) * 3, none⟩) lb cb]).run Try.prog w = .ok (.value (.bool false)) w := fun lb cb =>
    apart_any w q g _ 1 1 lb cb new hq (fun e => by rw [e] at hnl; simp at hnl) hne ⟨_, (hrm 0 (by omega)).1⟩
  obtain ⟨ys, hys, H1⟩ := H0.extend (m := 1) (k := 0) rfl hcap
  simp only [List.eraseIdx_cons_zero, List.eraseIdx_cons_succ] at H1
  have b1 : decide ((cap : Int) < (n : Int) + 1) = false := decide_eq_false (by omega)
  have b2 : decide ((i : Int) = (n : Int)) = false := decide_eq_false (by omega)
  have b3 : ((i : Int) == (n : Int)) = false := by simp; omega
  have htn : ((i : Int) + 1).toNat = i + 1 := by omega
  have hb1 : (0 : Int) ≤ (i : Int) + 1 := by omega
  have hin : i ≤ n := by omega
  have hb3 : (i : Int) ≤ (n : Int) := by omega
  have hb4 : (i : Int) ≤ (n : Int) + 1 := by omega
  have hb5 : (i : Int) + 1 ≤ (n : Int) + 1 := by omega
  have hci : ¬ (cap = i) := by omega
  have hci2 : ¬ (cap = i + 1) := by omega
  clear hx hrm
  obtain ⟨Y, hY⟩ : ∃ Y, Y = xs ++ ys := ⟨_, rfl⟩
  rw [← hY] at H1
  replace hY := Lib.hid hY
  replace hlen := Lib.hid hlen
  replace hys := Lib.hid hys
  replace hnl := Lib.hid hnl
  try simp only [Nat.mul_one] at hov
  replace H0 := Lib.hid H0; replace H1 := Lib.hid H1
  go_enter Try.func96, Try.ntmps96
  go_wp2_with (simp only [hov])
  haveI := H1.out.ne
  refine wp_region_cls_tail 8 (by kernel_rfl) (by kernel_rfl) H1.out ?_
  simp only [List.take_succ_cons, List.take_zero, List.drop_succ_cons, List.drop_zero]
  repeat (go_big_quiet_step (fail))
  refine wpQuiet_nil ?_
  intro w3 H3
  have hle : i * 3 + 3 ≤ n * 3 := by omega
  have hdl : (xs.drop (i * 3)).length = (n - i) * 3 := by rw [List.length_drop, hlen.out]; omega
  obtain ⟨hxl, _, _, _, _, hx, _⟩ := (H3.row 0 rfl).parts
  obtain ⟨w4, hc2, H4⟩ := run_copyAt (P := Try.prog) 125 3 98 i0 Try.underlying125 hi0 hz1 H3 (k := 0) rfl (i + 1) (n - i) (n - i) (cap - (i + 1)) (n + 1 - i) (cap - i) ⟨g, o + i * 3, none⟩ (by simp only [Nat.min_def]; split <;> omega) (by omega) (xs.drop (i * 3)) hdl (fun j u hu => by
      rw [Addr.add_lit, Nat.add_assoc]
      refine hx _ _ ?_
      rw [List.getElem?_drop] at hu
      rw [hY.out, List.getElem?_append_left (List.getElem?_eq_some_iff.1 hu).1]
      exact hu) (fun u hu => h1 u (List.mem_of_mem_drop hu))
  simp only [List.eraseIdx_cons_zero, List.eraseIdx_cons_succ] at H4
  have hY2 : (Y.take ((i + 1) * 3) ++ xs.drop (i * 3)).length = Y.length := by
    rw [hY.out, List.length_append, List.length_take, List.length_append, hdl, hlen.out, hys.out]
    omega
  have hY3 : Y.take ((i + 1) * 3) ++ xs.drop (i * 3) ++ Y.drop ((i + 1) * 3 + (xs.drop (i * 3)).length) = Y.take ((i + 1) * 3) ++ xs.drop (i * 3) := by
    have hd0 : Y.drop ((i + 1) * 3 + (xs.drop (i * 3)).length) = [] := List.drop_of_length_le (by rw [hdl, hxl]; omega)
    rw [hd0, List.append_nil]
  rw [hY3] at H4
  have hq4 : ∀ j, w4.cell? ⟨q, j, none⟩ = new[j]? := fun j => ((H4.old hq.lt hns).1 j).trans (hq.cells j)
  obtain ⟨w5, hc5, H5⟩ := run_copyAt (P := Try.prog) 125 3 98 i0 Try.underlying125 hi0 hz1 H4 (k := 0) rfl i 1 (n + 1 - i) (cap - i) 1 1 ⟨q, 0, none⟩ (by simp only [Nat.min_def]; split <;> omega) (by omega) new (by rw [hnl.out]) (fun j u hu => by rw [Addr.add_lit, Nat.zero_add, hq4]; exact hu) h2
  simp only [List.eraseIdx_cons_zero, List.eraseIdx_cons_succ] at H5
  have hE : (Y.take ((i + 1) * 3) ++ xs.drop (i * 3)).take (i * 3) ++ new ++ (Y.take ((i + 1) * 3) ++ xs.drop (i * 3)).drop (i * 3 + new.length) = xs.take (i * 3) ++ new ++ xs.drop (i * 3) := by
    have hyt : (Y.take ((i + 1) * 3)).length = i * 3 + new.length := by rw [List.length_take, hxl, hnl.out]; omega
    rw [List.drop_left' hyt, List.take_append_of_le_length (by rw [hyt]; omega), List.take_take, Nat.min_eq_left (by omega), hY.out, List.take_append_of_le_length (by have := hlen.out; omega)]
  rw [hE] at H5
  clear hE hY2 hY3 hq4 hx hxl hdl hle H3 H4
  replace H5 := Lib.hid H5
  try simp only [Nat.mul_one] at hc2 hc5
  refine wpList_copy_run _ rfl _ _ _ _ rfl _ _ rfl rfl hc2 ?_
  go_wp2_with fail
  go_ret
  exact ⟨_, rfl, H5.out⟩
set_option maxRecDepth 100000 in
set_option maxHeartbeats 400000 in
theorem insert_end (v : Value) (n q : Nat) (xs new : List Value) (S : Nat → Prop) (w : World) (hr : (rowA 3 v n xs).holds w S) (hsm : n ≤ 100000)
    (hq : Rd w (some ⟨q, 0, none⟩) new) (hnl : new.length = 3) (h2 : ∀ u ∈ new, u.oneCell' = true) :
    Calls Try.prog 96 #[v, .int .i64 (n : Int), .slice (some ⟨q, 0, none⟩) 1 1] w (fun e w' => ∃ v', e = .returned v' ∧ St w S w' [rowA 3 v' (n + 1) (xs ++ new)]) := by
  obtain ⟨i0, hi, hz, hz1, hz2⟩ := info_parts el_info
  have H := St.start (Sep.one hr)
  obtain ⟨a, cap, rfl, hn, hcm, ha0, hR⟩ := St.slice (by omega) 0 H rfl
  clear hr hR ha0
  replace hnl := Lib.hid hnl
  replace H := Lib.hid H; replace hq := Lib.hid hq
  go_enter Try.func96, Try.ntmps96
  go_wp2_with (at_builtin; (refine wpList_appRd rfl (.tmp 23) (.tmp 24) _ rfl 98 i0 _ 3 32 Try.underlying125 hi hz hz1 hz2 rfl (by omega) 0 _ n xs rfl H.out rfl _ 1 1 new rfl (by rw [hnl.out]) hq.out (by simp) h2 (by omega) (by omega) ?_; intro wv6 w6 HC; replace HC := Lib.hid HC))
  all_goals
    go_ret
    exact ⟨_, rfl, HC.out⟩
theorem insert_any (v : Value) (n i q : Nat) (xs new : List Value) (S : Nat → Prop) (w : World) (hr : (rowA 3 v n xs).holds w S) (hi : i ≤ n) (hsm : n ≤ 100000)
    (h1 : ∀ u ∈ xs, u.oneCell' = true) (hq : Box w q new) (hnl : new.length = 3) (h2 : ∀ u ∈ new, u.oneCell' = true) (hns : ¬ S q) :
    Calls Try.prog 96 #[v, .int .i64 (i : Int), .slice (some ⟨q, 0, none⟩) 1 1] w fun e w' =>
      ∃ v', e = .returned v' ∧ St w S w' [rowA 3 v' (n + 1) (xs.take (i * 3) ++ new ++ xs.drop (i * 3))] := by
  have hl : xs.length = n * 3 := hr.1.1
  by_cases he : i = n
  · subst he
    rw [List.take_of_length_le (by omega), List.drop_of_length_le (by omega), List.append_nil]
    exact insert_end v i q xs new S w hr hsm hq.rd hnl h2
  · have hr' := hr
    rcases hr.1.2 with ⟨rfl, rfl⟩ | ⟨g, o, cap, rfl, _⟩
    · omega
    · by_cases hc : n + 1 ≤ cap
      · exact insert_room g o n cap i q xs new S w hr (by omega) hsm hc h1 hq hnl h2 hns
      · exact insert_grow g o n cap i q xs new S w hr (by omega) hsm (by omega) h1 hq hnl h2 hns
end Go.Proofs.Ytiaefmmcakagpaa.InsWait


/- The walks of slices.IndexFunc and of the dock's Place over struct elements. -/
namespace Go.Proofs.Ytiaefmmcakagpaa.DockWait
set_option linter.unusedSimpArgs false
set_option linter.unusedVariables false
open Go Go.RowKit Go.Proofs.Ytiaefmmcakagpaa Go.Proofs.Ytiaefmmcakagpaa.DelWait
attribute [local irreducible] Calls

set_option maxRecDepth 100000 in
set_option maxHeartbeats 400000 in
theorem index_any (l : List El) (n : Nat) (hl : l.length = n) (hn : n ≤ 1000000) (a : Option Addr) (cap : Nat) (w : World) (h : Rd w a (encs l)) (G : Nat) (caps : Array Value) (hG : ∀ args w, (callFunc G args).run Try.prog w = .ok (.enter G args) w) (pr : El → Bool)
    (hcall : ∀ (x : El) (w' : World), Below w.heap.size w w' → Calls Try.prog G (#[val x] ++ caps) w' (Ret w' (.bool (pr x)))) :
    Calls Try.prog 95 #[.slice a n cap, .func (.func G) #[] caps] w (Ret w (.int .i64 (idxF pr l))) := by
  replace h := Lib.hid h; replace hl := Lib.hid hl; replace hcall := Lib.hid hcall
  go_enter Try.func95, Try.ntmps95
  go_wp2_with fail
  go_loopg [5, 8] n (fun g _ i wr => ∃ j : Nat, j ≤ n ∧ g = n - j ∧ i = .int .i64 j ∧ Hid (∀ k (hk : k < l.length), k < j → pr l[k] = false) ∧ Below w.heap.size w wr)
  case atStart => exact ⟨0, by omega, by omega, rfl, (fun k hk h => by omega), (by repeat (first | with_reducible exact Below.refl _ _ | (with_reducible refine Below.al ?_) | (with_reducible refine Below.drew ?_) | (with_reducible refine Below.set ?_ (by first | (simp; done) | omega | (simp; omega))) | (with_reducible refine Below.thru ?_ (by assumption)) | (with_reducible refine Below.chg ?_ (by assumption) (by first | (simp; done) | omega | (simp; omega)))))⟩
  case round =>
    obtain ⟨j, hj, hg, rfl, hno, hbw⟩ := hrel
    by_cases hlt : j < n
    · have hjl : j < l.length := by have := hl.out; omega
      obtain ⟨b, off, rfl, hb, hc⟩ := Rd.rows enc_len (by omega) (h.out.below hbw) hl.out (by omega)
      obtain ⟨u, hu⟩ : ∃ u, u = l[j] := ⟨_, rfl⟩
      have e0 := hc j hjl
      rw [← hu] at e0
      have e00 := e0 0 _ rfl; try simp only [Nat.add_zero] at e00
      have e01 := e0 1 _ rfl; try simp only [Nat.add_zero] at e01
      have e02 := e0 2 _ rfl; try simp only [Nat.add_zero] at e02
      have P := hcall.out u wr hbw
      unfold val at P
      have hit : pr u = true → idxF pr l = (j : Int) := fun h => idx_some hjl (by rw [← hu]; exact h) (fun k hk hkj => hno.out k hk hkj)
      have hnx : pr u = false → ∀ k (hk : k < l.length), k < j + 1 → pr l[k] = false := fun h0 k hk h1 => by
        by_cases e : k = j
        · subst e; rw [← hu]; exact h0
        · exact hno.out k hk (by omega)
      clear hc e0 hu
      cases hb0 : pr u with
      | true =>
        rw [hb0] at P
        replace hit := Lib.hid (hit hb0)
        clear hnx
        replace P := Lib.hid P; replace hb0 := Lib.hid hb0
        go_wp2_with fail
        refine Calls.mono (P.out) ?_
        rintro e w1 ⟨rfl, hb1⟩
        have z1 := Below.size hb1; try simp only [World.size_alloc, World.size_setCell, World.size_drew] at z1
        clear P
        go_wp2_with fail
        go_ret
        exact Ret.mk (by rw [hit.out]; rfl) (by repeat (first | with_reducible exact Below.refl _ _ | (with_reducible refine Below.al ?_) | (with_reducible refine Below.drew ?_) | (with_reducible refine Below.set ?_ (by first | (simp; done) | omega | (simp; omega))) | (with_reducible refine Below.thru ?_ (by assumption)) | (with_reducible refine Below.chg ?_ (by assumption) (by first | (simp; done) | omega | (simp; omega)))))
      | false =>
        rw [hb0] at P
        replace hnx := Lib.hid (hnx hb0)
        clear hit
        replace P := Lib.hid P; replace hb0 := Lib.hid hb0
        go_wp2_with fail
        refine Calls.mono (P.out) ?_
        rintro e w1 ⟨rfl, hb1⟩
        have z1 := Below.size hb1; try simp only [World.size_alloc, World.size_setCell, World.size_drew] at z1
        clear P
        go_wp2_with fail
        go_roundg (n - (j + 1))
        case measure => omega
        case rel => exact ⟨j + 1, by omega, rfl, by go_num, hnx.out, (by repeat (first | with_reducible exact Below.refl _ _ | (with_reducible refine Below.al ?_) | (with_reducible refine Below.drew ?_) | (with_reducible refine Below.set ?_ (by first | (simp; done) | omega | (simp; omega))) | (with_reducible refine Below.thru ?_ (by assumption)) | (with_reducible refine Below.chg ?_ (by assumption) (by first | (simp; done) | omega | (simp; omega)))))⟩
    · obtain rfl : j = n := by omega
      have hf : idxF pr l = -1 := idx_none (fun i hi => hno.out i hi (by have := hl.out; omega))
      replace hf := Lib.hid hf
      go_wp2_with fail
      go_ret
      exact Ret.mk (by rw [hf.out]; rfl) (by repeat (first | with_reducible exact Below.refl _ _ | (with_reducible refine Below.al ?_) | (with_reducible refine Below.drew ?_) | (with_reducible refine Below.set ?_ (by first | (simp; done) | omega | (simp; omega))) | (with_reducible refine Below.thru ?_ (by assumption)) | (with_reducible refine Below.chg ?_ (by assumption) (by first | (simp; done) | omega | (simp; omega)))))

/-- Where Place lays an element. -/
def placed (pr : El → Bool) (x : El) (l : List El) : List El := l.take (l.findIdx pr) ++ x :: l.drop (l.findIdx pr)
theorem find_len {p : El → Bool} {l : List El} (h : l.any p = false) : l.findIdx p = l.length :=
  Nat.le_antisymm List.findIdx_le_length (Nat.not_lt.1 fun hl => by
    obtain ⟨x, hx, hp⟩ := List.findIdx_lt_length.1 hl
    rw [List.any_eq_false] at h
    exact h x hx hp)
set_option maxRecDepth 100000 in
set_option maxHeartbeats 400000 in
theorem place_any (d : Nat) (most : Int) (l : List El) (x : El) (w : World) (S : Nat → Prop) (h : (dockA d most l).holds w S) (hsm : l.length ≤ 100000) (hlt : (l.length : Int) < most) (G : Nat) (caps : Array Value) (hG : ∀ args w, (callFunc G args).run Try.prog w = .ok (.enter G args) w) (pr : El → Bool)
    (hcall : ∀ (x : El) (w' : World), Below w.heap.size w w' → Calls Try.prog G (#[val x] ++ caps) w' (Ret w' (.bool (pr x)))) :
    Calls Try.prog 65 #[.pointer (some ⟨d, 0, none⟩), val x, .func (.func G) #[] caps] w (Fin w S (.bool true) [dockA d most (placed pr x l)]) := by
  have h' := h
  have nf := run_neq_func (P := Try.prog) 102 (by kernel_rfl) (.func G) #[] caps
  obtain ⟨v, H⟩ := dock_open h
  obtain ⟨a, cap, rfl, hn, hcm, ha0, hR⟩ := St.slice (by omega) 1 H rfl
  obtain ⟨z, c, f⟩ := H.box 0 rfl
  have q : decide (most ≤ (l.length : Int)) = false := decide_eq_false (by omega)
  unfold val
  clear h ha0
  replace H := Lib.hid H; replace h' := Lib.hid h'; replace hR := Lib.hid hR; replace hcall := Lib.hid hcall
  go_enter Try.func65, Try.ntmps65
  go_wp2_with fail
  obtain ⟨SX, hSX⟩ := ((St.start (Sep.one h'.out)).skip (.cells #[.int .i64 x.1, .string x.2.1, .int .i64 x.2.2] 98)).held 0 rfl
  have P1 := full_any d most l _ SX hSX
  rw [q] at P1
  refine Calls.mono (P1) ?_
  rintro e w1 ⟨rfl, hb1⟩
  have z1 := Below.size hb1; try simp only [World.size_alloc, World.size_setCell, World.size_drew] at z1
  obtain ⟨c1_0, f1_0⟩ := Below.blk hb1 (b := d) (by first | (simp; done) | omega | (simp; omega))
  have z1_0 : d < w1.heap.size := (by first | (simp; done) | omega | (simp; omega))
  obtain ⟨c1_1, f1_1⟩ := Below.blk hb1 (b := w.heap.size) (by first | (simp; done) | omega | (simp; omega))
  have z1_1 : w.heap.size < w1.heap.size := (by first | (simp; done) | omega | (simp; omega))
  have H1 := (H.out.alloc [.int .i64 x.1, .string x.2.1, .int .i64 x.2.2] 98).thru hb1
  clear hSX P1
  have hbw : Below w.heap.size w w1 := Below.thru ((Below.refl _ w).alloc (Nat.le_refl _) _) hb1
  have hR1 := hR.out.below hbw
  have P2 := index_any l l.length rfl (by omega) a cap w1 hR1 G caps hG pr (fun x w' hb => hcall.out x w' (Below.thru hbw hb))
  replace H1 := Lib.hid H1; replace P2 := Lib.hid P2
  have hins : ∀ (k q : Nat) (W : World), k ≤ l.length → St w S W [cellA q [.int .i64 x.1, .string x.2.1, .int .i64 x.2.2], cellA w.heap.size [.int .i64 x.1, .string x.2.1, .int .i64 x.2.2], cellA d [.slice a l.length cap, .int .i64 most], rowA 3 (.slice a l.length cap) l.length (encs l)] →
      Calls Try.prog 96 #[.slice a l.length cap, .int .i64 (k : Int), .slice (some ⟨q, 0, none⟩) 1 1] W fun e w' =>
        ∃ v', e = .returned v' ∧ St w S w' [rowA 3 v' (l.length + 1) (encs (l.take k ++ x :: l.drop k)), cellA q [.int .i64 x.1, .string x.2.1, .int .i64 x.2.2], cellA w.heap.size [.int .i64 x.1, .string x.2.1, .int .i64 x.2.2], cellA d [.slice a l.length cap, .int .i64 most]] := by
    intro k q W hk HW
    obtain ⟨S3, hS3, _, back⟩ := HW.at 3 rfl
    obtain ⟨T1, T2, t1, t2, t3⟩ := HW.apart 0 3 (by decide) rfl rfl
    have hne : ¬ S3 q := fun hx => t3 q ((t1.2 q).2 rfl) ((t2.2 q).2 ((hS3.2 q).1 hx))
    refine (InsWait.insert_any _ l.length k q (encs l) [.int .i64 x.1, .string x.2.1, .int .i64 x.2.2] S3 W hS3 hk hsm (encs_one l) (HW.box 0 rfl) rfl (by simp [Value.oneCell']) hne).mono ?_
    rintro e w' ⟨v', rfl, hst⟩
    refine ⟨v', rfl, ?_⟩
    have h5 := back _ _ hst
    rw [encs_take, encs_drop, show encs (l.take k) ++ [.int .i64 x.1, .string x.2.1, .int .i64 x.2.2] ++ encs (l.drop k) = encs (l.take k ++ x :: l.drop k) from by simp [encs, enc]] at h5
    exact h5
  go_wp2_with fail
  refine Calls.mono P2.out ?_
  rintro e w2 ⟨rfl, hb2⟩
  have H2 := H1.out.thru hb2
  obtain ⟨z2, k2, f2⟩ := H2.box 1 rfl
  obtain ⟨zx, kx, fx⟩ := H2.box 0 rfl
  have hle : l.findIdx pr ≤ l.length := List.findIdx_le_length
  have hpl : placed pr x l = l.take (l.findIdx pr) ++ x :: l.drop (l.findIdx pr) := rfl
  have HA := (H2.alloc [.int .i64 x.1, .string x.2.1, .int .i64 x.2.2] 98).drew
  clear P2 H1 hR1 c f c1_1 f1_1
  replace hcall := trivial
  cases hb : l.any pr with
  | true =>
    have hi : idxF pr l = (l.findIdx pr : Int) := by simp [idxF, hb]
    rw [hi]
    have hge : decide ((0 : Int) ≤ (l.findIdx pr : Int)) = true := decide_eq_true (by omega)
    generalize l.findIdx pr = k at *
    clear hi hb
    replace H2 := Lib.hid H2; replace HA := Lib.hid HA; replace hins := Lib.hid hins; replace hpl := Lib.hid hpl
    go_wp2_with fail
    go_region_law (go_simp; go_at_call 96; refine Calls.mono (hins.out _ _ _ hle HA.out) ?_; rintro e w5 ⟨v5, rfl, H5⟩; obtain ⟨a5, cap5, rfl, _⟩ := St.slice (by omega) 0 H5 rfl; obtain ⟨z5, k5, f5⟩ := H5.box 3 rfl; replace H5 := Lib.hid H5)
    all_goals
      go_wp2_with fail
      go_ret
      have H6 := (H5.out.set 3 rfl 0 (.slice a5 (l.length + 1) cap5) (by simp)).drops 2
      refine ⟨rfl, dock_shut (v := .slice a5 (l.length + 1) cap5) (r := []) ?_⟩
      rw [hpl.out, show (l.take k ++ x :: l.drop k).length = l.length + 1 from by simp only [List.length_append, List.length_take, List.length_cons, List.length_drop]; omega]
      exact H6
  | false =>
    have hi : idxF pr l = -1 := by simp [idxF, hb]
    rw [hi]
    rw [find_len hb] at hpl
    clear hi hb
    replace H2 := Lib.hid H2; replace HA := Lib.hid HA; replace hins := Lib.hid hins; replace hpl := Lib.hid hpl
    go_wp2_with fail
    go_region_law (go_simp; go_at_call 96; refine Calls.mono (hins.out _ _ _ (Nat.le_refl _) HA.out) ?_; rintro e w5 ⟨v5, rfl, H5⟩; obtain ⟨a5, cap5, rfl, _⟩ := St.slice (by omega) 0 H5 rfl; obtain ⟨z5, k5, f5⟩ := H5.box 3 rfl; replace H5 := Lib.hid H5)
    all_goals
      go_wp2_with fail
      go_ret
      have H6 := (H5.out.set 3 rfl 0 (.slice a5 (l.length + 1) cap5) (by simp)).drops 2
      refine ⟨rfl, dock_shut (v := .slice a5 (l.length + 1) cap5) (r := []) ?_⟩
      rw [hpl.out, show (l.take l.length ++ x :: l.drop l.length).length = l.length + 1 from by simp only [List.length_append, List.length_take, List.length_cons, List.length_drop]; omega]
      exact H6
end Go.Proofs.Ytiaefmmcakagpaa.DockWait

/- The iterator that the package dock's All hands back, at a type of struct elements: its contract. -/
namespace Go.Proofs.Ytiaefmmcakagpaa.DockWait
set_option linter.unusedSimpArgs false
set_option linter.unusedVariables false
open Go Go.RowKit Go.Shelf Go.Proofs.Ytiaefmmcakagpaa Go.Proofs.Ytiaefmmcakagpaa.DelWait
attribute [local irreducible] Calls

set_option maxRecDepth 100000 in
set_option maxHeartbeats 400000 in
theorem all_iter (k : Nat) (d nb : Nat) (most : Int) (l : List El) (hl2 : l.length ≤ 100000) (W : World) (S0 : Nat → Prop) :
    Iter Fence.wide k Try.prog 100 #[.pointer (some ⟨nb, 0, none⟩)] (fun x => #[val x]) l [cellA nb [.pointer (some ⟨d, 0, none⟩)], dockA d most l] W S0 := by
  intro L w J Jx h hY
  have H0 : St W S0 w (cellA nb [.pointer (some ⟨d, 0, none⟩)] :: dockA d most l :: J []) := h
  obtain ⟨v, H1⟩ := dock_parts (H0.front 1 rfl)
  obtain ⟨a, cap, hv, hn, hcm, ha0, hR⟩ := St.slice (by omega) 1 H1 rfl
  subst hv
  obtain ⟨zd, cd, fd⟩ := H1.box 0 rfl
  obtain ⟨zn, cn, fn⟩ := H1.box 2 rfl
  have hc0 : a = none → cap = 0 := fun e => by
    rcases (H1.row 1 rfl).2 with ⟨e', _⟩ | ⟨_, _, _, e', _⟩
    · injection e'
    · injection e' with e1; rw [e] at e1; cases e1
  have P0 := clone_any l a cap w hR ha0 hl2 hc0
  clear H1 hR hc0 h
  replace P0 := Lib.hid P0; replace H0 := Lib.hid H0; replace hY := Lib.hid hY
  refine callsIn_of_wp Try.func100 rfl trivial ?_ rfl
  simp only [Try.ntmps100, List.size_toArray, List.length_cons, List.length_nil, Nat.reduceAdd, Nat.reduceSub, Array.replicate_succ, Array.replicate_zero, List.push_toArray, List.append_toArray, List.nil_append, List.cons_append]
  gi_wp2
  refine ⟨trivial, (fun h => nomatch h), (callsIn_wide.2 P0.out).mono ?_⟩
  rintro e w1 ⟨cv, rfl, HC⟩
  have H2 := H0.out.add HC
  clear HC P0 H0 cd fd cn fn
  obtain ⟨ca, cc, hv, _, _, _, _⟩ := St.slice (by omega) 0 H2 rfl
  subst hv
  replace H2 := Lib.hid H2
  simp only []
  gi_wp2
  gi_loopg [4, 13] l.length (fun g _ i wr => ∃ j : Nat, j ≤ l.length ∧ g = l.length - j ∧ i = .int .i64 j ∧ St W S0 wr ([rowA 3 (.slice ca l.length cc) l.length (encs l), cellA nb [.pointer (some ⟨d, 0, none⟩)], dockA d most l] ++ J (l.take j)))
  case atStart => exact ⟨0, by omega, by omega, rfl, H2.out⟩
  case round =>
    obtain ⟨j, hj, hg, rfl, hst⟩ := hrel
    by_cases hlt : j < l.length
    · have hx : l = l.take j ++ l[j] :: l.drop (j + 1) := by rw [List.getElem_cons_drop, List.take_append_drop]
      have htk : l.take j ++ [l[j]] = l.take (j + 1) := (List.take_succ_eq_append_getElem hlt).symm
      obtain ⟨u, hu⟩ : ∃ u, u = l[j] := ⟨_, rfl⟩
      have hst2 : St W S0 _ ((cellA wr.heap.size [.int .i64 u.1, .string u.2.1, .int .i64 u.2.2] :: [rowA 3 (.slice ca l.length cc) l.length (encs l), cellA nb [.pointer (some ⟨d, 0, none⟩)], dockA d most l]) ++ J (l.take j)) := hst.alloc [.int .i64 u.1, .string u.2.1, .int .i64 u.2.2] 98
      obtain ⟨fn', tmps, assign, body, hy, hR⟩ := hY.out _ (l.take j) l[j] (l.drop (j + 1)) _ hx hst2
      rw [htk] at hR
      have hRd := St.rd (by omega) 0 hst rfl
      obtain ⟨b, off, rfl, hb, hc⟩ := Rd.rows enc_len (by omega) hRd rfl (by omega)
      have e0 := hc j hlt
      rw [← hu] at e0 hy hx htk
      have e00 := e0 0 _ rfl; try simp only [Nat.add_zero] at e00
      have e01 := e0 1 _ rfl; try simp only [Nat.add_zero] at e01
      have e02 := e0 2 _ rfl; try simp only [Nat.add_zero] at e02
      unfold val at hy
      clear hc hRd H2 hst hst2 e0 hu
      replace hR := Lib.hid hR; replace hx := Lib.hid hx; replace htk := Lib.hid htk
      gi_wp2
      refine ⟨(fun h => nomatch h), hR.out.mono ?_⟩
      rintro e w2 (⟨rfl, h3⟩ | ⟨rfl, h3⟩)
      · replace h3 := Lib.hid (h3.drop 0 rfl)
        clear hR hy
        simp only []
        gi_wp2
        gi_roundg (l.length - (j + 1))
        case measure => omega
        case rel => exact ⟨j + 1, by omega, rfl, by go_num, h3.out⟩
      · replace h3 := Lib.hid h3
        clear hR hy
        simp only []
        gi_wp2
        refine bodyPost_ret (results_none rfl _ _ _) rfl ?_
        refine ⟨⟨_, rfl⟩, .inr ⟨l.take j, u, l.drop (j + 1), hx.out, by rw [htk.out]; exact (h3.out.drop 0 rfl).drop 0 rfl⟩⟩
    · obtain rfl : j = l.length := by omega
      rw [List.take_length] at hst
      clear H2
      replace hst := Lib.hid hst
      gi_wp2
      go_end0
      exact ⟨⟨_, rfl⟩, .inl (hst.out.drop 0 rfl)⟩
end Go.Proofs.Ytiaefmmcakagpaa.DockWait

/- The walk of the package dock's Sweep, whatever question is asked, at a type of struct elements. -/
namespace Go.Proofs.Ytiaefmmcakagpaa.DockWait
set_option linter.unusedSimpArgs false
set_option linter.unusedVariables false
open Go Go.RowKit Go.Shelf Go.Proofs.Ytiaefmmcakagpaa Go.Proofs.Ytiaefmmcakagpaa.DelWait
attribute [local irreducible] Calls
attribute [local go_sem] Oper.semAt_some

/-- Of 'suf', behind 'pre', those to which the answer is yes, and those to which it is no. -/
def outs (pr : List El → El → Bool) : List El → List El → List El
  | _, [] => []
  | pre, x :: s => (if pr pre x then [x] else []) ++ outs pr (pre ++ [x]) s
def rests (pr : List El → El → Bool) : List El → List El → List El
  | _, [] => []
  | pre, x :: s => (if pr pre x then [] else [x]) ++ rests pr (pre ++ [x]) s
theorem outs_snoc (pr : List El → El → Bool) (x : El) : ∀ (l pre : List El), outs pr pre (l ++ [x]) = outs pr pre l ++ (if pr (pre ++ l) x then [x] else [])
  | [], pre => by simp [outs]
  | y :: l, pre => by simp only [List.cons_append, outs]; rw [outs_snoc pr x l (pre ++ [y])]; simp
theorem rests_snoc (pr : List El → El → Bool) (x : El) : ∀ (l pre : List El), rests pr pre (l ++ [x]) = rests pr pre l ++ (if pr (pre ++ l) x then [] else [x])
  | [], pre => by simp [rests]
  | y :: l, pre => by simp only [List.cons_append, rests]; rw [rests_snoc pr x l (pre ++ [y])]; simp
theorem outs_len (pr : List El → El → Bool) : ∀ (l pre : List El), (outs pr pre l).length + (rests pr pre l).length = l.length
  | [], _ => rfl
  | x :: l, pre => by
    have := outs_len pr l (pre ++ [x])
    simp only [outs, rests, List.length_append, List.length_cons]
    split <;> simp <;> omega

/-- The parts of a sweep under way. -/
def swA (ob rb gb : Nat) (gv : Value) (pr : List El → El → Bool) (J : List El → Asn) (pre : List El) : List Asn :=
  [exA fun q : Value × Value => sepA [cellA ob [q.1], rowA 3 q.1 (outs pr [] pre).length (encs (outs pr [] pre)), cellA rb [q.2], rowA 3 q.2 (rests pr [] pre).length (encs (rests pr [] pre)), cellA gb [gv], J pre]]
theorem sw_parts {W w : World} {S : Nat → Prop} {ob rb gb : Nat} {gv : Value} {pr : List El → El → Bool} {J : List El → Asn} {pre : List El} {p : List Asn} (h : St W S w (p ++ swA ob rb gb gv pr J pre)) :
    ∃ ov rv, St W S w (cellA ob [ov] :: rowA 3 ov (outs pr [] pre).length (encs (outs pr [] pre)) :: cellA rb [rv] :: rowA 3 rv (rests pr [] pre).length (encs (rests pr [] pre)) :: cellA gb [gv] :: J pre :: p) := by
  have h' := h.perm List.perm_append_comm
  obtain ⟨q, h1⟩ := St.unex 0 h' rfl
  exact ⟨q.1, q.2, St.unsep 0 h1 rfl⟩
theorem sw_shut {W w : World} {S : Nat → Prop} {ob rb gb : Nat} {gv ov rv : Value} {pr : List El → El → Bool} {J : List El → Asn} {pre : List El} {p : List Asn}
    (h : St W S w (cellA ob [ov] :: rowA 3 ov (outs pr [] pre).length (encs (outs pr [] pre)) :: cellA rb [rv] :: rowA 3 rv (rests pr [] pre).length (encs (rests pr [] pre)) :: cellA gb [gv] :: J pre :: p)) : St W S w (p ++ swA ob rb gb gv pr J pre) :=
  (St.ex (fun q : Value × Value => sepA [cellA ob [q.1], rowA 3 q.1 (outs pr [] pre).length (encs (outs pr [] pre)), cellA rb [q.2], rowA 3 q.2 (rests pr [] pre).length (encs (rests pr [] pre)), cellA gb [gv], J pre]) (ov, rv) (St.join [_, _, _, _, _, _] p h)).perm (List.perm_append_comm (l₁ := [_]))

set_option maxRecDepth 100000 in
set_option maxHeartbeats 1000000 in
theorem sweep_with (d : Nat) (most : Int) (l : List El) (hl2 : l.length ≤ 100000) (G : Nat) (caps : Array Value) (hG : ∀ args w, (callFunc G args).run Try.prog w = .ok (.enter G args) w) (pr : List El → El → Bool) (J : List El → Asn) (w : World) (S : Nat → Prop)
    (hcall : ∀ pre x suf (w' : World) (S' : Nat → Prop), l = pre ++ x :: suf → Only w w' S → (J pre).holds w' S' → Calls Try.prog G (#[val x] ++ caps) w' (Fin w' S' (.bool (pr pre x)) [J (pre ++ [x])]))
    (h : (sepA [dockA d most l, J []]).holds w S) :
    Calls Try.prog 98 #[.pointer (some ⟨d, 0, none⟩), .func (.func G) #[] caps] w (fun e w' => ∃ v, e = .returned v ∧ St w S w' [rowA 3 v (outs pr [] l).length (encs (outs pr [] l)), dockA d most (rests pr [] l), J l]) := by
  obtain ⟨i0, hi, hz, hz1, hz2⟩ := info_parts el_info
  have H0 := St.unsep 0 (St.start (Sep.one h)) rfl
  have H1 := (((H0.alloc [.func (.func G) #[] caps] 102).row_nil (size := 3)).row_nil (size := 3)).alloc [.slice none 0 0] 125
  have H2 := H1.alloc [.slice none 0 0] 125
  simp only [World.size_alloc] at H2
  have nf := run_eql_func (P := Try.prog) 102 (by kernel_rfl) (.func G) #[] caps
  clear h H0 H1
  replace H2 := Lib.hid H2; replace hcall := Lib.hid hcall
  refine callsIn_wide.1 (callsIn_of_wp_marks (n := 10) Try.func98 rfl trivial ?_ rfl)
  simp only [Try.ntmps98, List.size_toArray, List.length_cons, List.length_nil, Nat.reduceAdd, Nat.reduceSub, Array.replicate_succ, Array.replicate_zero, List.push_toArray, List.append_toArray, List.nil_append, List.cons_append]
  gi_wp2
  refine ⟨trivial, (callsIn_wide.2 (all_new d _)).mono ?_⟩
  rintro e w1 ⟨nb, rfl, HA⟩
  simp only []
  have H3 := H2.out.add HA
  replace H3 := Lib.hid H3
  gi_wp2
  have H4 : St w S w1 ([cellA nb [.pointer (some ⟨d, 0, none⟩)], dockA d most l] ++ swA (w.heap.size + 1) (w.heap.size + 1 + 1) w.heap.size (.func (.func G) #[] caps) pr J []) := sw_shut (ov := .slice none 0 0) (rv := .slice none 0 0) (H3.out.arr [2, 3, 1, 4, 5, 7, 0, 6] rfl)
  clear H3 H2 HA
  have hsl := hcall.out
  refine wpIn_range_st2 rfl (by decide) (gf := 100) (lb := #[.pointer (some ⟨nb, 0, none⟩)]) rfl trivial (enters_of Try.func100 (by kernel_rfl) rfl)
    (all_iter _ d nb most l hl2 w S) (fun _ => rfl) (swA (w.heap.size + 1) (w.heap.size + 1 + 1) w.heap.size (.func (.func G) #[] caps) pr J) (fun _ _ => [andA False (sepA [])]) H4 ?round ?done ?stop
  case stop =>
    intro D c pre x suf w2 _ hs
    exact (hs.unand 3 rfl).1.elim
  case round =>
    intro L pre x suf w1 hx
    simp only [val]
    gi_wp2
    refine ⟨cellA w1.heap.size [.int .i64 x.1, .string x.2.1, .int .i64 x.2.2], fun l' h => h.alloc _ _, ?_⟩
    intro p w3 hs
    obtain ⟨ov, rv, hs1⟩ := sw_parts (p := cellA w1.heap.size [.int .i64 x.1, .string x.2.1, .int .i64 x.2.2] :: p) hs
    obtain ⟨oa, oc, rfl, _, _, _, _⟩ := St.slice (by omega) 1 hs1 rfl
    obtain ⟨ra, rc, rfl, _, _, _, _⟩ := St.slice (by omega) 3 hs1 rfl
    have P1 := Calls.st_at 5 hs1 rfl fun S h => hsl pre x suf _ S hx hs1.only h
    have ho := outs_snoc pr x pre []
    have hr := rests_snoc pr x pre []
    have hlen := outs_len pr pre []
    have hpl : pre.length ≤ 100000 := by have := congrArg List.length hx; simp at this; omega
    obtain ⟨zg, cg, fg⟩ := hs1.box 4 rfl
    obtain ⟨zv, cv, fv⟩ := hs1.box 6 rfl
    rw [List.nil_append] at ho hr
    simp only [val] at P1
    clear hs hs1 hsl hcall H4
    replace P1 := Lib.hid P1; replace ho := Lib.hid ho; replace hr := Lib.hid hr; replace hx := Lib.hid hx
    gi_wp2
    refine ⟨trivial, (CallsIn.inRound L (callsIn_wide.2 P1.out)).mono ?_⟩
    rintro e w4 ⟨rfl, H5⟩
    clear P1
    obtain ⟨zo, co, fo⟩ := H5.box 1 rfl
    obtain ⟨zr, cr, fr⟩ := H5.box 3 rfl
    obtain ⟨zu, cu, fu⟩ := H5.box 6 rfl
    simp only []
    cases hb : pr pre x with
    | true =>
      rw [hb] at ho hr
      replace H5 := Lib.hid H5
      gi_wp2_with (gi_at_builtin; (refine wpListIn_appS rfl (.tmp 20) (.tmp 22) _ rfl 98 i0 _ 3 32 Try.underlying125 hi hz hz1 hz2 rfl (by omega) 2 _ (outs pr [] pre).length (encs (outs pr [] pre)) rfl H5.out rfl 1 1 [.int .i64 x.1, .string x.2.1, .int .i64 x.2.2] rfl rfl (by simp [Value.oneCell']) (by omega) (by omega) ?_; intro wv5 w5 H6; obtain ⟨g5, o5, c5, rfl⟩ := row_some (H6.row 0 rfl) (by omega); obtain ⟨z5, k5, f5⟩ := H6.box 2 rfl; replace H6 := Lib.hid H6))
      have H7 := H6.out.set 2 rfl 0 (.slice (some ⟨g5, o5, none⟩) ((outs pr [] pre).length + 1) c5) (by simp)
      have ho' : outs pr [] (pre ++ [x]) = outs pr [] pre ++ [x] := by rw [ho.out]; simp
      have hr' : rests pr [] (pre ++ [x]) = rests pr [] pre := by rw [hr.out]; simp
      refine sw_shut (ov := .slice (some ⟨g5, o5, none⟩) ((outs pr [] pre).length + 1) c5) (rv := .slice ra (rests pr [] pre).length rc) ?_
      rw [ho', hr', List.length_append, ← encs_app]
      exact (H7.arrN [0, 1, 3, 4, 5, 2] rfl).drop 6 rfl
    | false =>
      rw [hb] at ho hr
      replace H5 := Lib.hid H5
      gi_wp2_with (gi_at_builtin; (refine wpListIn_appS rfl (.tmp 24) (.tmp 26) _ rfl 98 i0 _ 3 32 Try.underlying125 hi hz hz1 hz2 rfl (by omega) 4 _ (rests pr [] pre).length (encs (rests pr [] pre)) rfl H5.out rfl 1 1 [.int .i64 x.1, .string x.2.1, .int .i64 x.2.2] rfl rfl (by simp [Value.oneCell']) (by omega) (by omega) ?_; intro wv5 w5 H6; obtain ⟨g5, o5, c5, rfl⟩ := row_some (H6.row 0 rfl) (by omega); obtain ⟨z5, k5, f5⟩ := H6.box 4 rfl; replace H6 := Lib.hid H6))
      have H7 := H6.out.set 4 rfl 0 (.slice (some ⟨g5, o5, none⟩) ((rests pr [] pre).length + 1) c5) (by simp)
      have ho' : outs pr [] (pre ++ [x]) = outs pr [] pre := by rw [ho.out]; simp
      have hr' : rests pr [] (pre ++ [x]) = rests pr [] pre ++ [x] := by rw [hr.out]; simp
      refine sw_shut (ov := .slice oa (outs pr [] pre).length oc) (rv := .slice (some ⟨g5, o5, none⟩) ((rests pr [] pre).length + 1) c5) ?_
      rw [ho', hr', List.length_append, ← encs_app]
      exact (H7.arrN [3, 4, 0, 1, 5, 2] rfl).drop 6 rfl
  case done =>
    intro D w2 hs
    obtain ⟨ov, rv, hs1⟩ := sw_parts (p := [objA D (.deferred (some [])), cellA nb [.pointer (some ⟨d, 0, none⟩)], dockA d most l]) hs
    obtain ⟨oa, oc, rfl, _, _, _, _⟩ := St.slice (by omega) 1 hs1 rfl
    obtain ⟨ra, rc, rfl, _, _, _, _⟩ := St.slice (by omega) 3 hs1 rfl
    have H5 := hs1.front 8 rfl
    obtain ⟨dv, H6⟩ := dock_parts H5
    obtain ⟨zd, cd, fd⟩ := H6.box 0 rfl
    obtain ⟨zo, co, fo⟩ := H6.box 2 rfl
    obtain ⟨zr, cr, fr⟩ := H6.box 4 rfl
    have n1 := H6.ne_cells 0 2 rfl rfl (by decide)
    have n2 : ¬ w.heap.size + 1 = d := fun e => n1 e.symm
    have HS := H6.set 0 rfl 0 (.slice ra (rests pr [] l).length rc) (by simp)
    have hD := HS.obj 8 rfl
    have HP := (HS.putObj 8 rfl (.deferred none)).arr [1, 6, 4, 8, 0, 2, 3, 5, 7, 9] rfl
    have HF : St w S _ [rowA 3 (.slice oa (outs pr [] l).length oc) (outs pr [] l).length (encs (outs pr [] l)), dockA d most (rests pr [] l), J l] := ((dock_shut (v := .slice ra (rests pr [] l).length rc) HP).arrN [1, 0, 2] rfl).drops 3
    clear hs hs1 H5 hsl hcall H4 H6 HS HP
    replace hD := Lib.hid hD; replace HF := Lib.hid HF
    gi_wp2
    refine ⟨by simp, .inl ⟨_, _, rfl, run_takeDeferred hD.out, ?_⟩⟩
    exact ⟨.slice oa (outs pr [] l).length oc, by simp [results, Try.results98, go_sem], _, rfl, HF.out⟩
theorem sweep_any (d : Nat) (most : Int) (l : List El) (hl2 : l.length ≤ 100000) (G : Nat) (caps : Array Value) (hG : ∀ args w, (callFunc G args).run Try.prog w = .ok (.enter G args) w) (pr : List El → El → Bool) (J : List El → Asn)
    (hcall : ∀ pre x suf (w : World) (S : Nat → Prop), l = pre ++ x :: suf → (J pre).holds w S → Calls Try.prog G (#[val x] ++ caps) w (Fin w S (.bool (pr pre x)) [J (pre ++ [x])]))
    (w : World) (S : Nat → Prop) (h : (sepA [dockA d most l, J []]).holds w S) :
    Calls Try.prog 98 #[.pointer (some ⟨d, 0, none⟩), .func (.func G) #[] caps] w (fun e w' => ∃ v, e = .returned v ∧ St w S w' [rowA 3 v (outs pr [] l).length (encs (outs pr [] l)), dockA d most (rests pr [] l), J l]) :=
  sweep_with d most l hl2 G caps hG pr J w S (fun pre x suf w' S' hx _ hJ => hcall pre x suf w' S' hx hJ) h
end Go.Proofs.Ytiaefmmcakagpaa.DockWait
