/- A statement whose order Go leaves open, and which lays new variables for what its calls hand back: one walk of its other operations serves every order. -/
import Derived.Test.YthodfihdmhkgeaaOwn
import Derived.Laws.IdiomCopy
namespace Go.Proofs.Ythodfihdmhkgeaa
set_option linter.unusedSimpArgs false
set_option linter.unusedVariables false
open Go Go.RowKit
attribute [local irreducible] Calls

/-- Kept by whatever turns nothing that was there. -/
def Lasts (X : World → Prop) : Prop := ∀ w1 w2, X w1 → Below w1.heap.size w1 w2 → X w2
theorem lasts_true : Lasts fun _ => True := fun _ _ _ _ => trivial

/-- A new variable: the number of the operation that lays it, of the one that stores into it, its slot, its type, what is stored, its zero value, the value. -/
structure Pr where
  al : Nat
  st : Nat
  d : Tmp
  t : TypeId
  e : Operand
  z : Value
  v : Value

structure PrOk (P : Program) (ops : Array Oper) (p : Pr) : Prop where
  al : ∃ oa, ops[p.al]? = some oa ∧ oa.op = .alloc p.t ∧ oa.dst = some p.d ∧ oa.guard = none
  st : ∃ os, ops[p.st]? = some os ∧ os.op = .store p.t (.tmp p.d) p.e ∧ os.dst = none ∧ os.guard = none
  zero : ∃ info, P.info? p.t = some info ∧ info.zero = some p.z ∧ info.size = p.v.cells.size
  zsz : p.z.cells.size = p.v.cells.size
  one : ∀ u ∈ p.v.cells.toList, u.oneCell' = true

def isAl (prs : List Pr) (i : Nat) : Bool := prs.any (·.al == i)
def isSt (prs : List Pr) (i : Nat) : Bool := prs.any (·.st == i)
theorem isAl_spec {prs : List Pr} {i : Nat} (h : isAl prs i = true) : ∃ p ∈ prs, p.al = i := by
  obtain ⟨p, hp, h⟩ := List.any_eq_true.1 h
  exact ⟨p, hp, by simpa using h⟩
theorem isSt_spec {prs : List Pr} {i : Nat} (h : isSt prs i = true) : ∃ p ∈ prs, p.st = i := by
  obtain ⟨p, hp, h⟩ := List.any_eq_true.1 h
  exact ⟨p, hp, by simpa using h⟩
theorem isAl_of {prs : List Pr} {p : Pr} (h : p ∈ prs) : isAl prs p.al = true := List.any_eq_true.2 ⟨p, h, by simp⟩
theorem isSt_of {prs : List Pr} {p : Pr} (h : p ∈ prs) : isSt prs p.st = true := List.any_eq_true.2 ⟨p, h, by simp⟩

section
variable {P : Program} {ops : Array Oper} {md : Region.Mode} {C : World → Prop} {prs : List Pr}

def xOp (P : Program) (ops : Array Oper) (C : World → Prop) (prs : List Pr) (i : Nat) (K : Act → Prop) (a : Act) : Prop :=
  if isAl prs i = true then K a else if isSt prs i = true then (∀ p ∈ prs, p.st = i → a.eval p.e = p.v) ∧ K a else qOp P ops C i K a
def xYield (P : Program) (ops : Array Oper) (C : World → Prop) (prs : List Pr) (i : Nat) (o : Oper) (v : Value) (a : Act) : Prop :=
  if isAl prs i = true then True else if isSt prs i = true then ∀ p ∈ prs, p.st = i → a.eval p.e = p.v else YieldsIn P ops C o v a
def xdst (prs : List Pr) (i : Nat) (o : Oper) : Option Tmp := if isAl prs i = true then none else if isSt prs i = true then none else o.dst

theorem xOp_mono {i : Nat} {a : Act} {K K' : Act → Prop} (h : ∀ a, K a → K' a) (hh : xOp P ops C prs i K a) : xOp P ops C prs i K' a := by
  unfold xOp at *
  split
  · rename_i e; rw [if_pos e] at hh; exact h _ hh
  · rename_i e
    rw [if_neg e] at hh
    split
    · rename_i e2; rw [if_pos e2] at hh; exact ⟨hh.1, h _ hh.2⟩
    · rename_i e2; rw [if_neg e2] at hh; exact qOp_mono h hh
theorem xOp_of_yield {i : Nat} {o : Oper} {v : Value} {a : Act} {K : Act → Prop} (hi : ops[i]? = some o) (hy : xYield P ops C prs i o v a) (hk : K (a.put (xdst prs i o) v)) : xOp P ops C prs i K a := by
  unfold xOp
  unfold xYield at hy
  unfold xdst at hk
  split
  · rename_i e; rw [if_pos e] at hk; exact hk
  · rename_i e
    rw [if_neg e] at hk hy
    split
    · rename_i e2; rw [if_pos e2] at hk hy; exact ⟨hy, hk⟩
    · rename_i e2; rw [if_neg e2] at hk hy; exact hy.qOp hi hk
theorem yield_of_xOp {i : Nat} {o : Oper} {a : Act} {K : Act → Prop} (hi : ops[i]? = some o) (h : xOp P ops C prs i K a) : ∃ v, xYield P ops C prs i o v a ∧ K (a.put (xdst prs i o) v) := by
  unfold xOp at h
  unfold xYield xdst
  by_cases e : isAl prs i = true
  · simp only [if_pos e] at h ⊢; exact ⟨undef, trivial, h⟩
  · simp only [if_neg e] at h ⊢
    by_cases e2 : isSt prs i = true
    · simp only [if_pos e2] at h ⊢; exact ⟨undef, h.1, h.2⟩
    · simp only [if_neg e2] at h ⊢; exact yieldsIn_of_qOp hi h

theorem looks_store {p : Pr} {o : Oper} {t : TypeId} {x : Operand} (ho : o.op = .store t x p.e) {d : Tmp} (h : d ∉ o.looksAt ops) : p.e ≠ .tmp d := by
  intro e
  refine h (List.mem_append_left _ (List.mem_filterMap.2 ⟨.tmp d, ?_, rfl⟩))
  rw [ho]
  simp [Op.operands, e]

theorem xOp_put (hok : ∀ p ∈ prs, PrOk P ops p) {i j : Nat} {oi oj : Oper} {v : Value} (hi : ops[i]? = some oi) (hj : ops[j]? = some oj) (hap : oi.apart ops oj = true)
    (hsi : ∀ cs b, oi.op ≠ .select cs b) (hsj : ∀ cs b, oj.op ≠ .select cs b) {K : Act → Prop} {a : Act}
    (hy : xYield P ops C prs i oi v a) (h : xOp P ops C prs j K (a.put (xdst prs i oi) v)) :
    xOp P ops C prs j (fun a' => xYield P ops C prs i oi v a' ∧ K (a'.put (xdst prs i oi) v)) a := by
  obtain ⟨h1, h2, h3⟩ := Oper.apart_spec hap
  have hd1 : ∀ d, xdst prs i oi = some d → d ∉ oj.looksAt ops := fun d hd => by
    unfold xdst at hd
    split at hd
    · cases hd
    · split at hd
      · cases hd
      · exact h1 d hd
  have hey : ∀ (a : Act) (u : Value), xYield P ops C prs i oi v a → xYield P ops C prs i oi v (a.put oj.dst u) := fun a u hy => by
    unfold xYield at *
    split
    · trivial
    · rename_i e
      rw [if_neg e] at hy
      split
      · rename_i e2
        rw [if_pos e2] at hy
        intro p hp hpi
        rw [← hy p hp hpi]
        obtain ⟨os, ho, hop, _⟩ := (hok p hp).st
        rw [hpi, hi] at ho
        obtain rfl := Option.some.inj ho
        exact Act.eval_put fun d hd => looks_store hop (h3 d hd)
      · rename_i e2
        rw [if_neg e2] at hy
        exact hy.of_same (execOp_put oi hsi a oj.dst u h3) (wanted_put oi a oj.dst u h3)
  by_cases ej : isAl prs j = true
  · unfold xOp at *
    rw [if_pos ej] at *
    exact ⟨hy, h⟩
  · by_cases ej2 : isSt prs j = true
    · unfold xOp at *
      rw [if_neg ej, if_pos ej2] at *
      refine ⟨fun p hp hpj => ?_, hy, h.2⟩
      have := h.1 p hp hpj
      rw [← this]
      obtain ⟨os, ho, hop, _⟩ := (hok p hp).st
      rw [hpj, hj] at ho
      obtain rfl := Option.some.inj ho
      exact (Act.eval_put fun d hd => looks_store hop (hd1 d hd)).symm
    · unfold xOp at h ⊢
      rw [if_neg ej, if_neg ej2] at h ⊢
      by_cases ei : isAl prs i = true
      · have e0 : xdst prs i oi = none := if_pos ei
        rw [e0] at h ⊢
        exact qOp_mono (fun a' hk => ⟨by unfold xYield; rw [if_pos ei]; trivial, hk⟩) h
      · by_cases ei2 : isSt prs i = true
        · have e0 : xdst prs i oi = none := by unfold xdst; rw [if_neg ei, if_pos ei2]
          rw [e0] at h ⊢
          obtain ⟨u, hu, hk⟩ := yieldsIn_of_qOp hj h
          exact hu.qOp hj ⟨hey a u hy, hk⟩
        · have e0 : xdst prs i oi = oi.dst := by unfold xdst; rw [if_neg ei, if_neg ei2]
          have e1 : ∀ a, xYield P ops C prs i oi v a ↔ YieldsIn P ops C oi v a := fun a => by unfold xYield; rw [if_neg ei, if_neg ei2]
          rw [e0] at h ⊢
          exact qOp_mono (fun a' hk => ⟨(e1 a').2 hk.1, hk.2⟩) (qOp_put hj hap hsi hsj ((e1 a).1 hy) h)

/-- Whatever order is picked from here on. -/
def wpAnyX (P : Program) (md : Region.Mode) (ops : Array Oper) (C : World → Prop) (prs : List Pr) (Q : Act → Prop) : Nat → Array Bool → Act → Prop
  | 0, listed, a => listed.all id = true ∧ Q a
  | f + 1, listed, a => Region.ready md ops listed ≠ [] ∧ ∀ i ∈ Region.ready md ops listed, xOp P ops C prs i (wpAnyX P md ops C prs Q f (listed.setIfInBounds i true)) a

theorem all_listed {listed : Array Bool} (h : listed.all id = true) (j : Nat) : listed.getD j true = true := by
  rcases Nat.lt_or_ge j listed.size with hj | hj
  · have := Array.all_eq_true.1 h j hj
    simp [hj] at this ⊢; exact this
  · simp [Array.getElem?_eq_none hj]

theorem wpAnyX_first {Q : Act → Prop} (hok : ∀ p ∈ prs, PrOk P ops p) {i : Nat} {oi : Oper} {v : Value} (hi : ops[i]? = some oi) (hs : Region.noSelect ops = true) :
    ∀ (f : Nat) (listed : Array Bool) (a : Act),
      (∀ j oj, ops[j]? = some oj → j ≠ i → listed.getD j true = false → (∀ e ∈ oj.after, Region.binds md e = true → e.on ≠ i) → oi.apart ops oj = true) →
      i ∈ Region.ready md ops listed → xYield P ops C prs i oi v a →
      wpAnyX P md ops C prs Q f (listed.setIfInBounds i true) (a.put (xdst prs i oi) v) → wpAnyX P md ops C prs Q (f + 1) listed a := by
  intro f
  induction f with
  | zero =>
    intro listed a _ hr hy H
    refine ⟨fun h => (by rw [h] at hr; cases hr), fun j hj => ?_⟩
    by_cases hji : j = i
    · subst hji; exact xOp_of_yield hi hy H
    · have h1 := ready_mono hj hji
      have h2 := (mem_ready.1 h1).1
      rw [all_listed H.1] at h2
      cases h2
  | succ f ih =>
    intro listed a hfree hr hy H
    refine ⟨fun h => (by rw [h] at hr; cases hr), fun j hj => ?_⟩
    by_cases hji : j = i
    · subst hji; exact xOp_of_yield hi hy H
    · have h1 := H.2 j (ready_mono hj hji)
      obtain ⟨hjun, oj, hoj, hall⟩ := mem_ready.1 hj
      have hnot : ∀ e ∈ oj.after, Region.binds md e = true → e.on ≠ i := fun e he hb heq => by
        have h1 := hall e he hb
        rw [heq, getD_both (mem_ready.1 hr).1] at h1
        cases h1
      refine xOp_mono (fun a' h3 => ?_) (xOp_put hok hi hoj (hfree j oj hoj hji hjun hnot) (fun cs b => Region.noSelect_spec hs i oi cs b hi) (fun cs b => Region.noSelect_spec hs j oj cs b hoj) hy h1)
      refine ih (listed.setIfInBounds j true) a' (fun k ok hk hki hun hno => ?_) (ready_mono hr (Ne.symm hji)) h3.1 ?_
      · refine hfree k ok hk hki ?_ hno
        by_cases hjk : j = k
        · subst hjk; exact hjun
        · rw [getD_set_ne true hjk] at hun; exact hun
      · rw [Array.setIfInBounds_comm _ _ hji]
        exact h3.2

def Region.ordB (md : Region.Mode) (ops : Array Oper) : List Nat → Array Bool → Bool
  | [], listed => listed.all id
  | k :: ks, listed => ((Region.ready md ops listed).contains k && Region.free md ops listed k) && Region.ordB md ops ks (listed.setIfInBounds k true)
def xWalk (P : Program) (ops : Array Oper) (C : World → Prop) (prs : List Pr) (Q : Act → Prop) : List Nat → Act → Prop
  | [], a => Q a
  | k :: ks, a => xOp P ops C prs k (xWalk P ops C prs Q ks) a
theorem wpAnyX_ord {Q : Act → Prop} (hok : ∀ p ∈ prs, PrOk P ops p) (hs : Region.noSelect ops = true) : ∀ (ks : List Nat) (listed : Array Bool) (a : Act), Region.ordB md ops ks listed = true →
    xWalk P ops C prs Q ks a → wpAnyX P md ops C prs Q ks.length listed a
  | [], listed, a, hB, h => ⟨hB, h⟩
  | k :: ks, listed, a, hB, h => by
    simp only [Region.ordB, Bool.and_eq_true] at hB
    obtain ⟨⟨hr, hf⟩, hB'⟩ := hB
    have hr' : k ∈ Region.ready md ops listed := by simpa using hr
    obtain ⟨_, o, ho, _⟩ := mem_ready.1 hr'
    obtain ⟨v, hy, hk⟩ := yield_of_xOp ho h
    exact wpAnyX_first hok ho hs ks.length listed a (Region.free_spec ho hf) hr' hy (wpAnyX_ord hok hs ks _ _ hB' hk)
theorem xWalk_quiet {Q : Act → Prop} : ∀ (os : List Nat) (lo : List Oper) (fr : List Nat) (a : Act), os.map (fun k => ops[k]?) = lo.map some → (∀ i ∈ os, isAl prs i = false ∧ isSt prs i = false) →
    wpQuiet P ops C (xWalk P ops C prs Q fr) lo a → xWalk P ops C prs Q (os ++ fr) a
  | [], [], _, _, _, _, h => h
  | k :: os, o :: lo, fr, a, hl, hn, h => by
    simp only [List.map_cons, List.cons.injEq] at hl
    obtain ⟨n1, n2⟩ := hn k (by simp)
    show xOp P ops C prs k _ a
    unfold xOp
    rw [if_neg (by rw [n1]; simp), if_neg (by rw [n2]; simp)]
    have hq : qOp P ops C k (wpQuiet P ops C (xWalk P ops C prs Q fr) lo) a := by unfold qOp; simp only [hl.1]; exact h
    exact qOp_mono (fun a' h' => xWalk_quiet os lo fr a' hl.2 (fun i hi => hn i (by simp [hi])) h') hq
  | [], _ :: _, _, _, hl, _, _ => by simp at hl
  | _ :: _, [], _, _, hl, _, _ => by simp at hl
theorem xWalk_fresh {Q : Act → Prop} {a : Act} {tl : List Nat} (hv : ∀ p ∈ prs, a.eval p.e = p.v) (hQ : xWalk P ops C prs Q tl a) : ∀ (fr : List Nat), (∀ i ∈ fr, isAl prs i = true ∨ isSt prs i = true) → xWalk P ops C prs Q (fr ++ tl) a
  | [], _ => hQ
  | k :: fr, h => by
    have ih := xWalk_fresh hv hQ fr fun i hi => h i (by simp [hi])
    show xOp P ops C prs k _ a
    unfold xOp
    rcases h k (by simp) with h1 | h1
    · rw [if_pos h1]; exact ih
    · by_cases h2 : isAl prs k = true
      · rw [if_pos h2]; exact ih
      · rw [if_neg h2, if_pos h1]; exact ⟨fun p hp _ => hv p hp, ih⟩

/-- What a slot holds at the end it holds as soon as nobody writes it any more. -/
theorem wpAnyX_slot {A : Act} {d : Tmp} : ∀ (f : Nat) (listed : Array Bool) (a : Act), wpAnyX P md ops C prs (fun a' => a' = A) f listed a →
    (∀ i o, ops[i]? = some o → listed.getD i true = false → xdst prs i o ≠ some d) → a.tmps[d]? = A.tmps[d]?
  | 0, listed, a, h, _ => by rw [h.2]
  | f + 1, listed, a, h, hd => by
    obtain ⟨i, hi⟩ := List.exists_mem_of_ne_nil _ h.1
    obtain ⟨hun, o, ho, _⟩ := mem_ready.1 hi
    obtain ⟨v, _, hk⟩ := yield_of_xOp ho (h.2 i hi)
    have := wpAnyX_slot f _ _ hk fun j oj hj hjun => by
      by_cases hij : i = j
      · subst hij
        obtain rfl := Option.some.inj (ho.symm.trans hj)
        exact hd _ _ ho hun
      · rw [getD_set_ne true hij] at hjun
        exact hd j oj hj hjun
    rw [← this]
    have hne := hd i o ho hun
    cases hx : xdst prs i o with
    | none => rfl
    | some d' =>
      have : d' ≠ d := fun e => hne (by rw [hx, e])
      simp [Act.put, Array.getElem?_setIfInBounds_ne this]
end

/-- A world that is as W was below block number B, and of which X holds. -/
structure NearX (X : World → Prop) (B : Nat) (W : World) where
  it : World
  near : Below B W it
  x : X it
def Lst (X : World → Prop) (B : Nat) (W : World) : Prop := Lasts X ∧ Nonempty (NearX X B W)
theorem lst_true (B : Nat) (W : World) : Lst (fun _ => True) B W := ⟨lasts_true, ⟨⟨W, Below.refl _ _, trivial⟩⟩⟩
theorem nearX_cells (X : World → Prop) (B : Nat) (W : World) : ∀ (s : NearX X B W) b o, b < B → s.it.cell? ⟨b, o, none⟩ = W.cell? ⟨b, o, none⟩ :=
  fun s b o h => s.near.cell (p := ⟨b, o, none⟩) h
theorem Calls.nearX {P : Program} {f : FuncId} {args : Array Value} {X : World → Prop} {B : Nat} {W : World} {s : NearX X B W} {v : Value} (hX : Lasts X) (hB : B ≤ W.heap.size)
    (h : Calls P f args s.it (Ret s.it v)) : Calls P f args s.it fun e w'' => e = .returned v ∧ ∃ s' : NearX X B W, w'' = s'.it :=
  h.mono fun _ _ ⟨he, hb⟩ => ⟨he, ⟨⟨_, s.near.trans (hb.mono (Nat.le_trans hB s.near.size)), hX _ _ s.x hb⟩, rfl⟩⟩

section
variable {P : Program} {ops : Array Oper} {prs : List Pr} {B : Nat} {W : World}

/-- How the act and the world at hand lie to those of the walk that passes the new variables over. -/
structure Rel (prs : List Pr) (B : Nat) (W : World) (listed : Array Bool) (fb : Nat → Nat) (a0 a : Act) (w : World) : Prop where
  near : Below B W w
  defers : a.defers = a0.defers
  size : a.tmps.size = a0.tmps.size
  other : ∀ t, (∀ p ∈ prs, p.d ≠ t) → a.tmps[t]? = a0.tmps[t]?
  room : ∀ p ∈ prs, p.d < a.tmps.size
  early : ∀ p ∈ prs, listed.getD p.st false = true → listed.getD p.al false = true
  ptr : ∀ p ∈ prs, listed.getD p.al false = true → a.tmps[p.d]? = some (.pointer (some ⟨fb p.al, 0, none⟩)) ∧ B ≤ fb p.al ∧ Box w (fb p.al) (if listed.getD p.st false = true then p.v else p.z).cells.toList
  inj : ∀ p ∈ prs, ∀ q ∈ prs, listed.getD p.al false = true → listed.getD q.al false = true → p.al ≠ q.al → fb p.al ≠ fb q.al

theorem Rel.eval {listed : Array Bool} {fb : Nat → Nat} {a0 a : Act} {w : World} (h : Rel prs B W listed fb a0 a w) {x : Operand} (hx : ∀ p ∈ prs, x ≠ .tmp p.d) : a.eval x = a0.eval x := by
  cases x with
  | tmp t =>
    have := h.other t fun p hp e => hx p hp (by rw [e])
    simp [Act.eval, this]
  | _ => rfl

def putAll : List Pr → (Nat → Nat) → Act → Act
  | [], _, a => a
  | p :: ps, fb, a => putAll ps fb (a.put (some p.d) (.pointer (some ⟨fb p.al, 0, none⟩)))
theorem putAll_spec {fb : Nat → Nat} : ∀ (prs : List Pr) (a : Act), (putAll prs fb a).defers = a.defers ∧ (putAll prs fb a).tmps.size = a.tmps.size ∧ ((∀ t, (∀ p ∈ prs, p.d ≠ t) → (putAll prs fb a).tmps[t]? = a.tmps[t]?))
  | [], _ => ⟨rfl, rfl, fun _ _ => rfl⟩
  | p :: ps, a => by
    obtain ⟨h1, h2, h3⟩ := putAll_spec ps (a.put (some p.d) (.pointer (some ⟨fb p.al, 0, none⟩)))
    refine ⟨h1, by rw [putAll, h2]; simp [Act.put], fun t ht => ?_⟩
    rw [putAll, h3 t fun q hq => ht q (by simp [hq])]
    simp [Act.put, Array.getElem?_setIfInBounds_ne (ht p (by simp))]
theorem putAll_at {fb : Nat → Nat} : ∀ (prs : List Pr) (a : Act), (prs.map (·.d)).Nodup → (∀ p ∈ prs, p.d < a.tmps.size) → ∀ p ∈ prs, (putAll prs fb a).tmps[p.d]? = some (.pointer (some ⟨fb p.al, 0, none⟩))
  | [], _, _, _ => fun p hp => by cases hp
  | q :: ps, a, hn, hr => fun p hp => by
    simp only [List.map_cons, List.nodup_cons] at hn
    rcases List.mem_cons.1 hp with rfl | hp
    · rw [putAll, (putAll_spec ps _).2.2 p.d fun x hx e => hn.1 (List.mem_map.2 ⟨x, hx, e⟩)]
      have := hr p (by simp)
      simp [Act.put, this]
    · exact putAll_at ps _ hn.2 (fun x hx => by simpa [Act.put] using hr x (by simp [hx])) p hp
theorem Rel.all {listed : Array Bool} {fb : Nat → Nat} {a0 a : Act} {w : World} (h : Rel prs B W listed fb a0 a w) (hd : (prs.map (·.d)).Nodup) (hl : ∀ p ∈ prs, listed.getD p.al false = true) : a = putAll prs fb a0 := by
  obtain ⟨h1, h2, h3⟩ := putAll_spec (fb := fb) prs a0
  have h4 := putAll_at (fb := fb) prs a0 hd fun p hp => by rw [← h.size]; exact h.room p hp
  have : a.tmps = (putAll prs fb a0).tmps := by
    refine Array.ext_getElem? fun t => ?_
    by_cases ht : ∃ p ∈ prs, p.d = t
    · obtain ⟨p, hp, rfl⟩ := ht
      rw [h4 p hp, (h.ptr p hp (hl p hp)).1]
    · have ht' : ∀ p ∈ prs, p.d ≠ t := fun p hp e => ht ⟨p, hp, e⟩
      rw [h3 t ht', h.other t ht']
  have hdf := h.defers.trans h1.symm
  generalize putAll prs fb a0 = y at *
  cases a
  cases y
  simp only [Act.mk.injEq]
  exact ⟨this, hdf⟩

theorem Box.setCells {w : World} {b : Nat} {zs vs : List Value} (h : Box w b zs) (hl : zs.length = vs.length) : Box (w.setCells b 0 vs) b vs := by
  have hs : ∀ j, j < vs.length → (w.cell? ⟨b, 0 + j, none⟩).isSome = true := fun j hj => by rw [h.cells]; simp; omega
  refine ⟨?_, fun o => ?_, fun o => by rw [World.frozen?_setCells]; exact h.free o⟩
  · have : ∀ (vs : List Value) (o : Nat) (w : World), (w.setCells b o vs).heap.size = w.heap.size := by
      intro vs
      induction vs with
      | nil => intro o w; rfl
      | cons v vs ih => intro o w; rw [World.setCells, ih]; simp
    rw [this]; exact h.lt
  · by_cases ho : o < vs.length
    · have := World.cell?_setCells_in b vs 0 w hs o ho
      rw [Nat.zero_add] at this
      rw [this, List.getElem?_eq_getElem ho]
    · rw [World.cell?_setCells_out b vs 0 w ⟨b, o, none⟩ (fun _ _ => by simp only; omega), h.cells, List.getElem?_eq_none (by omega), List.getElem?_eq_none (by omega)]
theorem grown_setCells (b : Nat) : ∀ (vs : List Value) (o : Nat) (w : World), w.grownBy (w.setCells b o vs) (some b)
  | [], _, _ => ⟨rfl, rfl, rfl, Nat.le_refl _, fun _ _ _ => rfl⟩
  | u :: vs, k, w => by
    have h0 := grown_setCells b vs (k + 1) (w.setCell ⟨b, k, none⟩ u)
    have hsz : (w.setCell ⟨b, k, none⟩ u).heap.size = w.heap.size := by simp
    exact ⟨h0.os, h0.tape, h0.output, by have := h0.size; rw [hsz] at this; exact this, fun j hj hjk => (h0.block j (by rw [hsz]; exact hj) hjk).trans (Below.heap_setCell w ⟨b, k, none⟩ u j (fun e => hjk (by rw [e])))⟩

theorem below_of_grown_near {w w' : World} {b : Nat} (h : Below B W w) (hg : w.grownBy w' (some b)) (hb : B ≤ b) (hl : b < w.heap.size) : Below B W w' :=
  ⟨hg.os.trans h.os, hg.tape.trans h.tape, hg.output.trans h.output, Nat.le_trans h.size hg.size, fun k hk => (hg.block k (by omega) (by simp; omega)).trans (h.block k hk)⟩
theorem run_alloc_new {p : Pr} {info : TypeInfo} (hi : P.info? p.t = some info) (hz : info.zero = some p.z) {a : Act} {o : Oper} (ho : o.op = .alloc p.t) (w : World) :
    (execOp a.eval o).run P w = .ok (.value (.pointer (some ⟨w.heap.size, 0, none⟩))) (w.alloc (.cells p.z.cells p.t)) := by
  have hz' : (zeroValue p.t).run P w = .ok p.z w := by simp [zeroValue, typeInfo, hi, hz, Sem.run_bind, Sem.run_pure, Result.andThen, go_sem]
  unfold execOp
  simp only [ho, Instr.alloc, newVar, newRow, Sem.run_bind, Sem.run_pure, hz', Result.andThen_ok]
  simp [go_sem]
theorem run_store_box {p : Pr} {info : TypeInfo} (hi : P.info? p.t = some info) (hsz : info.size = p.v.cells.size) (h1 : ∀ u ∈ p.v.cells.toList, u.oneCell' = true) {a : Act} {o : Oper} {k : Nat}
    (ho : o.op = .store p.t (.tmp p.d) p.e) (hp : a.eval (.tmp p.d) = .pointer (some ⟨k, 0, none⟩)) (hv : a.eval p.e = p.v) {w : World} {zs : List Value} (hB : Box w k zs) (hl : zs.length = p.v.cells.toList.length) :
    (execOp a.eval o).run P w = .ok .skip (w.setCells k 0 p.v.cells.toList) := by
  have hst := run_storeCells_cells (P := P) k 0 p.v.cells.toList 0 w (fun j hj => by rw [hB.cells]; simp at hj ⊢; simp at hl; omega) (fun j hj => hB.free _) h1
  unfold execOp
  simp [ho, hp, hv, Instr.storeAt, Instr.sureAddr, storeVar, sizeOf, typeInfo, hi, hsz, Sem.run_bind, Sem.run_pure, hst, Result.andThen]

theorem others_same {o : Oper} (hs : ∀ cs b, o.op ≠ .select cs b) {listed : Array Bool} {fb : Nat → Nat} {a0 a : Act} {w : World} (h : Rel prs B W listed fb a0 a w) (hl : ∀ p ∈ prs, p.d ∉ o.looksAt ops) :
    execOp a.eval o = execOp a0.eval o ∧ Region.wanted o (yielded ops a.tmps) = Region.wanted o (yielded ops a0.tmps) := by
  refine ⟨execOp_congr o hs fun x hx => h.eval fun p hp e => hl p hp (List.mem_append_left _ (List.mem_filterMap.2 ⟨.tmp p.d, by rw [← e]; simpa using hx, rfl⟩)), ?_⟩
  unfold Region.wanted
  cases hg : o.guard with
  | none => rfl
  | some gw =>
    obtain ⟨g, want⟩ := gw
    have hy : yielded ops a.tmps g = yielded ops a0.tmps g := by
      unfold yielded
      cases ht : (ops[g]?).bind (·.dst) with
      | none => rfl
      | some t =>
        have := h.other t fun p hp e => hl p hp (by simp [Oper.looksAt, hg, ht, e])
        simp [this]
    simp only [hy]

/-- What is asked of the region, closed. -/
def Region.freshB (md : Region.Mode) (ops : Array Oper) (prs : List Pr) (os fr os2 : List Nat) : Bool :=
  (Region.noSelect ops && Region.ordB md ops (os ++ (fr ++ os2)) (Array.replicate ops.size false)) &&
  (((os ++ os2).all fun i => !isAl prs i && !isSt prs i) && (fr.all fun i => isAl prs i || isSt prs i)) &&
  (((List.range ops.size).all fun i => isAl prs i || isSt prs i || match ops[i]? with | some o => prs.all fun p => !(o.looksAt ops).contains p.d && o.dst != some p.d | none => true) &&
   ((List.range ops.size).all fun i => (List.range ops.size).all fun j => i == j || match (ops[i]?).bind (·.dst), (ops[j]?).bind (·.dst) with | some d, some d' => d != d' | _, _ => true)) &&
  ((prs.all fun p => Region.waitsFor md ops p.st p.al && !isSt prs p.al && !isAl prs p.st && prs.all fun q => match p.e with | .tmp t => t != q.d | _ => true) &&
   decide ((prs.map (·.d)).Nodup ∧ (prs.map (·.al)).Nodup ∧ (prs.map (·.st)).Nodup))

structure FreshOk (md : Region.Mode) (P : Program) (ops : Array Oper) (prs : List Pr) : Prop where
  sel : Region.noSelect ops = true
  ok : ∀ p ∈ prs, PrOk P ops p
  away : ∀ (i : Nat) (o : Oper), ops[i]? = some o → isAl prs i = false → isSt prs i = false → ∀ p ∈ prs, p.d ∉ o.looksAt ops ∧ o.dst ≠ some p.d
  once : ∀ (i j : Nat) (oi oj : Oper) (d : Tmp), ops[i]? = some oi → ops[j]? = some oj → oi.dst = some d → oj.dst = some d → i = j
  waits : ∀ p ∈ prs, Region.waitsFor md ops p.st p.al = true
  apart : ∀ p ∈ prs, isSt prs p.al = false ∧ isAl prs p.st = false
  es : ∀ p ∈ prs, ∀ q ∈ prs, p.e ≠ .tmp q.d
  ds : (prs.map (·.d)).Nodup
  al1 : ∀ p ∈ prs, ∀ q ∈ prs, p.al = q.al → p = q
  st1 : ∀ p ∈ prs, ∀ q ∈ prs, p.st = q.st → p = q
  d1 : ∀ p ∈ prs, ∀ q ∈ prs, p.d = q.d → p = q

theorem nodup_one {α : Type} {f : Pr → α} : ∀ {l : List Pr}, (l.map f).Nodup → ∀ p ∈ l, ∀ q ∈ l, f p = f q → p = q
  | [], _, p, hp, _, _, _ => by cases hp
  | x :: l, h, p, hp, q, hq, e => by
    simp only [List.map_cons, List.nodup_cons] at h
    rcases List.mem_cons.1 hp with hp | hp <;> rcases List.mem_cons.1 hq with hq | hq
    · rw [hp, hq]
    · exact absurd (List.mem_map.2 ⟨q, hq, by rw [← e, hp]⟩) h.1
    · exact absurd (List.mem_map.2 ⟨p, hp, by rw [e, hq]⟩) h.1
    · exact nodup_one h.2 p hp q hq e

theorem getD_set_self {listed : Array Bool} {i : Nat} (h : listed.getD i true = false) : (listed.setIfInBounds i true).getD i false = true := by
  rcases Nat.lt_or_ge i listed.size with h' | h'
  · simp [h']
  · simp [Array.getElem?_eq_none h'] at h

theorem fresh_sound {md : Region.Mode} {Q : Exit → Act → World → Prop} {A : Act} (F : FreshOk md P ops prs) (hBW : B ≤ W.heap.size)
    (hQ : ∀ listed fb a w, listed.size = ops.size → listed.all id = true → Rel prs B W listed fb A a w → Q .normal a w) :
    ∀ (f : Nat) (listed : Array Bool) (fb : Nat → Nat) (a0 a : Act) (w : World), listed.size = ops.size → (∀ X, Lst X B W → wpAnyX P md ops (fun w' => ∃ s : NearX X B W, w' = s.it) prs (fun a' => a' = A) f listed a0) →
      Rel prs B W listed fb a0 a w → wpAny P md ops Q f listed a w
  | 0, listed, fb, a0, a, w, hl, hA, R => by
    obtain ⟨h1, h2⟩ := hA _ (lst_true B W)
    subst h2
    refine ⟨?_, hQ listed fb a w hl h1 R⟩
    refine List.eq_nil_iff_forall_not_mem.2 fun j hj => ?_
    have := (mem_ready.1 hj).1
    rw [all_listed h1] at this
    cases this
  | f + 1, listed, fb, a0, a, w, hl, hA, R => by
    refine ⟨fun h0 => absurd h0 (hA _ (lst_true B W)).1, fun i hi => ?_⟩
    have hX : ∀ X, Lst X B W → xOp P ops (fun w' => ∃ s : NearX X B W, w' = s.it) prs i (wpAnyX P md ops (fun w' => ∃ s : NearX X B W, w' = s.it) prs (fun a' => a' = A) f (listed.setIfInBounds i true)) a0 := fun X h => (hA X h).2 i hi
    obtain ⟨hun, o, ho, hall⟩ := mem_ready.1 hi
    by_cases e1 : isAl prs i = true
    · -- the variable is laid
      have hX' := fun X h => by have := hX X h; unfold xOp at this; rw [if_pos e1] at this; exact this
      obtain ⟨p, hp, rfl⟩ := isAl_spec e1
      obtain ⟨oa, h1, h2, h3, h4⟩ := (F.ok p hp).al
      rw [ho] at h1
      obtain rfl := Option.some.inj h1
      obtain ⟨info, hi1, hi2, _⟩ := (F.ok p hp).zero
      have hrun := run_alloc_new hi1 hi2 (a := a) h2 w
      have hst0 : listed.getD p.st false = false := by
        cases hs : listed.getD p.st false with
        | false => rfl
        | true => have := R.early p hp hs; rw [getD_both hun] at this; cases this
      unfold wpOp
      simp only [ho]
      rw [if_pos (by unfold Region.wanted; rw [h4])]
      refine .inl ?_
      unfold Oper.wp
      rw [hrun]
      simp only [Oper.upon, h3]
      have hsz := R.near.size
      refine fresh_sound F hBW hQ f _ (fun j => if j = p.al then w.heap.size else fb j) a0 _ _ (by simp [hl]) hX' ⟨R.near.alloc (by omega) _, R.defers, by simpa [Act.put] using R.size, fun t ht => ?_, fun q hq => by simpa [Act.put] using R.room q hq, fun q hq h => ?_, fun q hq h => ?_, fun q hq r hr h h' hne => ?_⟩
      · simp [Act.put, Array.getElem?_setIfInBounds_ne (ht p hp)]
        exact R.other t ht
      · rw [getD_set_ne false (fun e => by have := (F.apart q hq).2; rw [← e, isAl_of hp] at this; cases this)] at h
        exact getD_set_true (R.early q hq h)
      · have hne : p.al ≠ q.st := fun e => by have := (F.apart q hq).2; rw [← e, isAl_of hp] at this; cases this
        rw [getD_set_ne false hne]
        by_cases e : q.al = p.al
        · obtain rfl := F.al1 q hq p hp e
          refine ⟨by simp [Act.put, R.room q hq], by simp; omega, ?_⟩
          rw [hst0]
          simp only [if_pos]
          exact Box.new_at rfl
        · rw [getD_set_ne false (Ne.symm e)] at h
          obtain ⟨g1, g2, g3⟩ := R.ptr q hq h
          have hd : p.d ≠ q.d := fun e' => e (by rw [F.d1 p hp q hq e'])
          simp only [if_neg e]
          refine ⟨by simp [Act.put, Array.getElem?_setIfInBounds_ne hd]; exact g1, g2, g3.al⟩
      · by_cases eq : q.al = p.al <;> by_cases er : r.al = p.al
        · exact absurd (eq.trans er.symm) hne
        · rw [getD_set_ne false (Ne.symm er)] at h'
          have := (R.ptr r hr h').2.2.lt
          simp only [if_pos eq, if_neg er]; omega
        · rw [getD_set_ne false (Ne.symm eq)] at h
          have := (R.ptr q hq h).2.2.lt
          simp only [if_pos er, if_neg eq]; omega
        · rw [getD_set_ne false (Ne.symm er)] at h'
          rw [getD_set_ne false (Ne.symm eq)] at h
          simp only [if_neg er, if_neg eq]
          exact R.inj q hq r hr h h' hne
    · by_cases e2 : isSt prs i = true
      · -- it is stored into
        have hX' := fun X h => by have := hX X h; unfold xOp at this; rw [if_neg e1, if_pos e2] at this; exact this
        obtain ⟨p, hp, rfl⟩ := isSt_spec e2
        obtain ⟨os, h1, h2, h3, h4⟩ := (F.ok p hp).st
        rw [ho] at h1
        obtain rfl := Option.some.inj h1
        obtain ⟨info, hi1, hi2, hi3⟩ := (F.ok p hp).zero
        have hal : listed.getD p.al false = true := by
          obtain ⟨o', ho', e, he, hb, hon⟩ := Region.waitsFor_spec (F.waits p hp)
          rw [ho] at ho'
          obtain rfl := Option.some.inj ho'
          have := hall e he hb
          rwa [hon] at this
        obtain ⟨g1, g2, g3⟩ := R.ptr p hp hal
        rw [if_neg (by rw [getD_both hun]; simp)] at g3
        have hv : a.eval p.e = p.v := (R.eval fun q hq => F.es p hp q hq).trans ((hX' _ (lst_true B W)).1 p hp rfl)
        have hpt : a.eval (.tmp p.d) = .pointer (some ⟨fb p.al, 0, none⟩) := by simp [Act.eval, g1]
        have hzl : p.z.cells.toList.length = p.v.cells.toList.length := by simpa using (F.ok p hp).zsz
        have hrun := run_store_box hi1 hi3 (F.ok p hp).one h2 hpt hv g3 hzl
        have hgr := grown_setCells (fb p.al) p.v.cells.toList 0 w
        unfold wpOp
        simp only [ho]
        rw [if_pos (by unfold Region.wanted; rw [h4])]
        refine .inl ?_
        unfold Oper.wp
        rw [hrun]
        simp only [Oper.upon, h3]
        refine fresh_sound F hBW hQ f _ fb a0 _ _ (by simp [hl]) (fun X h => (hX' X h).2) ⟨below_of_grown_near R.near hgr g2 g3.lt, R.defers, R.size, R.other, R.room, fun q hq h => ?_, fun q hq h => ?_, fun q hq r hr h h' hne => ?_⟩
        · by_cases e : q.st = p.st
          · obtain rfl := F.st1 q hq p hp e
            exact getD_set_true hal
          · rw [getD_set_ne false (Ne.symm e)] at h
            exact getD_set_true (R.early q hq h)
        · have hne : p.st ≠ q.al := fun e => by have := (F.apart q hq).1; rw [← e, isSt_of hp] at this; cases this
          rw [getD_set_ne false hne] at h
          obtain ⟨k1, k2, k3⟩ := R.ptr q hq h
          refine ⟨k1, k2, ?_⟩
          by_cases e : q.st = p.st
          · obtain rfl := F.st1 q hq p hp e
            rw [getD_set_self hun]
            simp only [if_pos]
            exact g3.setCells hzl
          · rw [getD_set_ne false (Ne.symm e)]
            exact k3.chg hgr (R.inj q hq p hp h hal fun e' => e (by rw [F.al1 q hq p hp e']))
        · rw [getD_set_ne false (fun e => by have := (F.apart q hq).1; rw [← e, isSt_of hp] at this; cases this)] at h
          rw [getD_set_ne false (fun e => by have := (F.apart r hr).1; rw [← e, isSt_of hp] at this; cases this)] at h'
          exact R.inj q hq r hr h h' hne
      · -- another operation
        have e1' : isAl prs i = false := by simpa using e1
        have e2' : isSt prs i = false := by simpa using e2
        have hX' := fun X h => by have := hX X h; unfold xOp at this; rw [if_neg e1, if_neg e2] at this; exact yieldsIn_of_qOp ho this
        have haw := F.away i o ho e1' e2'
        let X0 : World → Prop := fun w' => ∀ p ∈ prs, listed.getD p.al false = true → Box w' (fb p.al) (if listed.getD p.st false = true then p.v else p.z).cells.toList
        have hX0 : Lasts X0 := fun w1 w2 h hb p hp hl => (h p hp hl).below hb
        obtain ⟨v, hy, hk0⟩ := hX' X0 ⟨hX0, ⟨⟨w, R.near, fun p hp h => (R.ptr p hp h).2.2⟩⟩⟩
        have hk : ∀ X, Lst X B W → wpAnyX P md ops (fun w' => ∃ s : NearX X B W, w' = s.it) prs (fun a' => a' = A) f (listed.setIfInBounds i true) (a0.put o.dst v) := fun X hL => by
          obtain ⟨v', _, hk⟩ := hX' X hL
          have : a0.put o.dst v' = a0.put o.dst v := by
            cases hd : o.dst with
            | none => rfl
            | some d =>
              have hlast : ∀ j oj, ops[j]? = some oj → (listed.setIfInBounds i true).getD j true = false → xdst prs j oj ≠ some d := fun j oj hj hjun hx => by
                have hjd : oj.dst = some d := by
                  unfold xdst at hx
                  split at hx
                  · cases hx
                  · split at hx
                    · cases hx
                    · exact hx
                obtain rfl := F.once i j o oj d ho hj hd hjd
                rcases Nat.lt_or_ge i listed.size with h' | h'
                · simp [h'] at hjun
                · simp [Array.getElem?_eq_none h'] at hjun
              have s1 := wpAnyX_slot f _ _ hk0 hlast
              have s2 := wpAnyX_slot f _ _ hk hlast
              rw [hd] at s1 s2
              by_cases hr : d < a0.tmps.size
              · simp [Act.put, hr] at s1 s2
                rw [← s1] at s2
                rw [show v' = v from by simpa using s2]
              · simp [Act.put, Array.setIfInBounds, hr]
          rw [← this]
          exact hk
        obtain ⟨s1, s2⟩ := others_same (fun cs b => Region.noSelect_spec F.sel i o cs b ho) R fun p hp => (haw p hp).1
        have relP : ∀ w', Below B W w' → X0 w' → Rel prs B W (listed.setIfInBounds i true) fb (a0.put o.dst v) (a.put o.dst v) w' := fun w' hb hx => by
          have hal : ∀ p ∈ prs, (listed.setIfInBounds i true).getD p.al false = listed.getD p.al false := fun p hp => getD_set_ne false fun e => by rw [e, isAl_of hp] at e1'; cases e1'
          have hst : ∀ p ∈ prs, (listed.setIfInBounds i true).getD p.st false = listed.getD p.st false := fun p hp => getD_set_ne false fun e => by rw [e, isSt_of hp] at e2'; cases e2'
          have hput : ∀ (x y : Act), x.tmps.size = y.tmps.size → (x.put o.dst v).tmps.size = (y.put o.dst v).tmps.size := fun x y h => by cases o.dst <;> simp [Act.put, h]
          refine ⟨hb, by cases o.dst <;> exact R.defers, hput _ _ R.size, fun t ht => ?_, fun p hp => by have := R.room p hp; cases o.dst <;> simpa [Act.put] using this, fun p hp h => by rw [hal p hp]; rw [hst p hp] at h; exact R.early p hp h, fun p hp h => ?_, fun p hp q hq h h' => by rw [hal p hp] at h; rw [hal q hq] at h'; exact R.inj p hp q hq h h'⟩
          · have := R.other t ht
            cases hd : o.dst with
            | none => exact this
            | some d =>
              by_cases hdt : d = t
              · subst hdt
                simp [Act.put, R.size, Array.getElem?_setIfInBounds]
              · simp [Act.put, Array.getElem?_setIfInBounds_ne hdt]; exact this
          · rw [hal p hp] at h
            obtain ⟨k1, k2, k3⟩ := R.ptr p hp h
            refine ⟨?_, k2, by rw [hst p hp]; exact hx p hp h⟩
            cases hd : o.dst with
            | none => exact k1
            | some d =>
              have hne : d ≠ p.d := fun e => (haw p hp).2 (by rw [hd, e])
              simp [Act.put, Array.getElem?_setIfInBounds_ne hne]; exact k1
        have hx0 : X0 w := fun p hp h => (R.ptr p hp h).2.2
        unfold wpOp
        simp only [ho]
        rw [s2]
        rcases hy with ⟨hw, hv⟩ | ⟨hw, rfl⟩
        · rw [if_pos hw]
          refine .inl ?_
          have h3 := hv w ⟨⟨w, R.near, hx0⟩, rfl⟩
          unfold Oper.quietAt at h3
          unfold Oper.wp
          rw [s1]
          generalize (execOp a0.eval o).run P w = r at *
          cases r with
          | ok n w' =>
            cases n <;> simp only [Oper.quietUpon] at h3 <;> simp only [Oper.upon]
            case value u =>
              obtain ⟨q1, q2⟩ := h3
              rw [q1, q2]
              exact fresh_sound F hBW hQ f _ fb _ _ _ (by simp [hl]) hk (relP w R.near hx0)
            case skip =>
              obtain ⟨q1, q2⟩ := h3
              rw [q1, ← q2]
              exact fresh_sound F hBW hQ f _ fb _ _ _ (by simp [hl]) hk (relP w R.near hx0)
            case enter g args =>
              obtain ⟨q1, hc⟩ := h3
              rw [q1]
              exact hc.mono fun e w'' ⟨he, s, hs⟩ => by subst he; subst hs; exact fresh_sound F hBW hQ f _ fb _ _ _ (by simp [hl]) hk (relP s.it s.near s.x)
          | halt x w' => simp only [Oper.quietUpon] at h3
        · rw [if_neg (by rw [hw]; simp)]
          exact fresh_sound F hBW hQ f _ fb _ _ _ (by simp [hl]) hk (relP w R.near hx0)

theorem freshB_ok {md : Region.Mode} {os fr os2 : List Nat} (h : Region.freshB md ops prs os fr os2 = true) (hok : ∀ p ∈ prs, PrOk P ops p) : FreshOk md P ops prs := by
  simp only [Region.freshB, Bool.and_eq_true, decide_eq_true_eq] at h
  obtain ⟨⟨⟨⟨hs, _⟩, _⟩, h3, h4⟩, h5, h6, h7, h8⟩ := h
  have h5' : ∀ p ∈ prs, ((Region.waitsFor md ops p.st p.al = true ∧ isSt prs p.al = false) ∧ isAl prs p.st = false) ∧ ∀ q ∈ prs, (match p.e with | .tmp t => t != q.d | _ => true) = true := fun p hp => by
    have := List.all_eq_true.1 h5 p hp
    simpa only [Bool.and_eq_true, Bool.not_eq_true', List.all_eq_true] using this
  refine ⟨hs, hok, fun i o ho e1 e2 p hp => ?_, fun i j oi oj d hi hj hdi hdj => ?_, fun p hp => (h5' p hp).1.1.1, fun p hp => ⟨(h5' p hp).1.1.2, (h5' p hp).1.2⟩, fun p hp q hq e => ?_, h6, nodup_one h7, nodup_one h8, nodup_one h6⟩
  · have hlt : i < ops.size := (Array.getElem?_eq_some_iff.1 ho).1
    have := List.all_eq_true.1 h3 i (List.mem_range.2 hlt)
    rw [e1, e2, ho] at this
    simp only [Bool.false_or, List.all_eq_true, Bool.and_eq_true, Bool.not_eq_true', bne_iff_ne, ne_eq] at this
    obtain ⟨g1, g2⟩ := this p hp
    exact ⟨fun hm => by simp [hm] at g1, g2⟩
  · have hlt : i < ops.size := (Array.getElem?_eq_some_iff.1 hi).1
    have hlt' : j < ops.size := (Array.getElem?_eq_some_iff.1 hj).1
    have := List.all_eq_true.1 (List.all_eq_true.1 h4 i (List.mem_range.2 hlt)) j (List.mem_range.2 hlt')
    rw [hi, hj] at this
    simp only [Option.bind_some, hdi, hdj, Bool.or_eq_true, beq_iff_eq, bne_self_eq_false, Bool.false_eq_true, or_false] at this
    exact this
  · have := (h5' p hp).2 q hq
    rw [e] at this
    simp at this

theorem quiet_mono {C : World → Prop} : ∀ (lo : List Oper) (a : Act) (K K' : Act → Prop), (∀ a, K a → K' a) → wpQuiet P ops C K lo a → wpQuiet P ops C K' lo a
  | [], a, K, K', h, hh => h _ hh
  | o :: lo, a, K, K', h, hh => by
    unfold wpQuiet at *
    split
    · rename_i hw; rw [if_pos hw] at hh; exact Oper.quiet_mono (fun a => quiet_mono lo a K K' h) hh
    · rename_i hw; rw [if_neg hw] at hh; exact quiet_mono lo _ K K' h hh

/-- A region that draws its order and lays new variables: the other operations walked once. -/
theorem wp_region_near_fresh {id : Nat} {Q : Exit → Act → World → Prop} {a : Act} {w : World} {l : List Oper} (prs : List Pr) (os fr os2 : List Nat) (lo lo2 : List Oper) (A : Act) (hm : P.follows .mixedOrders = true)
    (hlo : os.map (fun k => l.toArray[k]?) = lo.map some) (hlo2 : os2.map (fun k => l.toArray[k]?) = lo2.map some) (hsz : (os ++ (fr ++ os2)).length = l.length) (hB : Region.freshB .any l.toArray prs os fr os2 = true) (hok : ∀ p ∈ prs, PrOk P l.toArray p) (hd : ∀ p ∈ prs, p.d < a.tmps.size)
    (hA : ∀ X, Lst X w.heap.size w → (∀ (s : NearX X w.heap.size w) b o, b < w.heap.size → s.it.cell? ⟨b, o, none⟩ = w.cell? ⟨b, o, none⟩) →
      wpQuiet P l.toArray (fun w' => ∃ s : NearX X w.heap.size w, w' = s.it) (fun a' => (∀ p ∈ prs, a'.eval p.e = p.v) ∧ wpQuiet P l.toArray (fun w' => ∃ s : NearX X w.heap.size w, w' = s.it) (fun a' => a' = A) lo2 a') lo a)
    (hQ : ∀ (fb : Nat → Nat) (w' : World), Below w.heap.size w w' → (∀ p ∈ prs, w.heap.size ≤ fb p.al ∧ Box w' (fb p.al) p.v.cells.toList) → (∀ p ∈ prs, ∀ q ∈ prs, p.al ≠ q.al → fb p.al ≠ fb q.al) → Q .normal (putAll prs fb A) w') :
    (Code.region id l.toArray true).wp P Q a w := by
  have F := freshB_ok (P := P) hB hok
  simp only [Region.freshB, Bool.and_eq_true, decide_eq_true_eq] at hB
  obtain ⟨⟨⟨⟨hs, hord⟩, hos, hfr⟩, _⟩, _⟩ := hB
  have hos' : ∀ i ∈ os ++ os2, isAl prs i = false ∧ isSt prs i = false := fun i hi => by
    have := List.all_eq_true.1 hos i hi
    simpa using this
  have hfr' : ∀ i ∈ fr, isAl prs i = true ∨ isSt prs i = true := fun i hi => by
    have := List.all_eq_true.1 hfr i hi
    simpa using this
  refine wp_region_any hm ?_
  have hall : ∀ X, Lst X w.heap.size w → wpAnyX P .any l.toArray (fun w' => ∃ s : NearX X w.heap.size w, w' = s.it) prs (fun a' => a' = A) l.toArray.size (Array.replicate l.toArray.size false) a := fun X hX => by
    have h1 := hA X hX (nearX_cells X _ _)
    have h2 := xWalk_quiet (P := P) (ops := l.toArray) (C := fun w' => ∃ s : NearX X w.heap.size w, w' = s.it) (prs := prs) (Q := fun a' => a' = A) os lo (fr ++ os2) a hlo (fun i hi => hos' i (List.mem_append_left _ hi)) (by
      refine quiet_mono lo a _ _ (fun a' ⟨hv, hq⟩ => xWalk_fresh (Q := fun a' => a' = A) hv ?_ fr hfr') h1
      have := xWalk_quiet (P := P) (ops := l.toArray) (C := fun w' => ∃ s : NearX X w.heap.size w, w' = s.it) (prs := prs) (Q := fun a' => a' = A) os2 lo2 [] a' hlo2 (fun i hi => hos' i (List.mem_append_right _ hi)) hq
      rwa [List.append_nil] at this)
    have h3 := wpAnyX_ord (md := .any) hok hs (os ++ (fr ++ os2)) _ a hord h2
    rw [hsz] at h3
    simpa using h3
  have hf0 : ∀ j, (Array.replicate l.toArray.size false).getD j false = false := fun j => getD_replicate_false _ _
  refine fresh_sound F (B := w.heap.size) (W := w) (Nat.le_refl _) (fun listed fb a' w' hl h1 R => ?_) _ _ (fun _ => 0) a a _ (by simp) hall ⟨(Below.refl _ _).drew, rfl, rfl, fun _ _ => rfl, hd, fun p _ h => (by rw [hf0] at h; cases h), fun p _ h => (by rw [hf0] at h; cases h), fun p _ q _ h => (by rw [hf0] at h; cases h)⟩
  have inr : ∀ j, j < l.toArray.size → listed.getD j false = true := fun j hj => by
    have := Array.all_eq_true.1 h1 j (by omega)
    have hj' : j < listed.size := by omega
    simp [hj']
    simpa using this
  have hal : ∀ p ∈ prs, listed.getD p.al false = true := fun p hp => by
    obtain ⟨oa, h, _⟩ := (hok p hp).al
    exact inr _ (Array.getElem?_eq_some_iff.1 h).1
  have hst : ∀ p ∈ prs, listed.getD p.st false = true := fun p hp => by
    obtain ⟨oa, h, _⟩ := (hok p hp).st
    exact inr _ (Array.getElem?_eq_some_iff.1 h).1
  rw [R.all F.ds hal]
  refine hQ fb w' R.near (fun p hp => ?_) fun p hp q hq hne => R.inj p hp q hq (hal p hp) (hal q hq) hne
  obtain ⟨_, g2, g3⟩ := R.ptr p hp (hal p hp)
  rw [if_pos (hst p hp)] at g3
  exact ⟨g2, g3⟩

theorem all_nil {φ : Pr → Prop} : ∀ p ∈ ([] : List Pr), φ p := fun p h => by cases h
theorem all_cons {φ : Pr → Prop} {p : Pr} {l : List Pr} (h : φ p) (t : ∀ q ∈ l, φ q) : ∀ q ∈ p :: l, φ q := fun q hq => by
  rcases List.mem_cons.1 hq with rfl | hq
  · exact h
  · exact t q hq
def pick : List Bool → List Oper → List Oper
  | true :: m, o :: l => o :: pick m l
  | false :: m, _ :: l => pick m l
  | _, _ => []
theorem wp_region_fresh {id : Nat} {Q : Exit → Act → World → Prop} {a : Act} {w : World} {l : List Oper} (prs : List Pr) (os fr os2 : List Nat) (m m2 : List Bool) (hm : P.follows .mixedOrders = true)
    (hlo : os.map (fun k => l.toArray[k]?) = (pick m l).map some) (hlo2 : os2.map (fun k => l.toArray[k]?) = (pick m2 l).map some) (hsz : (os ++ (fr ++ os2)).length = l.length) (hB : Region.freshB .any l.toArray prs os fr os2 = true) (hok : ∀ p ∈ prs, PrOk P l.toArray p) (hd : ∀ p ∈ prs, p.d < a.tmps.size)
    (h : ∃ A, (∀ X, Lst X w.heap.size w → (∀ (s : NearX X w.heap.size w) b o, b < w.heap.size → s.it.cell? ⟨b, o, none⟩ = w.cell? ⟨b, o, none⟩) →
        wpQuiet P l.toArray (fun w' => ∃ s : NearX X w.heap.size w, w' = s.it) (fun a' => (∀ p ∈ prs, a'.eval p.e = p.v) ∧ wpQuiet P l.toArray (fun w' => ∃ s : NearX X w.heap.size w, w' = s.it) (fun a' => a' = A) (pick m2 l) a') (pick m l) a) ∧
      (∀ (fb : Nat → Nat) (w' : World), Below w.heap.size w w' → (∀ p ∈ prs, w.heap.size ≤ fb p.al ∧ Box w' (fb p.al) p.v.cells.toList) → (∀ p ∈ prs, ∀ q ∈ prs, p.al ≠ q.al → fb p.al ≠ fb q.al) → Q .normal (putAll prs fb A) w')) :
    (Code.region id l.toArray true).wp P Q a w :=
  let ⟨A, h1, h3⟩ := h
  wp_region_near_fresh prs os fr os2 (pick m l) (pick m2 l) A hm hlo hlo2 hsz hB hok hd h1 h3
end
end Go.Proofs.Ythodfihdmhkgeaa
