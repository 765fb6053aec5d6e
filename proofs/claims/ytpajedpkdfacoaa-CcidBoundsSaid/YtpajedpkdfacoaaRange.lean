/- 'for x := range seq { .. }' over an iterator that has a contract, told by parts of memory: the loop's record is one part, the body's own are others. -/
import Derived.Test.YtpajedpkdfacoaaMore
import Derived.RangeFuncNested
import Derived.RangeFuncBound
import Derived.OwnWalkIn
namespace Go.Proofs.Ytpajedpkdfacoaa
set_option linter.unusedSimpArgs false
set_option linter.unusedVariables false
open Go Go.RowKit

section
variable {w w' W : World} {S S0 : Nat → Prop} {l : List Asn} {p q : Asn}
theorem St.perm {l' : List Asn} (h : St W S0 w l) (hp : l.Perm l') : St W S0 w l' := by
  obtain ⟨h1, S, h2, h3⟩ := h
  exact ⟨h1, S, h2.perm hp, h3⟩
theorem St.putObj {b : Nat} {o : Obj} (i : Nat) (h : St W S0 w l) (hi : l[i]? = some (objA b o)) (o' : Obj) : St W S0 (w.putObj b o') (objA b o' :: l.eraseIdx i) := by
  obtain ⟨S1, ⟨a, a'⟩, _, c⟩ := h.at i hi
  have hb : b < w.heap.size := (Array.getElem?_eq_some_iff.1 a).1
  refine c _ [_] ⟨⟨rfl, rfl, rfl, by simp, fun x _ hn => World.putObj_heap_other (fun e => hn ((a' x).2 e))⟩, S1, Sep.one ⟨World.putObj_heap_same hb, a'⟩, fun _ h => .inl h⟩
/-- In place. -/
theorem St.putIn {b : Nat} {o : Obj} {l1 l2 : List Asn} (h : St W S0 w (l1 ++ objA b o :: l2)) (o' : Obj) : St W S0 (w.putObj b o') (l1 ++ objA b o' :: l2) := by
  have := h.putObj (b := b) (o := o) l1.length (by simp) o'
  rw [List.eraseIdx_append_of_length_le (Nat.le_refl _), Nat.sub_self, List.eraseIdx_zero, List.tail_cons] at this
  exact this.perm List.perm_middle.symm
theorem St.objIn {b : Nat} {o : Obj} {l1 l2 : List Asn} (h : St W S0 w (l1 ++ objA b o :: l2)) : w.heap[b]? = some o := h.obj (b := b) (o := o) l1.length (by simp)
end

section
variable {F : Fence} {n : Nat} {P : Program} {α : Type} {W : World} {S0 : Nat → Prop}
/-- The iterator gf, with what it has captured, tells xs, whose memory A it reads: whatever the rounds do with parts of their own. -/
def Iter (F : Fence) (n : Nat) (P : Program) (gf : Nat) (lb : Array Value) (encs : α → Array Value) (xs : List α) (A : List Asn) (W : World) (S0 : Nat → Prop) : Prop :=
  ∀ (l : Nat) (w : World) (J Jx : List α → List Asn), St W S0 w (A ++ J []) →
    (∀ (p : List Asn) (pre : List α) (x : α) (suf : List α) (w1 : World), xs = pre ++ x :: suf → St W S0 w1 (p ++ J pre) →
      YieldAt F (n - 1) P l (encs x) w1 fun e w' => (e = .returned (.bool true) ∧ St W S0 w' (p ++ J (pre ++ [x]))) ∨ (e = .returned (.bool false) ∧ St W S0 w' (p ++ Jx (pre ++ [x])))) →
    CallsIn F n P gf (#[.func (.yield l) #[] #[]] ++ lb) w fun e w' => (∃ v, e = .returned v) ∧
      (St W S0 w' (A ++ J xs) ∨ ∃ pre x suf, xs = pre ++ x :: suf ∧ St W S0 w' (A ++ Jx (pre ++ [x])))

/-- How a round may be left. -/
def stPost (W : World) (S0 : Nat → Prop) (p : List Asn) (I : List α → List Asn) (Ix : Code → List α → List Asn) (xs : List α) : Exit → Act → World → Prop
  | .normal, _, w' => St W S0 w' (p ++ I xs)
  | .ret, _, w' => St W S0 w' (p ++ Ix .ret xs)
  | .exit id, _, w' => St W S0 w' (p ++ Ix (.exit id) xs)
  | .goto t, _, w' => St W S0 w' (p ++ Ix (.goto t) xs)
  | .panic _, _, _ => False
  | .outgrown, _, _ => False

/-- The mark that a loop over a function leaves with its activation. -/
def markD (D : Nat) : Deferred := { target := .collected D, args := #[] }

theorem wpIn_range_st {g : Operand} {ps : Array Tmp} {assign body : Code} {Q : Exit → Act → World → Prop} {a : Act} {w : World}
    (hro : F.round = none) (h1 : 1 ≤ n) {gf : Nat} {lb : Array Value} (hg : a.eval g = .func (.func gf) #[] lb) (hFg : F.fn gf) (eg : ∀ args w, (callFunc gf args).run P w = .ok (.enter gf args) w)
    {encs : α → Array Value} {xs : List α} {A : List Asn} (hit : Iter F (n - 1) P gf lb encs xs A W S0) (hps : ∀ x, (encs x).size = ps.size)
    (I : List α → List Asn) (Ix : Code → List α → List Asn) (h0 : St W S0 w (A ++ I []))
    (hround : ∀ (l : Nat) (pre : List α) (x : α) (suf : List α) (w1 : World), xs = pre ++ x :: suf →
      assign.wpIn (F.inRound l) (n - 1 - 1) P (Exit.then (fun a2 w2 => w2 = w1 ∧ ∀ (p : List Asn) (w3 : World), St W S0 w3 (p ++ I pre) → body.wpIn (F.inRound l) (n - 1 - 1) P (stPost W S0 p I Ix (pre ++ [x])) a2 w3) (fun _ _ _ => False))
        { tmps := (ps.zip (encs x)).foldl (fun t (p, v) => t.setIfInBounds p v) a.tmps, defers := [] } w1)
    (hdone : ∀ (D : Nat) (w' : World), St W S0 w' (objA D (.deferred (some [])) :: (A ++ I xs)) → Q .normal { a with defers := markD D :: a.defers } w')
    (hstop : ∀ (D : Nat) (c : Code) (pre : List α) (x : α) (suf : List α) (w' : World), xs = pre ++ x :: suf → St W S0 w' (objA D (.deferred (some [])) :: (A ++ Ix c (pre ++ [x]))) → c.wpIn F n P Q { a with defers := markD D :: a.defers } w') :
    (Code.rangeFunc g ps assign body).wpIn F n P Q a w := by
  refine wpIn_rangeFunc ?_
  intro fn hfn
  rw [hro]
  obtain ⟨rec, hrec⟩ : ∃ rec : LoopState → Option Code → Loop, rec = fun st pe => { state := st, pending := pe, fn, tmps := a.tmps, params := ps, assign, body, defers := w.heap.size } := ⟨_, rfl⟩
  obtain ⟨D, hD⟩ : ∃ D, D = w.heap.size := ⟨_, rfl⟩
  have hSt : St W S0 ((w.alloc (.deferred (some []))).alloc (.loop (rec .ready none))) (A ++ (objA (D + 1) (.loop (rec .ready none)) :: objA D (.deferred (some [])) :: I [])) := by
    have h2 := (h0.newObj (.deferred (some []))).newObj (.loop (rec .ready none))
    rw [World.size_alloc, ← hD] at h2
    exact h2.perm (List.perm_append_comm_assoc [_, _] A (I []))
  refine ⟨w.heap.size + 1, [markD w.heap.size], (w.alloc (.deferred (some []))).alloc (.loop (rec .ready none)), { target := .fn (.func gf) lb, args := #[.func (.yield (w.heap.size + 1)) #[] #[]] }, (w.alloc (.deferred (some []))).alloc (.loop (rec .ready none)), gf,
    #[.func (.yield (w.heap.size + 1)) #[] #[]] ++ lb, (w.alloc (.deferred (some []))).alloc (.loop (rec .ready none)), ?_, ?_, ?_, ?_, fun _ => h1, ?_⟩
  · rw [hrec]; exact run_enterLoop_outer _ _ _ _ _
  · simp only [resolve, hg]
    simp [go_sem]
  · intro f' hf'; simp [Target.leads] at hf'; subst hf'; exact hFg
  · simp [invoke, go_sem, eg]
  · rw [← hD]
    refine (hit (D + 1) _ (fun pre => objA (D + 1) (.loop (rec .ready none)) :: objA D (.deferred (some [])) :: I pre)
      (fun pre => [exA fun c => sepA (objA (D + 1) (.loop (rec .done (some c))) :: objA D (.deferred (some [])) :: Ix c pre)]) hSt ?_).mono ?_
    · -- one round
      intro p pre x suf w1 hx hs
      have hl := St.objIn hs
      have hy := run_yield (P := P) (args := encs x) hl (by rw [hrec]; exact hps x)
      rw [hrec] at hy
      refine ⟨fn, _, assign, body, hy, roundIn_of_wpIn hfn (wpIn_mono (hround _ pre x suf w1 hx) ?_)⟩
      rintro e2 a2 w2 h22
      cases e2 with
      | exit id => exact h22.elim
      | goto t => exact h22.elim
      | ret => exact h22.elim
      | panic ch => exact h22.elim
      | outgrown => exact h22.elim
      | normal =>
      obtain ⟨rfl, hbody⟩ := h22
      refine ⟨_, run_beginRound hl (by rw [hrec]), ?_⟩
      have hs2 := St.putIn hs (.loop { rec .ready none with state := .busy })
      have hs3 : St W S0 (w2.putObj (D + 1) (.loop { rec .ready none with state := .busy })) ((p ++ [objA (D + 1) (.loop { rec .ready none with state := .busy }), objA D (.deferred (some []))]) ++ I pre) := by
        rw [List.append_assoc]; exact hs2
      refine wpIn_mono (hbody _ _ hs3) ?_
      have fin : ∀ (jump : Option Code) (w3 : World) (r : List Asn), St W S0 w3 ((p ++ [objA (D + 1) (.loop { rec .ready none with state := .busy }), objA D (.deferred (some []))]) ++ r) →
          (Instr.endRound (D + 1) jump).run P w3 = .ok (.bool jump.isNone) (w3.putObj (D + 1) (.loop (rec (if jump.isNone then .ready else .done) jump))) ∧
          St W S0 (w3.putObj (D + 1) (.loop (rec (if jump.isNone then .ready else .done) jump))) (p ++ (objA (D + 1) (.loop (rec (if jump.isNone then .ready else .done) jump)) :: objA D (.deferred (some [])) :: r)) := fun jump w3 r h => by
        rw [List.append_assoc] at h
        have h' : St W S0 w3 (p ++ (objA (D + 1) (.loop { rec .ready none with state := .busy }) :: objA D (.deferred (some [])) :: r)) := h
        have hl3 := St.objIn h'
        have := run_endRound (P := P) jump hl3
        have h4 := St.putIn h' (.loop (rec (if jump.isNone then .ready else .done) jump))
        refine ⟨?_, h4⟩
        rw [this, hrec]
      rintro e a3 w3 hp
      cases e with
      | normal =>
        obtain ⟨hr, h4⟩ := fin none w3 _ hp
        exact ⟨_, _, hr, .inl ⟨rfl, h4⟩⟩
      | ret =>
        obtain ⟨hr, h4⟩ := fin (some .ret) w3 _ hp
        exact ⟨_, _, hr, .inr ⟨rfl, (St.ex (l := p) (fun c => sepA (objA (D + 1) (.loop (rec .done (some c))) :: objA D (.deferred (some [])) :: Ix c (pre ++ [x]))) .ret (St.join _ p (h4.perm List.perm_append_comm))).perm (List.perm_append_comm (l₁ := [_]))⟩⟩
      | exit id =>
        obtain ⟨hr, h4⟩ := fin (some (.exit id)) w3 _ hp
        exact ⟨_, _, hr, .inr ⟨rfl, (St.ex (l := p) (fun c => sepA (objA (D + 1) (.loop (rec .done (some c))) :: objA D (.deferred (some [])) :: Ix c (pre ++ [x]))) (.exit id) (St.join _ p (h4.perm List.perm_append_comm))).perm (List.perm_append_comm (l₁ := [_]))⟩⟩
      | goto t =>
        obtain ⟨hr, h4⟩ := fin (some (.goto t)) w3 _ hp
        exact ⟨_, _, hr, .inr ⟨rfl, (St.ex (l := p) (fun c => sepA (objA (D + 1) (.loop (rec .done (some c))) :: objA D (.deferred (some [])) :: Ix c (pre ++ [x]))) (.goto t) (St.join _ p (h4.perm List.perm_append_comm))).perm (List.perm_append_comm (l₁ := [_]))⟩⟩
      | panic ch => exact hp.elim
      | outgrown => exact hp.elim
    · rintro e w2 ⟨⟨v, rfl⟩, (h | ⟨pre, x, suf, hx, h⟩)⟩
      · have hl := St.objIn h
        have h2 := (St.putIn h (.loop { rec .ready none with state := .exhausted })).perm (l' := objA (D + 1) (.loop { rec .ready none with state := .exhausted }) :: objA D (.deferred (some [])) :: (A ++ I xs)) (List.perm_append_comm_assoc [_, _] A (I xs)).symm
        exact ⟨none, _, by have := run_endLoop (P := P) hl (by rw [hrec]; simp); rw [hrec] at this ⊢; exact this, hdone D _ (h2.drop 0 rfl)⟩
      · have h' := h.perm (List.perm_append_comm (l₁ := A) (l₂ := [_]))
        obtain ⟨c, h3⟩ := St.unex 0 h' rfl
        have h4 : St W S0 w2 ([] ++ (objA (D + 1) (.loop (rec .done (some c))) :: objA D (.deferred (some [])) :: (Ix c (pre ++ [x]) ++ A))) := St.unsep 0 h3 rfl
        have hl := St.objIn h4
        have h5 := (St.putIn h4 (.loop { rec .done (some c) with state := .exhausted })).drop 0 rfl
        have h6 : St W S0 _ (objA D (.deferred (some [])) :: (A ++ Ix c (pre ++ [x]))) := h5.perm (List.Perm.cons _ List.perm_append_comm)
        exact ⟨some c, _, by have := run_endLoop (P := P) hl (by rw [hrec]; simp); rw [hrec] at this ⊢; exact this, hstop D c pre x suf _ hx h6⟩
/-- 'append(v, x..)' within a fence, where what is put behind was just laid in a new block. -/
theorem wpListIn_appS {ops : Array Oper} {rest : List Oper} {o : Oper} {a : Act} {Q : Exit → Act → World → Prop} {te : TypeId} {w : World} {l : List Asn} (hgd : o.guard = none) (s x : Operand) (t : TypeId)
    (ho : o.op = .call { callee := .builtin .append, args := #[s, x], argTypes := #[t, t] })
    (e : TypeId) (i : TypeInfo) (z : Value) (size bytes : Nat) (ht : P.underlying t = some (.slice e)) (hi : P.info? e = some i) (hz : i.zero = some z)
    (hsize : i.size = size) (hby : i.bytes = bytes) (hzs : z.cells.size = size) (hsz : 0 < size)
    (k : Nat) (v : Value) (m0 : Nat) (xs : List Value) (hs : a.eval s = v) (H : St W S0 w l) (hk : l[k]? = some (rowA size v m0 xs))
    (m c : Nat) (news : List Value) {q : Nat} (hx : a.eval x = .slice (some ⟨q, 0, none⟩) m c) (hl : news.length = m * size) (h1 : ∀ u ∈ news, u.oneCell' = true)
    (hsm : m0 + m ≤ 1000000000) (hbs : bytes ≤ 100000)
    (h : ∀ v' w', St W S0 w' (rowA size v' (m0 + m) (xs ++ news) :: l.eraseIdx k) → wpListIn F n P ops Q rest (a.put o.dst v') w') (hq : q = w.heap.size := by simp) :
    wpListIn F n P ops Q (o :: rest) a (w.alloc (.cells news.toArray te)) := by
  subst hq
  have hb : (m0 + m) * bytes ≤ 1000000000 * 100000 := Nat.mul_le_mul hsm hbs
  refine wpListIn_plain hgd fun K hK' => ?_
  obtain ⟨v', w', hrun, h2, h3, h4⟩ := run_app (P := P) 0 t o.type e i z size bytes ht hi hz hsize hby hzs hsz v m0 xs ((H.row k hk).alloc (.cells news.toArray te)) ⟨w.heap.size, 0, none⟩ m c news hl (fun j u hu => by
    have hadd : (⟨w.heap.size, 0, none⟩ : Addr).add j = ⟨w.heap.size, j, none⟩ := by unfold Addr.add; split <;> simp_all
    rw [hadd, World.cell?_alloc_new]
    simpa using hu) h1 (by unfold maxLen; omega) (by omega) (Nat.zero_le _)
  unfold Oper.wpIn
  refine ⟨?_, ?_⟩
  · simp [Oper.about, ho, resolve, Target.leads, Sem.run_pure]
  · rw [Oper.semAt_plain F _ _ (by rw [ho]; intro c hc'; cases hc')]
    simp [execOp, ho, resolve, invoke, builtin, hs, hx, hrun, Result.andThen]
    refine hK' _ _ (h v' w' ((H.skip _).app k hk h2 h3 h4))
end
end Go.Proofs.Ytpajedpkdfacoaa
