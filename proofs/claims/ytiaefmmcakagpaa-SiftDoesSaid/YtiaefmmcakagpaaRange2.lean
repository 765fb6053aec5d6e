/- 'for i, x := range seq { .. }' where the round's own variable lies in memory. -/
import Derived.Test.YtiaefmmcakagpaaRange
namespace Go.Proofs.Ytiaefmmcakagpaa
set_option linter.unusedSimpArgs false
set_option linter.unusedVariables false
open Go Go.RowKit
section
variable {F : Fence} {n : Nat} {P : Program} {α : Type} {W : World} {S0 : Nat → Prop}
theorem wpIn_range_st2 {g : Operand} {ps : Array Tmp} {assign body : Code} {Q : Exit → Act → World → Prop} {a : Act} {w : World}
    (hro : F.round = none) (h1 : 1 ≤ n) {gf : Nat} {lb : Array Value} (hg : a.eval g = .func (.func gf) #[] lb) (hFg : F.fn gf) (eg : ∀ args w, (callFunc gf args).run P w = .ok (.enter gf args) w)
    {encs : α → Array Value} {xs : List α} {A : List Asn} (hit : Iter F (n - 1) P gf lb encs xs A W S0) (hps : ∀ x, (encs x).size = ps.size)
    (I : List α → List Asn) (Ix : Code → List α → List Asn) (h0 : St W S0 w (A ++ I []))
    (hround : ∀ (l : Nat) (pre : List α) (x : α) (suf : List α) (w1 : World), xs = pre ++ x :: suf →
      assign.wpIn (F.inRound l) (n - 1 - 1) P (Exit.then (fun a2 w2 => ∃ q : Asn, (∀ l', St W S0 w1 l' → St W S0 w2 (q :: l')) ∧ ∀ (p : List Asn) (w3 : World), St W S0 w3 (q :: (p ++ I pre)) → body.wpIn (F.inRound l) (n - 1 - 1) P (stPost W S0 p I Ix (pre ++ [x])) a2 w3) (fun _ _ _ => False))
        { tmps := (ps.zip (encs x)).foldl (fun t (p, v) => t.setIfInBounds p v) a.tmps, defers := [] } w1)
    (hdone : ∀ (D : Nat) (w' : World), St W S0 w' (objA D (.deferred (some [])) :: (A ++ I xs)) → Q .normal { a with defers := markD D :: a.defers } w')
    (hstop : ∀ (D : Nat) (c : Code) (pre : List α) (x : α) (suf : List α) (w' : World), xs = pre ++ x :: suf → St W S0 w' (objA D (.deferred (some [])) :: (A ++ Ix c (pre ++ [x]))) → c.wpIn F n P Q { a with defers := markD D :: a.defers } w') :
    (Code.rangeFunc g ps assign body).wpIn F n P Q a w := by
  refine wpIn_rangeFunc ?_
  intro fn hfn
  rw [hro]
  obtain ⟨rec, hrec⟩ : ∃ rec : LoopState → Option Code → Loop, rec = fun st pe => { state := st, pending := pe, fn, tmps := a.tmps, params := ps, assign, body, defers := w.heap.size } := ⟨_, rfl⟩
  obtain ⟨D, hD⟩ : ∃ D, D = w.heap.size := ⟨_, rfl⟩
  have hSt : St W S0 ((w.alloc (.deferred (some []))).alloc (.loop (rec .ready none))) (A ++ (objA (D + 1) (.loop (rec .ready none)) :: objA D (.deferred (some [])) :: I [])) := by
    have h2 := (h0.newObj (.deferred (some []))).newObj (.loop (rec .ready none))
    rw [World.size_alloc, ← hD] at h2
    exact h2.perm (List.perm_append_comm_assoc [_, _] A (I []))
  refine ⟨w.heap.size + 1, [markD w.heap.size], (w.alloc (.deferred (some []))).alloc (.loop (rec .ready none)), { target := .fn (.func gf) lb, args := #[.func (.yield (w.heap.size + 1)) #[] #[]] }, (w.alloc (.deferred (some []))).alloc (.loop (rec .ready none)), gf,
    #[.func (.yield (w.heap.size + 1)) #[] #[]] ++ lb, (w.alloc (.deferred (some []))).alloc (.loop (rec .ready none)), ?_, ?_, ?_, ?_, fun _ => h1, ?_⟩
  · rw [hrec]; exact run_enterLoop_outer _ _ _ _ _
  · simp only [resolve, hg]
    simp [go_sem]
  · intro f' hf'; simp [Target.leads] at hf'; subst hf'; exact hFg
  · simp [invoke, go_sem, eg]
  · rw [← hD]
    refine (hit (D + 1) _ (fun pre => objA (D + 1) (.loop (rec .ready none)) :: objA D (.deferred (some [])) :: I pre)
      (fun pre => [exA fun c => sepA (objA (D + 1) (.loop (rec .done (some c))) :: objA D (.deferred (some [])) :: Ix c pre)]) hSt ?_).mono ?_
    · -- one round
      intro p pre x suf w1 hx hs
      have hl := St.objIn hs
      have hy := run_yield (P := P) (args := encs x) hl (by rw [hrec]; exact hps x)
      rw [hrec] at hy
      refine ⟨fn, _, assign, body, hy, roundIn_of_wpIn hfn (wpIn_mono (hround _ pre x suf w1 hx) ?_)⟩
      rintro e2 a2 w2 h22
      cases e2 with
      | exit id => exact h22.elim
      | goto t => exact h22.elim
      | ret => exact h22.elim
      | panic ch => exact h22.elim
      | outgrown => exact h22.elim
      | normal =>
      obtain ⟨q, hq, hbody⟩ := h22
      have hsq : St W S0 w2 ((q :: p) ++ objA (D + 1) (.loop (rec .ready none)) :: objA D (.deferred (some [])) :: I pre) := hq _ hs
      have hl2 := St.objIn hsq
      refine ⟨_, run_beginRound hl2 (by rw [hrec]), ?_⟩
      have hs2 := St.putIn hsq (.loop { rec .ready none with state := .busy })
      have hs3 : St W S0 (w2.putObj (D + 1) (.loop { rec .ready none with state := .busy })) (q :: ((p ++ [objA (D + 1) (.loop { rec .ready none with state := .busy }), objA D (.deferred (some []))]) ++ I pre)) := by
        rw [List.append_assoc]; exact hs2
      refine wpIn_mono (hbody _ _ hs3) ?_
      have fin : ∀ (jump : Option Code) (w3 : World) (r : List Asn), St W S0 w3 ((p ++ [objA (D + 1) (.loop { rec .ready none with state := .busy }), objA D (.deferred (some []))]) ++ r) →
          (Instr.endRound (D + 1) jump).run P w3 = .ok (.bool jump.isNone) (w3.putObj (D + 1) (.loop (rec (if jump.isNone then .ready else .done) jump))) ∧
          St W S0 (w3.putObj (D + 1) (.loop (rec (if jump.isNone then .ready else .done) jump))) (p ++ (objA (D + 1) (.loop (rec (if jump.isNone then .ready else .done) jump)) :: objA D (.deferred (some [])) :: r)) := fun jump w3 r h => by
        rw [List.append_assoc] at h
        have h' : St W S0 w3 (p ++ (objA (D + 1) (.loop { rec .ready none with state := .busy }) :: objA D (.deferred (some [])) :: r)) := h
        have hl3 := St.objIn h'
        have := run_endRound (P := P) jump hl3
        have h4 := St.putIn h' (.loop (rec (if jump.isNone then .ready else .done) jump))
        refine ⟨?_, h4⟩
        rw [this, hrec]
      rintro e a3 w3 hp
      cases e with
      | normal =>
        obtain ⟨hr, h4⟩ := fin none w3 _ hp
        exact ⟨_, _, hr, .inl ⟨rfl, h4⟩⟩
      | ret =>
        obtain ⟨hr, h4⟩ := fin (some .ret) w3 _ hp
        exact ⟨_, _, hr, .inr ⟨rfl, (St.ex (l := p) (fun c => sepA (objA (D + 1) (.loop (rec .done (some c))) :: objA D (.deferred (some [])) :: Ix c (pre ++ [x]))) .ret (St.join _ p (h4.perm List.perm_append_comm))).perm (List.perm_append_comm (l₁ := [_]))⟩⟩
      | exit id =>
        obtain ⟨hr, h4⟩ := fin (some (.exit id)) w3 _ hp
        exact ⟨_, _, hr, .inr ⟨rfl, (St.ex (l := p) (fun c => sepA (objA (D + 1) (.loop (rec .done (some c))) :: objA D (.deferred (some [])) :: Ix c (pre ++ [x]))) (.exit id) (St.join _ p (h4.perm List.perm_append_comm))).perm (List.perm_append_comm (l₁ := [_]))⟩⟩
      | goto t =>
        obtain ⟨hr, h4⟩ := fin (some (.goto t)) w3 _ hp
        exact ⟨_, _, hr, .inr ⟨rfl, (St.ex (l := p) (fun c => sepA (objA (D + 1) (.loop (rec .done (some c))) :: objA D (.deferred (some [])) :: Ix c (pre ++ [x]))) (.goto t) (St.join _ p (h4.perm List.perm_append_comm))).perm (List.perm_append_comm (l₁ := [_]))⟩⟩
      | panic ch => exact hp.elim
      | outgrown => exact hp.elim
    · rintro e w2 ⟨⟨v, rfl⟩, (h | ⟨pre, x, suf, hx, h⟩)⟩
      · have hl := St.objIn h
        have h2 := (St.putIn h (.loop { rec .ready none with state := .exhausted })).perm (l' := objA (D + 1) (.loop { rec .ready none with state := .exhausted }) :: objA D (.deferred (some [])) :: (A ++ I xs)) (List.perm_append_comm_assoc [_, _] A (I xs)).symm
        exact ⟨none, _, by have := run_endLoop (P := P) hl (by rw [hrec]; simp); rw [hrec] at this ⊢; exact this, hdone D _ (h2.drop 0 rfl)⟩
      · have h' := h.perm (List.perm_append_comm (l₁ := A) (l₂ := [_]))
        obtain ⟨c, h3⟩ := St.unex 0 h' rfl
        have h4 : St W S0 w2 ([] ++ (objA (D + 1) (.loop (rec .done (some c))) :: objA D (.deferred (some [])) :: (Ix c (pre ++ [x]) ++ A))) := St.unsep 0 h3 rfl
        have hl := St.objIn h4
        have h5 := (St.putIn h4 (.loop { rec .done (some c) with state := .exhausted })).drop 0 rfl
        have h6 : St W S0 _ (objA D (.deferred (some [])) :: (A ++ Ix c (pre ++ [x]))) := h5.perm (List.Perm.cons _ List.perm_append_comm)
        exact ⟨some c, _, by have := run_endLoop (P := P) hl (by rw [hrec]; simp); rw [hrec] at this ⊢; exact this, hstop D c pre x suf _ hx h6⟩
end
end Go.Proofs.Ytiaefmmcakagpaa
