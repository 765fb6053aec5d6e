/- The plain laws of the order's deadlines. -/
import Derived.Test.YtiaefmmcakagpaaOrdPlain
namespace Go.Proofs.Ytiaefmmcakagpaa.Ord
set_option linter.unusedSimpArgs false
set_option linter.unusedVariables false
open Go.Proofs.Ytiaefmmcakagpaa.Sift Go.Proofs.Ytiaefmmcakagpaa.Hold
open Go.Proofs.Ytiaefmmcakagpaa.DockWait (El placed headV)

/-- Behind those that are released one behind the other none is next. -/
theorem run_next : ∀ (l : List El) (c : Int), Up l → (∀ e ∈ l, c < e.1) → ∀ e ∈ (runM l c).2.2, e.1 ≠ (runM l c).2.1 + 1
  | [], _, _, _, e, he => by cases he
  | x :: l, c, hu, hc, e, he => by
    have h' := List.pairwise_cons.1 hu
    unfold runM at he ⊢
    by_cases hx : x.1 = c + 1
    · rw [if_pos hx] at he ⊢
      exact run_next l x.1 h'.2 h'.1 e he
    · rw [if_neg hx] at he ⊢
      show e.1 ≠ c + 1
      have h1 := hc x (by simp)
      rcases List.mem_cons.1 he with rfl | he
      · exact hx
      · have := h'.1 e he
        omega
theorem up_next (num c : Int) (l : List El) (hu : Up l) (hc : ∀ e ∈ l, c < e.1) : ∀ e ∈ (upM num c l).2.2, e.1 ≠ (upM num c l).2.1 + 1 := by
  obtain ⟨i, h1, h2, h3⟩ := filter_up num l hu
  unfold upM
  rw [h2, h3]
  have hu' : Up (l.take i ++ l.drop i) := by rw [List.take_append_drop]; exact hu
  have hp := List.pairwise_append.1 hu'
  refine run_next _ _ hp.2.1 fun e he => ?_
  rcases lastN_mem (l.take i) c with h | ⟨x, hx, h⟩
  · rw [h]; exact hc e (List.mem_of_mem_drop he)
  · rw [h]; exact hp.2.2 x hx e he
/-- What is kept is released, or passed over, or waits till it is time; none that is next waits, none whose time has come. -/
structure Dead (x : Or) (R : List (Int × Int)) : Prop where
  due : ∀ e ∈ x.l, ¬ e.2.2 ≤ x.now
  next : ∀ e ∈ x.l, e.1 ≠ x.c + 1
  kept : ∀ p ∈ R, p.1 ≤ x.c ∨ ∃ e ∈ x.l, e.1 = p.1 ∧ e.2.2 = p.2
theorem dead_new (m h : Int) : Dead (new0 m h) [] := ⟨(by intro e he; cases he), (by intro e he; cases he), (by intro p hp; cases hp)⟩
theorem rel_kept {c : Int} {L : List El} {r : List Dg × Int × List El} {m : Nat} (hO : Ok c L) (hr : Rel c L r m) : c ≤ r.2.1 ∧ ∀ e ∈ L, e.1 ≤ r.2.1 ∨ e ∈ r.2.2 := by
  have hup : Up (L.take m) := hO.up.sublist (List.take_sublist _ _)
  have hgt : ∀ y ∈ L.take m, c < y.1 := fun y hy => (hO.mem y (List.mem_of_mem_take hy)).1
  obtain ⟨c1, c2⟩ := lastN_up (L.take m) c hgt hup
  rw [← hr.cur] at c1 c2
  refine ⟨by omega, fun e he => ?_⟩
  rw [← List.take_append_drop m L] at he
  rcases List.mem_append.1 he with he | he
  · exact .inl (c2 e he)
  · exact .inr (by rw [hr.rest]; exact he)
/-- Things that are due are released: what was kept stays kept. -/
theorem dead_due {x : Or} {k : Nat} {last : Int} {R : List (Int × Int)} (hg : Good x k last) (hn : ∀ e ∈ x.l, e.1 ≠ x.c + 1) (hk : ∀ p ∈ R, p.1 ≤ x.c ∨ ∃ e ∈ x.l, e.1 = p.1 ∧ e.2.2 = p.2) (now : Int) :
    (∀ e ∈ (dueS x now).l, e.1 ≠ (dueS x now).c + 1) ∧ (∀ p ∈ R, p.1 ≤ (dueS x now).c ∨ ∃ e ∈ (dueS x now).l, e.1 = p.1 ∧ e.2.2 = p.2) ∧ x.c ≤ (dueS x now).c := by
  obtain ⟨m, hr⟩ := due_rel x.c x.l now hg.ok.up
  obtain ⟨h1, h2⟩ := rel_kept hg.ok hr
  refine ⟨?_, fun p hp => ?_, h1⟩
  · show ∀ e ∈ (dueM x.c x.l now).2.2, e.1 ≠ (dueM x.c x.l now).2.1 + 1
    unfold dueM
    split
    · exact hn
    · exact up_next _ _ _ hg.ok.up fun e he => (hg.ok.mem e he).1
  · rcases hk p hp with h | ⟨e, he, h3, h4⟩
    · exact .inl (by show p.1 ≤ (dueM x.c x.l now).2.1; omega)
    · rcases h2 e he with h | h
      · exact .inl (by rw [← h3]; exact h)
      · exact .inr ⟨e, h, h3, h4⟩
theorem Dead.tick {x : Or} {k : Nat} {last : Int} {R : List (Int × Int)} (hg : Good x k last) (h : Dead x R) : Dead (tickS x) R := by
  obtain ⟨h1, h2, _⟩ := dead_due (R := R) hg.tickA h.next h.kept (tickA x).now
  exact ⟨(due_sub hg.tickA _).2.2, h1, h2⟩
theorem Dead.flush {x : Or} {k : Nat} {last : Int} {R : List (Int × Int)} (hg : Good x k last) (h : Dead x R) : Dead (flushS x) R := by
  obtain ⟨h1, h2, _⟩ := dead_due (R := R) hg h.next h.kept (lateM x.l).1
  refine ⟨fun e he => ?_, h1, h2⟩
  rw [(flush_all hg).1] at he
  cases he
theorem Dead.recv {x : Or} {R : List (Int × Int)} (h : Dead x R) : Dead (recvS x) R := by
  unfold recvS
  split
  · exact h
  · exact ⟨h.due, h.next, h.kept⟩
theorem Dead.set {x : Or} {R : List (Int × Int)} (h : Dead x R) (m n : Int) : Dead (setS x m n) R := by
  unfold setS
  split
  · exact ⟨h.due, h.next, h.kept⟩
  · exact h
/-- A datagram is taken: it is released at once if it is next; it is kept till its time. -/
theorem Dead.take {x : Or} {k : Nat} {last : Int} {R : List (Int × Int)} (hg : Good x k last) (h : Dead x R) (d : Dg) (f : Int) :
    Dead (takeS x d f) (if (putP x d f).1.1 = 1 then R ++ [(d.1, x.now + f)] else R) ∧ (d.1 = x.c + 1 → d.1 ≤ top → (putP x d f).1.1 = 0) ∧ ((putP x d f).1.1 = 0 → d.1 ≤ (takeS x d f).c) := by
  have hc := put_case d (x.now + f) hg.ok hg.len
  have e : putM x.c x.l d (x.now + f) = putP x d f := rfl
  have hnx : d.1 = x.c + 1 → d.1 ≤ top → (fitsM x.c x.l d.1).2 = true := fun h1 h2 => by
    refine fits_yes (by omega) ?_ (by omega)
    refine any_none fun i hi => ?_
    have := h.next x.l[i] (List.getElem_mem hi)
    rw [h1]
    simpa using this
  have hgA := hg.takeA d f
  -- the order behind Put
  have hA : (∀ e ∈ (takeA x d f).l, e.1 ≠ (takeA x d f).c + 1) ∧ (∀ p ∈ (if (putP x d f).1.1 = 1 then R ++ [(d.1, x.now + f)] else R), p.1 ≤ (takeA x d f).c ∨ ∃ e ∈ (takeA x d f).l, e.1 = p.1 ∧ e.2.2 = p.2) ∧ ((putP x d f).1.1 = 0 → d.1 ≤ (takeA x d f).c) := by
    have eA : (takeA x d f).c = (putP x d f).2.1 ∧ (takeA x d f).l = (putP x d f).2.2 := ⟨rfl, rfl⟩
    rw [eA.1, eA.2]
    rw [e] at hc
    have hrun : d.1 = x.c + 1 → (fitsM x.c x.l d.1).2 = true → (putP x d f).2 = (runM (lay d (x.now + f) x.l) x.c).2 := fun h1 h2 => by
      rw [← e]; unfold putM; rw [if_pos h2, if_pos h1]
    have hnot : d.1 ≠ x.c + 1 → (fitsM x.c x.l d.1).2 = true → (putP x d f).2 = (x.c, lay d (x.now + f) x.l) ∨ (putP x d f).2 = (upM (headV (lay d (x.now + f) x.l)).1 x.c (lay d (x.now + f) x.l)).2 := fun h1 h2 => by
      rw [← e]; unfold putM; rw [if_pos h2, if_neg h1]
      split
      · exact .inr rfl
      · exact .inl rfl
    have hlo := fun hf => lay_ok d (x.now + f) hg.ok hf
    have hlm : ∀ e, e ∈ lay d (x.now + f) x.l → e = (d.1, d.2, x.now + f) ∨ e ∈ x.l := fun e he => lay_mem he
    have hld : (d.1, d.2, x.now + f) ∈ lay d (x.now + f) x.l := (lay_perm d (x.now + f) x.l).mem_iff.2 (by simp)
    have hll : ∀ e ∈ x.l, e ∈ lay d (x.now + f) x.l := fun e he => (lay_perm d (x.now + f) x.l).mem_iff.2 (List.mem_cons_of_mem _ he)
    generalize putP x d f = P at *
    cases hc with
    | no hf hw he =>
      rw [he]
      have hw1 : ¬ P.1.1 = 1 := by omega
      have hw0 : ¬ P.1.1 = 0 := by omega
      simp only [if_neg hw1]
      exact ⟨h.next, h.kept, fun h0 => absurd h0 hw0⟩
    | yes m hf hw hr hn hs =>
      have hO := hlo hf
      obtain ⟨k1, k2⟩ := rel_kept hO hr
      simp only at k1 k2
      refine ⟨?_, fun p hp => ?_, fun h0 => ?_⟩
      · by_cases h1 : d.1 = x.c + 1
        · rw [hrun h1 hf]
          exact run_next _ _ hO.up fun e he => (hO.mem e he).1
        · rcases hnot h1 hf with h2 | h2
          · rw [h2]
            intro e he
            rcases hlm e he with rfl | he
            · exact h1
            · exact h.next e he
          · rw [h2]
            exact up_next _ _ _ hO.up fun e he => (hO.mem e he).1
      · have hpp : p ∈ R ∨ p = (d.1, x.now + f) := by
          split at hp
          · rcases List.mem_append.1 hp with hp | hp
            · exact .inl hp
            · exact .inr (by simpa using hp)
          · exact .inl hp
        have hth : p.1 ≤ x.c ∨ ∃ e ∈ lay d (x.now + f) x.l, e.1 = p.1 ∧ e.2.2 = p.2 := by
          rcases hpp with hp | rfl
          · rcases h.kept p hp with h1 | ⟨e, he, h2⟩
            · exact .inl h1
            · exact .inr ⟨e, hll e he, h2⟩
          · exact .inr ⟨_, hld, rfl, rfl⟩
        rcases hth with h1 | ⟨e, he, h2, h3⟩
        · exact .inl (by omega)
        · rcases k2 e he with h4 | h4
          · exact .inl (by rw [← h2]; exact h4)
          · exact .inr ⟨e, h4, h2, h3⟩
      · rw [hw] at h0
        split at h0
        · rename_i h1
          have h2 := hn h1
          rw [show P.1.2 = _ from hr.out] at h2
          cases m with
          | zero => simp at h2
          | succ m =>
            rcases k2 _ hld with h4 | h4
            · exact h4
            · exfalso
              rw [show P.2.2 = _ from hr.rest] at h4
              have hup := hO.up
              cases hL : lay d (x.now + f) x.l with
              | nil => rw [hL] at h4; simp at h4
              | cons y t =>
                rw [hL] at h2 h4 hup
                simp only [List.take_succ_cons, List.map_cons, List.head?_cons, Option.some.injEq] at h2
                have h5 : y.1 = d.1 := congrArg Prod.fst h2
                simp only [List.drop_succ_cons] at h4
                have h6 := (List.pairwise_cons.1 hup).1 _ (List.mem_of_mem_drop h4)
                simp only at h6
                omega
        · omega
  obtain ⟨a1, a2, a3⟩ := hA
  obtain ⟨b1, b2, b3⟩ := dead_due hgA a1 a2 x.now
  refine ⟨⟨(due_sub hgA x.now).2.2, b1, b2⟩, fun h1 h2 => ?_, fun h0 => ?_⟩
  · have h3 := hnx h1 h2
    rw [← e]; unfold putM; rw [if_pos h3, if_pos h1]
  · have := a3 h0
    show d.1 ≤ (dueS (takeA x d f) x.now).c
    omega
end Go.Proofs.Ytiaefmmcakagpaa.Ord
