/- The plain laws of the order: nothing waits that need not, nothing waits too long. -/
import Derived.Test.YtiaefmmcakagpaaBd
namespace Go.Proofs.Ytiaefmmcakagpaa.Ord
set_option linter.unusedSimpArgs false
set_option linter.unusedVariables false
open Go.Proofs.Ytiaefmmcakagpaa.Sift Go.Proofs.Ytiaefmmcakagpaa.Hold
open Go.Proofs.Ytiaefmmcakagpaa.DockWait (El placed headV)

theorem dueN_one (d1 : Int) (d2 : ByteArray) (now : Int) : dueN now [(d1, d2, now)] = d1 := by simp [dueN]
/-- With no hold a datagram comes to be received at once, or never. -/
theorem straight {x : Or} {k : Nat} {last : Int} (hg : Good x k last) (hl : x.l = []) (hr : x.rdy = []) (d : Dg) :
    (takeS x d 0).l = [] ∧ (takeS x d 0).rdy = (if x.c < d.1 ∧ d.1 ≤ top then [d] else []) ∧ (takeS x d 0).c = (if x.c < d.1 ∧ d.1 ≤ top then d.1 else x.c) ∧ (takeS x d 0).now = x.now ∧ (takeS x d 0).mode = x.mode ∧ (takeS x d 0).hold = x.hold := by
  obtain ⟨mode, hold, now, rel, came, ref, spl, giv, c, l, rdy⟩ := x
  obtain ⟨d1, d2⟩ := d
  simp only at hl hr ⊢
  subst hl hr
  have hc0 : 0 ≤ c := hg.ok.c0
  refine ⟨?_, ?_, ?_, rfl, rfl, rfl⟩
  all_goals
    unfold takeS takeA dueS addS relM putP putM fitsM
    simp only [Int.add_zero, List.any_nil, Bool.false_eq_true, if_false]
    by_cases h1 : d1 ≤ c
    · rw [if_pos h1]
      simp [dueM, dueN, relR, show ¬ c < d1 by omega]
    · rw [if_neg h1]
      by_cases h2 : top < d1
      · rw [if_pos h2]
        simp [dueM, dueN, relR, show ¬ d1 ≤ top by omega]
      · rw [if_neg h2]
        simp only [if_true, lay_nil]
        by_cases h3 : d1 = c + 1
        · simp [h3, runM, dueM, dueN, relR, stepR, show c + 1 ≤ top by omega]
          try omega
        · rw [if_neg h3]
          have h4 : ¬ d1 = 0 := by omega
          simp [dueM, dueN_one, h4, upM, runM, relR, stepR, lastN, dg, show c < d1 by omega, show d1 ≤ top by omega]

theorem due_sub {x : Or} {k : Nat} {last : Int} (hg : Good x k last) (now : Int) : (∀ e ∈ (dueS x now).l, e ∈ x.l) ∧ dueK x now + (dueS x now).l.length = x.l.length ∧ ∀ e ∈ (dueS x now).l, ¬ e.2.2 ≤ now := by
  obtain ⟨m, hr⟩ := due_rel x.c x.l now hg.ok.up
  have hd : ∀ e ∈ (dueS x now).l, ¬ e.2.2 ≤ now := due_rest hg.ok
  refine ⟨fun e he => ?_, ?_, hd⟩
  · have he' : e ∈ (dueM x.c x.l now).2.2 := he
    rw [hr.rest] at he'
    exact List.mem_of_mem_drop he'
  · show (dueM x.c x.l now).1.length + (dueM x.c x.l now).2.2.length = x.l.length
    rw [hr.out, hr.rest, List.length_map, List.length_take, List.length_drop]
    have := hr.le
    omega
theorem due_all {x : Or} {k : Nat} {last : Int} (hg : Good x k last) (now : Int) (h : ∀ e ∈ x.l, e.2.2 ≤ now) : (dueS x now).l = [] ∧ dueK x now = x.l.length := by
  obtain ⟨h1, h2, h3⟩ := due_sub hg now
  have h4 : (dueS x now).l = [] := by
    rcases hl : (dueS x now).l with _ | ⟨e, t⟩
    · rfl
    · exact absurd (h e (h1 e (by rw [hl]; simp))) (h3 e (by rw [hl]; simp))
  rw [h4] at h2
  exact ⟨h4, by simpa using h2⟩
theorem flush_all {x : Or} {k : Nat} {last : Int} (hg : Good x k last) : (flushS x).l = [] ∧ dueK x (lateM x.l).1 = x.l.length := by
  refine due_all hg _ fun e he => ?_
  have hne : x.l ≠ [] := by intro h; rw [h] at he; cases he
  unfold lateM
  rw [if_neg hne]
  exact (lateN_ge x.l _).2 e he
/-- What waits, waits no longer than 60 ticks from now on. -/
def Fresh (x : Or) (k : Nat) : Prop := x.now ≤ k ∧ ∀ e ∈ x.l, e.2.2 ≤ x.now + 60
theorem fresh_new (m h : Int) : Fresh (new0 m h) 0 := ⟨Int.le_refl _, by intro e he; cases he⟩
theorem takeA_sub {x : Or} {k : Nat} {last : Int} (hg : Good x k last) (d : Dg) (f : Int) : ∀ e ∈ (takeA x d f).l, e = (d.1, d.2, x.now + f) ∨ e ∈ x.l := by
  intro e he
  have hc := put_case d (x.now + f) hg.ok hg.len
  have he' : e ∈ (putP x d f).2.2 := he
  have ep : putM x.c x.l d (x.now + f) = putP x d f := rfl
  rw [ep] at hc
  generalize putP x d f = R at *
  cases hc with
  | no _ _ h => rw [h] at he'; exact .inr he'
  | yes m _ _ hr _ _ =>
    rw [show R.2.2 = _ from hr.rest] at he'
    exact lay_mem (List.mem_of_mem_drop he')
theorem opF_bd (x : Or) (p : Oo) : 0 ≤ opF x p ∧ opF x p ≤ 60 := by
  unfold opF forF
  split
  · omega
  · have := clamp60 x.hold
    have h3 : 0 ≤ gapF x.mode p.own p.trips := by
      unfold gapF
      have := apart_bd p.trips
      split
      · omega
      · split <;> omega
    omega
theorem Fresh.step {x : Or} {k n : Nat} {last : Int} (h : Fresh x n) (hg : Good x k last) (p : Oo) : Fresh (stepS x p) (n + 1) := by
  obtain ⟨h1, h2⟩ := h
  have hsame : Fresh x (n + 1) := ⟨by omega, h2⟩
  unfold stepS
  split
  · refine ⟨by show x.now ≤ _; omega, fun e he => ?_⟩
    have hb := opF_bd x p
    rcases takeA_sub hg _ _ e ((due_sub (hg.takeA (p.num, p.dat) (opF x p)) x.now).1 e he) with rfl | he
    · show x.now + opF x p ≤ x.now + 60; omega
    · exact h2 e he
  · split
    · refine ⟨by show min (x.now + 1) 1099511627776 ≤ _; omega, fun e he => ?_⟩
      have he2 := (due_sub hg.tickA (tickA x).now).1 e he
      have := h2 e he2
      have hn1 := hg.n1
      show e.2.2 ≤ min (x.now + 1) 1099511627776 + 60
      omega
    · split
      · unfold recvS
        split
        · exact hsame
        · exact hsame
      · split
        · unfold setS
          split
          · exact hsame
          · exact hsame
        · split
          · exact ⟨by show x.now ≤ _; omega, fun e he => h2 e ((due_sub hg _).1 e he)⟩
          · exact hsame
end Go.Proofs.Ytiaefmmcakagpaa.Ord
