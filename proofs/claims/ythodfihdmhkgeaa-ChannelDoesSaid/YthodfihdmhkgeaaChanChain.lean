/- What a channel lets be received, one by one: just what rises and was sent. -/
import Derived.Test.YthodfihdmhkgeaaChanObj
namespace Go.Proofs.Ythodfihdmhkgeaa.Chan
set_option linter.unusedSimpArgs false
set_option linter.unusedVariables false
open Go Go.RowKit Go.Proofs.Ythodfihdmhkgeaa Go.Proofs.Ythodfihdmhkgeaa.DockDg

/-- The datagrams' numbers are 1, 2, and so on. -/
def Numbered (l : List Dg) : Prop := ∀ i (h : i < l.length), l[i].1 = (i : Int) + 1
theorem Numbered.snoc {l : List Dg} (h : Numbered l) (s : ByteArray) : Numbered (l ++ [((l.length : Int) + 1, s)]) := by
  intro i hi
  simp at hi
  by_cases hl : i < l.length
  · rw [List.getElem_append_left hl]; exact h i hl
  · obtain rfl : i = l.length := by omega
    simp
theorem has_iff (l : List Dg) (d : Dg) : hasB l d = true ↔ d ∈ l := by
  unfold hasB
  rw [List.any_eq_true]
  constructor
  · rintro ⟨x, hx, e⟩
    rw [(dgEq_iff d x).1 e]; exact hx
  · intro h; exact ⟨d, h, (dgEq_iff d d).2 rfl⟩
theorem may_iff {l : List Dg} (hN : Numbered l) {last : Int} (h0 : 0 ≤ last) (d : Dg) : mayB last l d = true ↔ last < d.1 ∧ d ∈ l := by
  unfold mayB
  rw [Bool.and_eq_true, Bool.and_eq_true, decide_eq_true_eq, decide_eq_true_eq, dgEq_iff]
  constructor
  · rintro ⟨h1, h2, h3⟩
    have hlt : (d.1 - 1).toNat < l.length := by omega
    rw [List.getD_eq_getElem?_getD, List.getElem?_eq_getElem hlt, Option.getD_some] at h3
    exact ⟨h1, by rw [← h3]; exact List.getElem_mem hlt⟩
  · rintro ⟨h1, h2⟩
    obtain ⟨i, hi, rfl⟩ := List.getElem_of_mem h2
    have := hN i hi
    refine ⟨h1, by omega, ?_⟩
    rw [show (l[i].1 - 1).toNat = i by omega, List.getD_eq_getElem?_getD, List.getElem?_eq_getElem hi, Option.getD_some]
theorem may_has {l : List Dg} (hN : Numbered l) {last : Int} (h0 : 0 ≤ last) (d : Dg) : (decide (last < d.1) && hasB l d) = mayB last l d := by
  rw [Bool.eq_iff_iff, may_iff hN h0, Bool.and_eq_true, decide_eq_true_eq, has_iff]

/-- One behind the other: how far it was received, were all let be received. -/
def recvS (l : List Dg) (p : Int × Bool) (d : Dg) : Int × Bool := (if mayB p.1 l d then d.1 else p.1, mayB p.1 l d && p.2)
def recvF (l got : List Dg) : Int × Bool := got.foldl (recvS l) (0, true)
theorem recv_false (l : List Dg) : ∀ (got : List Dg) (x : Int), (got.foldl (recvS l) (x, false)).2 = false
  | [], _ => rfl
  | d :: got, x => by
    rw [List.foldl_cons, show recvS l (x, false) d = (if mayB x l d then d.1 else x, false) from by unfold recvS; simp]
    exact recv_false l got _
theorem recv_iff {l : List Dg} (hN : Numbered l) : ∀ (got : List Dg) (x : Int), 0 ≤ x → ((got.foldl (recvS l) (x, true)).2 = true ↔ (∀ d ∈ got, x < d.1) ∧ got.Pairwise (fun a b => a.1 < b.1) ∧ ∀ d ∈ got, d ∈ l)
  | [], _, _ => by simp
  | d :: got, x, h0 => by
    rw [List.foldl_cons]
    cases hm : mayB x l d with
    | false =>
      rw [show recvS l (x, true) d = (x, false) from by unfold recvS; simp [hm], recv_false]
      constructor
      · intro h; cases h
      · rintro ⟨h1, _, h3⟩
        have := (may_iff hN h0 d).2 ⟨h1 d (by simp), h3 d (by simp)⟩
        rw [hm] at this; cases this
    | true =>
      obtain ⟨h1, h2⟩ := (may_iff hN h0 d).1 hm
      rw [show recvS l (x, true) d = (d.1, true) from by unfold recvS; simp [hm], recv_iff hN got d.1 (by omega), List.pairwise_cons]
      constructor
      · rintro ⟨a1, a2, a3⟩
        exact ⟨fun e he => (List.mem_cons.1 he).elim (fun q => by rw [q]; exact h1) fun q => Int.lt_trans h1 (a1 e q), ⟨a1, a2⟩, fun e he => (List.mem_cons.1 he).elim (fun q => by rw [q]; exact h2) (a3 e)⟩
      · rintro ⟨_, ⟨b1, b2⟩, b3⟩
        exact ⟨b1, b2, fun e he => b3 e (by simp [he])⟩
theorem recv_just {l : List Dg} (hN : Numbered l) (got : List Dg) : (recvF l got).2 = (risingB got && partB l got) := by
  rw [Bool.eq_iff_iff]
  unfold recvF
  rw [recv_iff hN got 0 (Int.le_refl _), Bool.and_eq_true]
  unfold risingB partB
  rw [decide_eq_true_eq, List.all_eq_true]
  constructor
  · rintro ⟨_, h2, h3⟩
    exact ⟨h2, fun d hd => (has_iff l d).2 (h3 d hd)⟩
  · rintro ⟨h2, h3⟩
    refine ⟨fun d hd => ?_, h2, fun d hd => (has_iff l d).1 (h3 d hd)⟩
    obtain ⟨i, hi, e⟩ := List.getElem_of_mem ((has_iff l d).1 (h3 d hd))
    have := hN i hi
    rw [e] at this
    omega
theorem recv_take {l got : List Dg} {k : Nat} (h : k < got.length) : recvF l (got.take (k + 1)) = recvS l (recvF l (got.take k)) got[k] := foldl_take _ _ _ _ h
theorem recv_bd {l : List Dg} (hN : Numbered l) (got : List Dg) : 0 ≤ (recvF l got).1 ∧ (recvF l got).1 ≤ l.length := by
  have : ∀ (got : List Dg) (x : Int) (b : Bool), 0 ≤ x → x ≤ l.length → 0 ≤ (got.foldl (recvS l) (x, b)).1 ∧ (got.foldl (recvS l) (x, b)).1 ≤ l.length := by
    intro got
    induction got with
    | nil => intro x b h1 h2; exact ⟨h1, h2⟩
    | cons d got ih =>
      intro x b h1 h2
      rw [List.foldl_cons]
      unfold recvS
      cases hm : mayB x l d with
      | false => exact ih _ _ h1 h2
      | true =>
        obtain ⟨h3, h4⟩ := (may_iff hN h1 d).1 hm
        obtain ⟨i, hi, e⟩ := List.getElem_of_mem h4
        have := hN i hi
        rw [e] at this
        exact ih _ _ (by simp; omega) (by simp; omega)
  exact this got 0 true (Int.le_refl _) (by omega)
end Go.Proofs.Ythodfihdmhkgeaa.Chan
