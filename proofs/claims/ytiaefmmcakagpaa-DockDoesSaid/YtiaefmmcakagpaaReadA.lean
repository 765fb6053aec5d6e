/- A row that is only read, and of which later ones are parts. -/
import Derived.Test.YtiaefmmcakagpaaRd
import Derived.Test.YtiaefmmcakagpaaMore
namespace Go.Proofs.Ytiaefmmcakagpaa
set_option linter.unusedSimpArgs false
set_option linter.unusedVariables false
open Go Go.RowKit

/-- A slice value that holds these cells; nothing is said of room behind them. -/
def readA (size : Nat) (v : Value) (n : Nat) (xs : List Value) : Asn where
  holds w S := (xs.length = n * size ∧ ∃ a cap, v = .slice a n cap ∧ n ≤ cap ∧ cap ≤ maxLen ∧ ((a = none ∧ n = 0 ∧ cap = 0) ∨ ∃ g o, a = some ⟨g, o, none⟩ ∧ g < w.heap.size ∧ ∀ j u, xs[j]? = some u → w.cell? ⟨g, o + j, none⟩ = some u)) ∧ ∀ x, S x ↔ v.ownBlock = some x
  keeps w w' S h hs hb := by
    obtain ⟨⟨h1, a, cap, rfl, h2, h3, h4⟩, hS⟩ := h
    refine ⟨⟨h1, a, cap, rfl, h2, h3, h4.imp id ?_⟩, hS⟩
    rintro ⟨g, o, rfl, hlt, hx⟩
    have e := hb g ((hS g).2 rfl)
    refine ⟨g, o, rfl, Nat.lt_of_lt_of_le hlt hs, fun j u hu => ?_⟩
    rw [World.cell?_of_block (w := w) (a := ⟨g, o + j, none⟩) e]
    exact hx j u hu
  inb w S b h hx := by
    obtain ⟨⟨h1, a, cap, rfl, h2, h3, h4⟩, hS⟩ := h
    have e := (hS b).1 hx
    rcases h4 with ⟨rfl, _⟩ | ⟨g, o, rfl, hlt, _⟩
    · cases e
    · cases e
      exact hlt
section
variable {W w : World} {S0 : Nat → Prop} {l : List Asn} {size n : Nat} {v : Value} {xs : List Value}
theorem St.reads (i : Nat) (h : St W S0 w l) (hi : l[i]? = some (readA size v n xs)) : xs.length = n * size ∧ ∃ a cap, v = .slice a n cap ∧ n ≤ cap ∧ cap ≤ maxLen ∧ ((a = none ∧ n = 0 ∧ cap = 0) ∨ ∃ g o, a = some ⟨g, o, none⟩ ∧ g < w.heap.size ∧ ∀ j u, xs[j]? = some u → w.cell? ⟨g, o + j, none⟩ = some u) := by
  obtain ⟨S1, a, _⟩ := h.at i hi
  exact a.1
theorem St.reads_rd {a : Option Addr} {cap : Nat} (i : Nat) (h : St W S0 w l) (hi : l[i]? = some (readA size (.slice a n cap) n xs)) : Rd w a xs := by
  obtain ⟨h1, a', cap', e, _, _, h4⟩ := St.reads i h hi
  cases e
  rcases h4 with ⟨_, rfl, _⟩ | ⟨g, o, e, hlt, hx⟩
  · rw [Nat.zero_mul] at h1
    exact .inl (List.eq_nil_of_length_eq_zero h1)
  · exact .inr ⟨g, o, e, hlt, hx⟩
/-- A row of the call's own, to be read only. -/
theorem St.to_read (i : Nat) (h : St W S0 w l) (hi : l[i]? = some (rowA size v n xs)) : St W S0 w (readA size v n xs :: l.eraseIdx i) := by
  obtain ⟨S1, ⟨⟨a1, a2⟩, a'⟩, _, c⟩ := h.at i hi
  refine c w [_] (St.start (Sep.one ⟨⟨a1, ?_⟩, a'⟩))
  rcases a2 with ⟨rfl, rfl⟩ | ⟨g, o, cap, rfl, _, hlt, hn, hc, hx, _⟩
  · exact ⟨none, 0, rfl, Nat.le_refl _, Nat.zero_le _, .inl ⟨rfl, rfl, rfl⟩⟩
  · exact ⟨_, cap, rfl, hn, hc, .inr ⟨g, o, rfl, hlt, hx⟩⟩
/-- A part of it. -/
theorem St.read_part {g o cap n' o' cap' : Nat} {xs' : List Value} (i : Nat) (h : St W S0 w l) (hi : l[i]? = some (readA size (.slice (some ⟨g, o, none⟩) n cap) n xs))
    (hl : xs'.length = n' * size) (hn : n' ≤ cap') (hc : cap' ≤ maxLen) (hx : ∀ j u, xs'[j]? = some u → ∃ j', xs[j']? = some u ∧ o + j' = o' + j) :
    St W S0 w (readA size (.slice (some ⟨g, o', none⟩) n' cap') n' xs' :: l.eraseIdx i) := by
  obtain ⟨S1, ⟨⟨a1, a, c0, e, a2, a3, a4⟩, a'⟩, _, c⟩ := h.at i hi
  cases e
  refine c w [_] (St.start (Sep.one ⟨⟨hl, _, cap', rfl, hn, hc, .inr ?_⟩, a'⟩))
  rcases a4 with ⟨e, _⟩ | ⟨g', o1, e, hlt, hr⟩
  · cases e
  · cases e
    refine ⟨g, o', rfl, hlt, fun j u hu => ?_⟩
    obtain ⟨j', h1, h2⟩ := hx j u hu
    rw [← h2]
    exact hr j' u h1
end
end Go.Proofs.Ytiaefmmcakagpaa
