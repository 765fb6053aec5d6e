/- What a walk is told of an argument, whatever its type (of bools, integers, strings, slices, arrays and structs): its cells, and the cells that they lead to, fit a shape. -/
import Derived.Test.YtpajedpkdfacoaaBase
import Derived.ProofKit
import Derived.OpenShut
import Derived.Deep.Slices
namespace Go.Proofs.Ytpajedpkdfacoaa
set_option linter.unusedSimpArgs false
set_option linter.unusedVariables false
open Go Go.RowKit Go.ChangeShapes Go.WideShapes Go.Deep

inductive Sh where
  | bool
  | int (k : IntKind)
  | str
  | slice (n : Nat) (e : Sh)
  | arr (m n : Nat) (e : Sh)
  | nil
  | cons (n : Nat) (f : Sh) (r : Sh)

/-- The cells 'cs' are a value of the shape, in the world w. -/
def Fits (w : World) : Sh → List Value → Prop
  | .bool, cs => ∃ b, cs = [.bool b]
  | .int k, cs => ∃ n, cs = [.int k n] ∧ (Lit.int k n).wf = true
  | .str, cs => ∃ s : ByteArray, cs = [.string s] ∧ s.size ≤ maxLen
  | .slice n e, cs => cs = [.slice none 0 0] ∨ ∃ (a : Addr) (len cap : Nat), cs = [.slice (some a) len cap] ∧ len ≤ cap ∧ cap ≤ maxLen ∧
      ∀ i, i < len → ∃ es : List Value, es.length = n ∧ (∀ j, j < n → w.cell? (a.add (i * n + j)) = es[j]?) ∧ Fits w e es
  | .arr m n e, cs => cs.length = m * n ∧ ∀ i, i < m → Fits w e ((cs.drop (i * n)).take n)
  | .nil, cs => cs = []
  | .cons n f r, cs => n ≤ cs.length ∧ Fits w f (cs.take n) ∧ Fits w r (cs.drop n)

def fieldsSh (P : Program) (g : TypeId → Option Sh) (size : Nat) : Nat → List Field → Option Sh
  | o, [] => if o = size then some .nil else none
  | o, f :: fs => if f.offset = o ∧ o + P.cellsOf f.type ≤ size then (g f.type).bind fun a => (fieldsSh P g size (o + P.cellsOf f.type) fs).map (Sh.cons (P.cellsOf f.type) a) else none

/-- The shape of a type. -/
def shOf (P : Program) : Nat → TypeId → Option Sh
  | 0, _ => none
  | n + 1, t =>
    match P.underlying t with
    | some .bool => some .bool
    | some (.int k) => some (.int k)
    | some .string => some .str
    | some (.slice e) => (shOf P n e).map (Sh.slice (P.cellsOf e))
    | some (.array m e) => if m * P.cellsOf e = P.cellsOf t then (shOf P n e).map (Sh.arr m (P.cellsOf e)) else none
    | some (.struct fs) => fieldsSh P (shOf P n) (P.cellsOf t) 0 fs.toList
    | _ => none

section
variable {H : Type} {enc : TypeId × Value → H} {P : Program} {w : World} {base : Nat} {spare : Nat → Bool} {held : Bool}

theorem fits_fields {g : TypeId → Option Sh} {size m : Nat} (ih : ∀ t sh cs x, g t = some sh → DataW.trod enc P w base spare held m t cs = some x → Fits w sh cs) (cs : List Value) (hl : cs.length = size) :
    ∀ (fs : List Field) (o : Nat) (sh : Sh) (xs : List (DataW H × List MemPlace)), o ≤ size → fieldsSh P g size o fs = some sh → xs.length = fs.length →
      (∀ (i : Nat) (f : Field), fs[i]? = some f → DataW.trod enc P w base spare held m f.type ((cs.drop f.offset).take (P.cellsOf f.type)) = xs[i]?) → Fits w sh (cs.drop o)
  | [], o, sh, xs, ho, h, _, _ => by
    simp only [fieldsSh] at h
    split at h
    · obtain rfl := Option.some.inj h
      exact List.drop_eq_nil_of_le (by omega)
    · cases h
  | f :: fs, o, sh, xs, ho, h, hx, hf => by
    simp only [fieldsSh] at h
    split at h
    · rename_i hc
      obtain ⟨rfl, hs⟩ := hc
      cases ha : g f.type with
      | none => simp [ha] at h
      | some a =>
        cases hb : fieldsSh P g size (f.offset + P.cellsOf f.type) fs with
        | none => simp [ha, hb] at h
        | some b =>
          simp [ha, hb] at h
          subst h
          match xs, hx with
          | x :: xs, hx =>
            have h0 := hf 0 f rfl
            refine ⟨by simp; omega, ih _ _ _ _ ha h0, ?_⟩
            rw [List.drop_drop]
            exact fits_fields ih cs hl fs _ b xs hs hb (by simpa using hx) fun i f' h' => hf (i + 1) f' h'
    · cases h

theorem fits_of_trod : ∀ (k : Nat) (t : TypeId) (sh : Sh), shOf P k t = some sh → ∀ (fuel : Nat) (cs : List Value) (x : DataW H × List MemPlace),
    DataW.trod enc P w base spare held fuel t cs = some x → Fits w sh cs := by
  intro k
  induction k with
  | zero => intro t sh h; cases h
  | succ k ih =>
    intro t sh h fuel cs x hx
    simp only [shOf] at h
    split at h
    · rename_i hu
      obtain rfl := Option.some.inj h
      obtain ⟨b, hb, _⟩ := DataW.trod_bool hu hx
      exact ⟨b, hb⟩
    · rename_i k' hu
      obtain rfl := Option.some.inj h
      obtain ⟨n, hn, _, hw⟩ := DataW.trod_int hu hx
      exact ⟨n, hn, hw⟩
    · rename_i hu
      obtain rfl := Option.some.inj h
      obtain ⟨s, hs, _, hw⟩ := DataW.trod_string hu hx
      exact ⟨s, hs, hw⟩
    · rename_i e hu
      cases he : shOf P k e with
      | none => simp [he] at h
      | some se =>
        simp [he] at h
        subst h
        rcases open_slice hu hx with ⟨h0, _⟩ | ⟨a, len, cap, m, n, D, Pl, hcs, _, hl, hm, hmm, _, hi⟩
        · exact .inl h0
        · refine .inr ⟨a, len, cap, hcs, hl, hm, fun i hlt => ?_⟩
          obtain ⟨es, hc, ht⟩ := hi i (by rw [hmm]; split <;> omega)
          obtain ⟨_, hlen, hat⟩ := World.cells?_some hc
          refine ⟨es, hlen, fun j hj => ?_, ih e se he n es _ ht⟩
          rw [← hat j hj, Go.Deep.add_add]
    · rename_i m e hu
      split at h
      · rename_i hsz
        cases he : shOf P k e with
        | none => simp [he] at h
        | some se =>
          simp [he] at h
          subst h
          obtain ⟨xs, n, _, _, hl, hlx, hi⟩ := DataW.trod_array hu hx
          refine ⟨by rw [hl, hsz], fun i hlt => ?_⟩
          have := hi i hlt
          rw [List.getElem?_eq_getElem (by omega)] at this
          exact ih e se he n _ _ this
      · cases h
    · rename_i fs hu
      obtain ⟨xs, n, _, _, hl, hlx, hf⟩ := DataW.trod_struct hu hx
      have := fits_fields (P := P) (enc := enc) (w := w) (base := base) (spare := spare) (held := held) (m := n) (fun t sh cs x hg ht => ih t sh hg n cs x ht) cs hl fs.toList 0 sh xs (Nat.zero_le _) h (by simpa using hlx) (fun i f h' => hf i f (by simpa using h'))
      simpa using this
    · cases h

theorem cell_add {w : World} {a : Addr} {k : Nat} {v : Value} (h : w.cell? (a.add k) = some v) : w.cell? ⟨a.block, a.off + k, none⟩ = some v ∧ a.block < w.heap.size := by
  obtain ⟨b, o, sp⟩ := a
  have hb := World.block_lt_of_cell? w _ h
  have hs := World.cell?_spot h
  by_cases hk : k = 0
  · subst hk
    simp [Addr.add] at h hb hs
    subst hs
    exact ⟨by simpa using h, hb⟩
  · simp [Addr.add, hk] at h hb
    exact ⟨h, hb⟩

theorem fits_of_Trod {k : Nat} {t : TypeId} {sh : Sh} (h : shOf P k t = some sh) {v : Value} {d : DataW H} {ps : List MemPlace} (ht : DataW.Trod enc P w base spare held t v d ps) : Fits w sh v.cells.toList :=
  let ⟨_, h'⟩ := ht
  fits_of_trod k t sh h _ _ _ h'
end

/-- A slice: where it has elements it leads to a row of cells, element by element. -/
theorem fits_slice {w : World} {n : Nat} {e : Sh} {a : Option Addr} {len cap : Nat} (hn : 0 < n) (h : Fits w (.slice n e) [.slice a len cap]) :
    len ≤ maxLen ∧ (len = 0 ∨ ∃ b off, a = some ⟨b, off, none⟩ ∧ b < w.heap.size ∧ ∀ i, i < len → ∃ es : List Value, es.length = n ∧ (∀ j, j < n → w.cell? ⟨b, off + i * n + j, none⟩ = es[j]?) ∧ Fits w e es) := by
  rcases h with h | ⟨x, l, c, h, hl, hc, hi⟩
  · simp at h
    obtain ⟨rfl, rfl, rfl⟩ := h
    exact ⟨Nat.zero_le _, .inl rfl⟩
  · simp at h
    obtain ⟨rfl, rfl, rfl⟩ := h
    refine ⟨Nat.le_trans hl hc, ?_⟩
    by_cases h0 : len = 0
    · exact .inl h0
    · right
      obtain ⟨es, hlen, hcell, _⟩ := hi 0 (by omega)
      have h1 := hcell 0 hn
      rw [List.getElem?_eq_getElem (by omega)] at h1
      have hs := World.cell?_spot h1
      have hb := World.block_lt_of_cell? w _ h1
      obtain ⟨b, off, sp⟩ := x
      simp [Addr.add] at hs hb
      subst hs
      refine ⟨b, off, rfl, hb, fun i hlt => ?_⟩
      obtain ⟨es, hlen, hcell, hf⟩ := hi i hlt
      refine ⟨es, hlen, fun j hj => ?_, hf⟩
      have h2 := hcell j hj
      rw [List.getElem?_eq_getElem (by omega)] at h2 ⊢
      have := (cell_add h2).1
      simpa [Nat.add_assoc] using this

theorem fits_cons1 {w : World} {f r : Sh} {cs : List Value} (h : Fits w (.cons 1 f r) cs) : ∃ v vs, cs = v :: vs ∧ Fits w f [v] ∧ Fits w r vs := by
  obtain ⟨hl, hf, hr⟩ := h
  match cs, hl with
  | v :: vs, _ => exact ⟨v, vs, rfl, by simpa using hf, by simpa using hr⟩
theorem fits_int {w : World} {k : IntKind} {v : Value} (h : Fits w (.int k) [v]) : ∃ n, v = .int k n ∧ (Lit.int k n).wf = true := by
  obtain ⟨n, hn, hw⟩ := h
  exact ⟨n, by simpa using hn, hw⟩
theorem fits_bool {w : World} {v : Value} (h : Fits w .bool [v]) : ∃ b, v = .bool b := by
  obtain ⟨b, hb⟩ := h
  exact ⟨b, by simpa using hb⟩
theorem fits_str {w : World} {v : Value} (h : Fits w .str [v]) : ∃ s : ByteArray, v = .string s ∧ s.size ≤ maxLen := by
  obtain ⟨s, hs, hw⟩ := h
  exact ⟨s, by simpa using hs, hw⟩
theorem fits_ints3 {w : World} {k0 k1 k2 : IntKind} {cs : List Value} (h : Fits w (.cons 1 (.int k0) (.cons 1 (.int k1) (.cons 1 (.int k2) .nil))) cs) :
    ∃ a b c : Int, cs = [.int k0 a, .int k1 b, .int k2 c] ∧ (Lit.int k0 a).wf = true ∧ (Lit.int k1 b).wf = true ∧ (Lit.int k2 c).wf = true := by
  obtain ⟨_, _, rfl, h0, r0⟩ := fits_cons1 h
  obtain ⟨_, _, rfl, h1, r1⟩ := fits_cons1 r0
  obtain ⟨_, _, rfl, h2, r2⟩ := fits_cons1 r1
  obtain ⟨a, rfl, wa⟩ := fits_int h0
  obtain ⟨b, rfl, wb⟩ := fits_int h1
  obtain ⟨c, rfl, wc⟩ := fits_int h2
  obtain rfl : _ = [] := r2
  exact ⟨a, b, c, rfl, wa, wb, wc⟩
theorem fits_ints2 {w : World} {k0 k1 : IntKind} {cs : List Value} (h : Fits w (.cons 1 (.int k0) (.cons 1 (.int k1) .nil)) cs) :
    ∃ a b : Int, cs = [.int k0 a, .int k1 b] ∧ (Lit.int k0 a).wf = true ∧ (Lit.int k1 b).wf = true := by
  obtain ⟨_, _, rfl, h0, r0⟩ := fits_cons1 h
  obtain ⟨_, _, rfl, h1, r1⟩ := fits_cons1 r0
  obtain ⟨a, rfl, wa⟩ := fits_int h0
  obtain ⟨b, rfl, wb⟩ := fits_int h1
  obtain rfl : _ = [] := r1
  exact ⟨a, b, rfl, wa, wb⟩
end Go.Proofs.Ytpajedpkdfacoaa
