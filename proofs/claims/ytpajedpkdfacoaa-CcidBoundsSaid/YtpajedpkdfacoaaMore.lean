/- More of parts of memory: two parts are never the same block; blocks that hold no cells. -/
import Derived.Test.YtpajedpkdfacoaaStep
import Derived.Test.YtpajedpkdfacoaaRd
import Derived.Laws.Cover3
namespace Go.Proofs.Ytpajedpkdfacoaa
set_option linter.unusedSimpArgs false
set_option linter.unusedVariables false
open Go Go.RowKit

section
variable {w w' W : World} {S S0 : Nat → Prop} {l : List Asn} {p q : Asn}
theorem Sep.part : ∀ {l : List Asn} {S : Nat → Prop} (i : Nat), Sep w l S → l[i]? = some p → ∃ S1, p.holds w S1 ∧ ∀ b, S1 b → S b
  | _, _, i, h, hi => let ⟨S1, a, b, _⟩ := h.at i hi; ⟨S1, a, b⟩
theorem Sep.apart : ∀ {l : List Asn} {S : Nat → Prop} (i j : Nat), i < j → Sep w l S → l[i]? = some p → l[j]? = some q → ∃ S1 S2, p.holds w S1 ∧ q.holds w S2 ∧ ∀ b, S1 b → ¬ S2 b
  | [], _, _, _, _, _, h, _ => by simp at h
  | a :: l, S, 0, j + 1, _, ⟨S1, S2, h1, h2, h3, h4⟩, hi, hj => by
    obtain rfl : a = p := by simpa using hi
    obtain ⟨T, t1, t2⟩ := Sep.part j h2 (by simpa using hj)
    exact ⟨S1, T, h1, t1, fun b hb ht => h3 b hb (t2 b ht)⟩
  | a :: l, S, i + 1, j + 1, hij, ⟨S1, S2, h1, h2, h3, h4⟩, hi, hj => Sep.apart i j (by omega) h2 (by simpa using hi) (by simpa using hj)
theorem St.apart (i j : Nat) (h : St W S0 w l) (hij : i < j) (hi : l[i]? = some p) (hj : l[j]? = some q) : ∃ S1 S2, p.holds w S1 ∧ q.holds w S2 ∧ ∀ b, S1 b → ¬ S2 b := by
  obtain ⟨_, S, h2, _⟩ := h
  exact h2.apart i j hij hi hj
/-- Two blocks of cells are not the same one. -/
theorem St.ne_cells {b c : Nat} {vs us : List Value} (i j : Nat) (h : St W S0 w l) (hi : l[i]? = some (cellA b vs)) (hj : l[j]? = some (cellA c us)) (hij : i < j) : ¬ b = c := by
  obtain ⟨S1, S2, h1, h2, h3⟩ := h.apart i j hij hi hj
  intro e
  exact h3 b ((h1.2 b).2 rfl) ((h2.2 b).2 e)

/-- Only the first parts. -/
theorem St.drops (h : St W S0 w l) (n : Nat) : St W S0 w (l.take n) := by
  have h' : St W S0 w (l.take n ++ l.drop n) := by rwa [List.take_append_drop]
  have := (St.join _ _ h').front 0 rfl
  obtain ⟨h1, S, ⟨S1, S2, g1, g2, g3, g4⟩, h3⟩ := this
  exact ⟨h1, S1, g1, fun b hb => h3 b ((g4 b).2 (.inl hb))⟩
theorem St.all (h : St W S0 w l) : St W S0 w [sepA l] := St.join l [] (by rwa [List.append_nil])
theorem Sep.perm {l l' : List Asn} (hp : l.Perm l') : ∀ {S : Nat → Prop}, Sep w l S → Sep w l' S := by
  induction hp with
  | nil => exact id
  | cons a _ ih =>
    rintro S ⟨S1, S2, h1, h2, h3, h4⟩
    exact ⟨S1, S2, h1, ih h2, h3, h4⟩
  | swap a b l =>
    rintro S ⟨S1, S2, h1, ⟨S3, S4, g1, g2, g3, g4⟩, h3, h4⟩
    refine ⟨S3, fun x => S1 x ∨ S4 x, g1, ⟨S1, S4, h1, g2, fun x hx hy => h3 x hx ((g4 x).2 (.inr hy)), fun _ => Iff.rfl⟩, fun x hx hy => ?_, fun x => ?_⟩
    · rcases hy with hy | hy
      · exact h3 x hy ((g4 x).2 (.inl hx))
      · exact g3 x hx hy
    · rw [h4, g4]
      exact ⟨fun h => by rcases h with h | h | h <;> simp [h], fun h => by rcases h with h | h | h <;> simp [h]⟩
  | trans _ _ ih1 ih2 => exact fun h => ih2 (ih1 h)
theorem range_getD {α : Type} (d : α) (l : List α) : (List.range l.length).map (fun i => l.getD i d) = l := by
  apply List.ext_getElem?
  intro i
  by_cases h : i < l.length
  · simp [h]
  · simp [h]
/-- Another order of the parts: 'is' names them by where they stand. -/
theorem St.arr (h : St W S0 w l) (is : List Nat) (hp : is.isPerm (List.range l.length) = true) : St W S0 w (is.map fun i => l.getD i (sepA [])) := by
  obtain ⟨h1, S, h2, h3⟩ := h
  have hq : (is.map fun i => l.getD i (sepA [])).Perm l := by
    have := (List.isPerm_iff.1 hp).map (fun i => l.getD i (sepA []))
    rwa [range_getD] at this
  exact ⟨h1, S, h2.perm hq.symm, h3⟩
/-- Another order of the first parts. -/
theorem St.arrN (h : St W S0 w l) (is : List Nat) (hp : is.isPerm (List.range is.length) = true) (hn : is.length ≤ l.length := by simp) : St W S0 w ((is.map fun i => l.getD i (sepA [])) ++ l.drop is.length) := by
  obtain ⟨h1, S, h2, h3⟩ := h
  have hq : ((is.map fun i => l.getD i (sepA [])) ++ l.drop is.length).Perm l := by
    have h4 := (List.isPerm_iff.1 hp).map (fun i => l.getD i (sepA []))
    have h5 : (List.range is.length).map (fun i => l.getD i (sepA [])) = l.take is.length := by
      apply List.ext_getElem?
      intro i
      by_cases h : i < is.length
      · simp [h, show i < l.length by omega]
      · simp [h]
        omega
    rw [h5] at h4
    have := h4.append_right (l.drop is.length)
    rwa [List.take_append_drop] at this
  exact ⟨h1, S, h2.perm hq.symm, h3⟩
/-- A block that holds just this object. -/
def objA (b : Nat) (o : Obj) : Asn where
  holds w S := w.heap[b]? = some o ∧ ∀ x, S x ↔ x = b
  keeps w w' S h hs hb := ⟨(hb b ((h.2 b).2 rfl)).trans h.1, h.2⟩
  inb w S b' h hx := by
    rw [(h.2 b').1 hx]
    exact (Array.getElem?_eq_some_iff.1 h.1).1
theorem St.obj {b : Nat} {o : Obj} (i : Nat) (h : St W S0 w l) (hi : l[i]? = some (objA b o)) : w.heap[b]? = some o := by
  obtain ⟨S1, a, _⟩ := h.at i hi
  exact a.1
theorem St.newObj (h : St W S0 w l) (o : Obj) : St W S0 (w.alloc o) (objA w.heap.size o :: l) := by
  obtain ⟨h1, _, _, _⟩ := h.skip o
  obtain ⟨S2, h4, h5⟩ := h.sep
  have h4' := h4.keeps (w' := w.alloc o) (by simp) fun b hx => Below.heap_alloc w _ b (h4.inb hx)
  refine ⟨h1, fun b => b = w.heap.size ∨ S2 b, ⟨fun b => b = w.heap.size, S2, ⟨?_, fun _ => Iff.rfl⟩, h4', fun b e hx => ?_, fun _ => Iff.rfl⟩, fun b hx => ?_⟩
  · show (w.heap.push o)[w.heap.size]? = some o
    simp
  · have := h4.inb hx
    omega
  · rcases hx with hx | hx
    · exact .inr (by rw [hx]; exact h.size)
    · exact h5 b hx
theorem St.all_front (l1 l2 : List Asn) (p : Asn) (h : St W S0 w (l1 ++ p :: l2)) : St W S0 w (p :: (l1 ++ l2)) := by
  have := h.front l1.length (p := p) (by simp)
  rwa [List.eraseIdx_append_of_length_le (Nat.le_refl _), Nat.sub_self, List.eraseIdx_zero, List.tail_cons] at this
theorem St.into (l1 l2 : List Asn) (p : Asn) (h : St W S0 w (p :: (l1 ++ l2))) : St W S0 w (l1 ++ p :: l2) := by
  induction l1 generalizing p W S0 with
  | nil => exact h
  | cons a l1 ih =>
    have h1 : St W S0 w (a :: p :: (l1 ++ l2)) := by simpa using h.front 1 (p := a) (by simp)
    obtain ⟨k1, S, ⟨S1, S2, g1, g2, g3, g4⟩, k3⟩ := h1
    have : St w S2 w (p :: (l1 ++ l2)) := St.start g2
    obtain ⟨_, T, t1, t2⟩ := ih p this
    have hsub : ∀ b, T b → S2 b := fun b hb => by
      rcases t2 b hb with h | h
      · exact h
      · have := t1.inb hb; omega
    refine ⟨k1, fun b => S1 b ∨ T b, ⟨S1, T, g1, t1, fun b hb ht => g3 b hb (hsub b ht), fun _ => Iff.rfl⟩, fun b hb => ?_⟩
    rcases hb with hb | hb
    · exact k3 b ((g4 b).2 (.inl hb))
    · exact k3 b ((g4 b).2 (.inr (hsub b hb)))
/-- A block's cells, read as a slice. -/
theorem Box.rd {b : Nat} {vs : List Value} (h : Box w b vs) : Rd w (some ⟨b, 0, none⟩) vs := .inr ⟨b, 0, rfl, h.lt, fun j u hu => by rw [Nat.zero_add, h.cells]; exact hu⟩
/-- 'string([]byte{c})'. -/
theorem run_byte {P : Program} (src dst e : TypeId) (hs : P.underlying src = some (.slice e)) (he : P.underlying e = some (.int .u8)) (hd : P.underlying dst = some .string) {b : Nat} {c : Nat} (hc : c < 256) (h : Box w b [.int .u8 (c : Int)]) :
    (convert src dst (.slice (some ⟨b, 0, none⟩) 1 1)).run P w = .ok (.string ⟨#[UInt8.ofNat c]⟩) w :=
  run_convert_bytes_back w src dst e ⟨b, 0, none⟩ 1 [UInt8.ofNat c] hs he hd fun j hj => by
    obtain rfl : j = 0 := by simp at hj; omega
    have := h.cells 0
    simp only [Addr.add, if_pos]
    rw [this]
    simp [Nat.mod_eq_of_lt hc]
/-- What is told of a row that is handed on. -/
theorem St.slice {size n : Nat} {v : Value} {xs : List Value} (hs : 0 < size) (i : Nat) (h : St W S0 w l) (hi : l[i]? = some (rowA size v n xs)) :
    ∃ a cap, v = .slice a n cap ∧ n ≤ cap ∧ cap ≤ maxLen ∧ (a = none → n = 0) ∧ Rd w a xs := by
  have ho := h.row i hi
  obtain ⟨a, cap, e, _, hl, hr⟩ := ho.rd hs
  refine ⟨a, cap, e, ?_⟩
  subst e
  rcases ho.2 with ⟨e, e0⟩ | ⟨g, o, cap', e, _, _, hn, hc, _⟩
  · injection e with e1 e2 e3
    subst e1 e3 e0
    exact ⟨Nat.le_refl _, Nat.zero_le _, fun _ => rfl, hr⟩
  · injection e with e1 e2 e3
    subst e1 e3
    exact ⟨hn, hc, (fun e => by cases e), hr⟩
theorem St.rd {size n cap : Nat} {a : Option Addr} {xs : List Value} (hs : 0 < size) (i : Nat) (h : St W S0 w l) (hi : l[i]? = some (rowA size (.slice a n cap) n xs)) : Rd w a xs := by
  obtain ⟨a', cap', e, _, _, hr⟩ := (h.row i hi).rd hs
  injection e with e1 e2 e3
  subst e1
  exact hr
/-- A function value is not nil; nil is. -/
def isF : Option TypeDesc → Bool
  | some (.func ..) => true
  | _ => false
theorem equalIn_func {P : Program} (d : Nat) (t : TypeId) (h : isF (P.underlying t) = true) (f : Fn) (fi ca : Array Value) (w : World) : (Op.equalIn (d + 1) t (.func f fi ca) .nilFunc).run P w = .ok false w := by
  cases hu : P.underlying t with
  | none => rw [hu] at h; cases h
  | some e =>
    rw [hu] at h
    cases e <;> first | (cases h; done) | skip
    simp [Op.equalIn, run_underlying hu]
theorem equalIn_nilf {P : Program} (d : Nat) (t : TypeId) (h : isF (P.underlying t) = true) (w : World) : (Op.equalIn (d + 1) t .nilFunc .nilFunc).run P w = .ok true w := by
  cases hu : P.underlying t with
  | none => rw [hu] at h; cases h
  | some e =>
    rw [hu] at h
    cases e <;> first | (cases h; done) | skip
    simp [Op.equalIn, run_underlying hu]
theorem equal_func {P : Program} (t : TypeId) (h : isF (P.underlying t) = true) (f : Fn) (fi ca : Array Value) (w : World) : (Op.equal t (.func f fi ca) .nilFunc).run P w = .ok false w := equalIn_func 9999 t h f fi ca w
theorem equal_nilf {P : Program} (t : TypeId) (h : isF (P.underlying t) = true) (w : World) : (Op.equal t .nilFunc .nilFunc).run P w = .ok true w := equalIn_nilf 9999 t h w
theorem run_eql_func {P : Program} (t : TypeId) (h : isF (P.underlying t) = true) (f : Fn) (fi ca : Array Value) (w : World) : (binOp .eql t (.func f fi ca) .nilFunc).run P w = .ok (.bool false) w := by
  simp only [binOp]
  simp [equal_func t h f fi ca w]
theorem run_eql_snil {P : Program} (t e : TypeId) (h : P.underlying t = some (.slice e)) (a : Option Addr) (n c : Nat) (w : World) : (binOp .eql t (.slice a n c) (.slice none 0 0)).run P w = .ok (.bool a.isNone) w := by
  simp only [binOp]
  have := run_equal_slice_nil w t e a n c h
  simp [this]
theorem run_neq_func {P : Program} (t : TypeId) (h : isF (P.underlying t) = true) (f : Fn) (fi ca : Array Value) (w : World) : (binOp .neq t (.func f fi ca) .nilFunc).run P w = .ok (.bool true) w := by
  simp only [binOp]
  simp [equal_func t h f fi ca w]
theorem run_eql_nilf {P : Program} (t : TypeId) (h : isF (P.underlying t) = true) (w : World) : (binOp .eql t .nilFunc .nilFunc).run P w = .ok (.bool true) w := by
  simp only [binOp]
  simp [equal_nilf t h w]
theorem run_neq_nilf {P : Program} (t : TypeId) (h : isF (P.underlying t) = true) (w : World) : (binOp .neq t .nilFunc .nilFunc).run P w = .ok (.bool false) w := by
  simp only [binOp]
  simp [equal_nilf t h w]
end
end Go.Proofs.Ytpajedpkdfacoaa
