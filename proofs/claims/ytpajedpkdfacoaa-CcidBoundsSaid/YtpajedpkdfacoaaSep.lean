/- Parts of memory that do not overlap: what a call may turn, and what of the rest stays. -/
import Derived.Test.YtpajedpkdfacoaaOwn
namespace Go.Proofs.Ytpajedpkdfacoaa
set_option linter.unusedSimpArgs false
set_option linter.unusedVariables false
open Go Go.RowKit

/-- Of the blocks that were there only those of S may have turned. -/
structure Only (w w' : World) (S : Nat → Prop) : Prop where
  os : w'.os = w.os
  tape : w'.tape = w.tape
  output : w'.output = w.output
  size : w.heap.size ≤ w'.heap.size
  block : ∀ b, b < w.heap.size → ¬ S b → w'.heap[b]? = w.heap[b]?

/-- What a part of memory is, with the blocks that it takes up. -/
structure Asn where
  holds : World → (Nat → Prop) → Prop
  keeps : ∀ w w' S, holds w S → w.heap.size ≤ w'.heap.size → (∀ b, S b → w'.heap[b]? = w.heap[b]?) → holds w' S
  inb : ∀ w S b, holds w S → S b → b < w.heap.size

/-- A block of cells that may be written. -/
def cellA (b : Nat) (vs : List Value) : Asn where
  holds w S := Box w b vs ∧ ∀ x, S x ↔ x = b
  keeps w w' S h hs hb := by
    obtain ⟨h, hS⟩ := h
    have e := hb b ((hS b).2 rfl)
    exact ⟨⟨Nat.lt_of_lt_of_le h.lt hs, fun o => (World.cell?_of_block (w := w) (a := ⟨b, o, none⟩) e).trans (h.cells o), fun o => (World.frozen?_of_block (w := w) (a := ⟨b, o, none⟩) e).trans (h.free o)⟩, hS⟩
  inb w S b' h hx := by
    obtain ⟨h, hS⟩ := h
    rw [(hS b').1 hx]
    exact h.lt

/-- A row that a slice value holds, with all that it could hold. -/
def rowA (size : Nat) (v : Value) (n : Nat) (xs : List Value) : Asn where
  holds w S := Own w 0 size v n xs ∧ ∀ x, S x ↔ v.ownBlock = some x
  keeps w w' S h hs hb := by
    obtain ⟨⟨h1, h2⟩, hS⟩ := h
    refine ⟨⟨h1, h2.imp id ?_⟩, hS⟩
    rintro ⟨g, o, cap, rfl, hg, hlt, hn, hc, hx, hr⟩
    have e := hb g ((hS g).2 rfl)
    refine ⟨g, o, cap, rfl, hg, Nat.lt_of_lt_of_le hlt hs, hn, hc, fun j u hu => ?_, fun j hj => ?_⟩
    · rw [World.cell?_of_block (w := w) (a := ⟨g, o + j, none⟩) e]; exact hx j u hu
    · rw [World.cell?_of_block (w := w) (a := ⟨g, o + j, none⟩) e, World.frozen?_of_block (w := w) (a := ⟨g, o + j, none⟩) e]; exact hr j hj
  inb w S b h hx := by
    obtain ⟨h, hS⟩ := h
    exact (h.lt b ((hS b).1 hx)).2

/-- Parts, none of which overlaps another. -/
def Sep (w : World) : List Asn → (Nat → Prop) → Prop
  | [], S => ∀ b, ¬ S b
  | p :: l, S => ∃ S1 S2, p.holds w S1 ∧ Sep w l S2 ∧ (∀ b, S1 b → ¬ S2 b) ∧ ∀ b, S b ↔ S1 b ∨ S2 b

theorem Sep.inb {w : World} : ∀ {l : List Asn} {S : Nat → Prop} {b : Nat}, Sep w l S → S b → b < w.heap.size
  | [], _, _, h, hb => absurd hb (h _)
  | p :: _, _, _, ⟨_, _, h1, h2, _, h4⟩, hb => by
    rcases (h4 _).1 hb with hb | hb
    · exact p.inb _ _ _ h1 hb
    · exact Sep.inb h2 hb
theorem Sep.keeps {w w' : World} (hs : w.heap.size ≤ w'.heap.size) : ∀ {l : List Asn} {S : Nat → Prop}, Sep w l S → (∀ b, S b → w'.heap[b]? = w.heap[b]?) → Sep w' l S
  | [], _, h, _ => h
  | p :: _, _, ⟨_, _, h1, h2, h3, h4⟩, hb => ⟨_, _, p.keeps _ _ _ h1 hs (fun b hx => hb b ((h4 b).2 (.inl hx))), Sep.keeps hs h2 (fun b hx => hb b ((h4 b).2 (.inr hx))), h3, h4⟩

/-- Parts joined into one. -/
def sepA (l : List Asn) : Asn where
  holds w S := Sep w l S
  keeps _ _ _ h hs hb := h.keeps hs hb
  inb _ _ _ h hx := h.inb hx
def exA {α : Type} (f : α → Asn) : Asn where
  holds w S := ∃ a, (f a).holds w S
  keeps w w' S h hs hb := let ⟨a, h⟩ := h; ⟨a, (f a).keeps w w' S h hs hb⟩
  inb w S b h hx := let ⟨a, h⟩ := h; (f a).inb w S b h hx
def andA (φ : Prop) (p : Asn) : Asn where
  holds w S := φ ∧ p.holds w S
  keeps w w' S h hs hb := ⟨h.1, p.keeps w w' S h.2 hs hb⟩
  inb w S b h hx := p.inb w S b h.2 hx

section
variable {w w' w'' W : World} {S S' S0 : Nat → Prop}
theorem Only.refl (w : World) (S : Nat → Prop) : Only w w S := ⟨rfl, rfl, rfl, Nat.le_refl _, fun _ _ _ => rfl⟩
theorem Only.mono (h : Only w w' S) (hs : ∀ b, S b → S' b ∨ w.heap.size ≤ b) : Only w w' S' :=
  ⟨h.os, h.tape, h.output, h.size, fun b hb hn => h.block b hb fun hx => (hs b hx).elim hn fun hle => by omega⟩
theorem Only.trans (h : Only w w' S) (k : Only w' w'' S') (hs : ∀ b, S' b → S b ∨ w.heap.size ≤ b) : Only w w'' S :=
  ⟨k.os.trans h.os, k.tape.trans h.tape, k.output.trans h.output, Nat.le_trans h.size k.size, fun b hb hn =>
    (k.block b (Nat.lt_of_lt_of_le hb h.size) fun hx => (hs b hx).elim hn fun hle => by omega).trans (h.block b hb hn)⟩
theorem Only.below (h : Only w w' fun _ => False) : Below w.heap.size w w' := ⟨h.os, h.tape, h.output, h.size, fun b hb => h.block b hb id⟩
theorem Only.of_below (h : Below w.heap.size w w') : Only w w' S := ⟨h.os, h.tape, h.output, h.size, fun b hb _ => h.block b hb⟩
theorem Only.of_grown {r : Option Nat} (h : w.grownBy w' r) (hs : ∀ k, r = some k → S k) : Only w w' S :=
  ⟨h.os, h.tape, h.output, h.size, fun b hb hn => h.block b hb fun e => hn (hs b e.symm)⟩
theorem Only.grown {r : Option Nat} (h : Only w w' fun b => r = some b) : w.grownBy w' r :=
  ⟨h.os, h.tape, h.output, h.size, fun b hb hn => h.block b hb fun e => hn e.symm⟩
end

/-- As things stand in a call that began in W and may turn the blocks of S0: the world w, and the parts that are known of it. -/
structure St (W : World) (S0 : Nat → Prop) (w : World) (l : List Asn) : Prop where
  only : Only W w S0
  sep : ∃ S, Sep w l S ∧ ∀ b, S b → S0 b ∨ W.heap.size ≤ b

/-- How a call ends that began in W with the blocks S0. -/
def Fin (W : World) (S0 : Nat → Prop) (v : Value) (l : List Asn) (e : Ending) (w' : World) : Prop := e = .returned v ∧ St W S0 w' l
def none0 : Nat → Prop := fun _ => False

section
variable {w w' W : World} {S S0 : Nat → Prop} {l l' l'' : List Asn} {p p' q : Asn}
theorem St.start (h : Sep w l S) : St w S w l := ⟨Only.refl _ _, S, h, fun _ h => .inl h⟩
theorem St.zero (w : World) : St w none0 w [] := ⟨Only.refl _ _, none0, fun _ h => h, fun _ h => h.elim⟩
theorem St.size (h : St W S0 w l) : W.heap.size ≤ w.heap.size := h.only.size

/-- What was there and may not turn is as it was. -/
theorem St.old (h : St W S0 w l) {b : Nat} (hb : b < W.heap.size) (hn : ¬ S0 b) :
    (∀ o, w.cell? ⟨b, o, none⟩ = W.cell? ⟨b, o, none⟩) ∧ (∀ o, w.frozen? ⟨b, o, none⟩ = W.frozen? ⟨b, o, none⟩) :=
  ⟨fun o => World.cell?_of_block (w := W) (a := ⟨b, o, none⟩) (h.only.block b hb hn), fun o => World.frozen?_of_block (w := W) (a := ⟨b, o, none⟩) (h.only.block b hb hn)⟩
theorem St.below (h : St W none0 w l) : Below W.heap.size W w := Only.below h.only
theorem St.ret (h : St W none0 w l) {v u : Value} (e : v = u) : Ret W u (.returned v) w := ⟨by rw [e], h.below⟩

/-- A call that turns nothing that was there. -/
theorem St.thru (h : St W S0 w l) (hb : Below w.heap.size w w') : St W S0 w' l := by
  obtain ⟨h1, S, h2, h3⟩ := h
  exact ⟨h1.trans (S' := S0) (Only.of_below hb) fun _ h => .inl h, S, h2.keeps hb.size fun b hx => hb.block b (h2.inb hx), h3⟩
theorem St.drew (h : St W S0 w l) : St W S0 w.drew l := h.thru (Below.refl _ _).drew
theorem St.skip (h : St W S0 w l) (o : Obj) : St W S0 (w.alloc o) l := h.thru ((Below.refl _ _).alloc (Nat.le_refl _) o)
theorem St.alloc (h : St W S0 w l) (vs : List Value) (t : TypeId) : St W S0 (w.alloc (.cells vs.toArray t)) (cellA w.heap.size vs :: l) := by
  obtain ⟨h1, S, h2, h3⟩ := h.skip (.cells vs.toArray t)
  obtain ⟨S', h2', _⟩ := h.sep
  obtain ⟨S2, h4, h5⟩ := h.sep
  have h4' := h4.keeps (w' := w.alloc (.cells vs.toArray t)) (by simp) fun b hx => Below.heap_alloc w _ b (h4.inb hx)
  refine ⟨h1, fun b => b = w.heap.size ∨ S2 b, ⟨fun b => b = w.heap.size, S2, ⟨Box.new vs t, fun _ => Iff.rfl⟩, h4', fun b e hx => ?_, fun _ => Iff.rfl⟩, fun b hx => ?_⟩
  · have := h4.inb hx
    omega
  · rcases hx with hx | hx
    · exact .inr (by rw [hx]; exact h.size)
    · exact h5 b hx

/-- What is known of one part, and what may become of it. -/
theorem Sep.at : ∀ {l : List Asn} {S : Nat → Prop} (i : Nat), Sep w l S → l[i]? = some p → ∃ S1, p.holds w S1 ∧ (∀ b, S1 b → S b) ∧
    ∀ w' l' S1', Only w w' S1 → Sep w' l' S1' → (∀ b, S1' b → S1 b ∨ w.heap.size ≤ b) → ∃ S', Sep w' (l' ++ l.eraseIdx i) S' ∧ ∀ b, S' b → S b ∨ w.heap.size ≤ b
  | [], _, _, _, h => by simp at h
  | q :: l, S, 0, ⟨S1, S2, h1, h2, h3, h4⟩, h => by
    obtain rfl : q = p := by simpa using h
    refine ⟨S1, h1, fun b hb => (h4 b).2 (.inl hb), fun w' l' S1' ho hl hn => ?_⟩
    have h2' := h2.keeps (w' := w') ho.size fun b hx => ho.block b (h2.inb hx) fun hy => h3 b hy hx
    have key : ∀ (l' : List Asn) (S1' : Nat → Prop), Sep w' l' S1' → (∀ b, S1' b → S1 b ∨ w.heap.size ≤ b) → Sep w' (l' ++ l) fun b => S1' b ∨ S2 b := by
      intro l'
      induction l' with
      | nil =>
        intro S1' hl _
        have : (fun b => S1' b ∨ S2 b) = S2 := by funext b; exact propext ⟨fun h => h.elim (fun h => absurd h (hl b)) id, .inr⟩
        rw [this]; exact h2'
      | cons a l' ih =>
        rintro S1' ⟨T1, T2, g1, g2, g3, g4⟩ hn
        refine ⟨T1, _, g1, ih T2 g2 (fun b hb => hn b ((g4 b).2 (.inr hb))), fun b hb => ?_, fun b => ?_⟩
        · rintro (hx | hx)
          · exact g3 b hb hx
          · rcases hn b ((g4 b).2 (.inl hb)) with hy | hy
            · exact h3 b hy hx
            · have := h2.inb hx; omega
        · show S1' b ∨ S2 b ↔ _
          rw [g4 b]; exact or_assoc
    refine ⟨_, key l' S1' hl hn, fun b hb => ?_⟩
    rcases hb with hb | hb
    · rcases hn b hb with hb | hb
      · exact .inl ((h4 b).2 (.inl hb))
      · exact .inr hb
    · exact .inl ((h4 b).2 (.inr hb))
  | q :: l, S, i + 1, ⟨S1, S2, h1, h2, h3, h4⟩, h => by
    obtain ⟨T, t1, t2, t3⟩ := Sep.at i h2 (by simpa using h)
    refine ⟨T, t1, fun b hb => (h4 b).2 (.inr (t2 b hb)), fun w' l' T' ho hl hn => ?_⟩
    obtain ⟨U, u1, u2⟩ := t3 w' l' T' ho hl hn
    have hq := q.keeps w w' S1 h1 ho.size fun b hx => ho.block b (q.inb _ _ _ h1 hx) fun hy => h3 b hx (t2 b hy)
    have ins : ∀ (l' r : List Asn) (V : Nat → Prop), Sep w' (l' ++ r) V → (∀ b, V b → ¬ S1 b) → Sep w' (l' ++ q :: r) fun b => S1 b ∨ V b := by
      intro l'
      induction l' with
      | nil => intro r V hv hd; exact ⟨S1, V, hq, hv, fun b hb hv => hd b hv hb, fun _ => Iff.rfl⟩
      | cons a l' ih =>
        rintro r V ⟨V1, V2, g1, g2, g3, g4⟩ hd
        refine ⟨V1, fun b => S1 b ∨ V2 b, g1, ih r V2 g2 (fun b hb => hd b ((g4 b).2 (.inr hb))), fun b hb => ?_, fun b => ?_⟩
        · rintro (hx | hx)
          · exact hd b ((g4 b).2 (.inl hb)) hx
          · exact g3 b hb hx
        · show S1 b ∨ V b ↔ V1 b ∨ S1 b ∨ V2 b
          rw [g4 b]
          exact ⟨fun h => by rcases h with h | h | h <;> simp [h], fun h => by rcases h with h | h | h <;> simp [h]⟩
    refine ⟨_, ins l' _ U u1 (fun b hb hx => ?_), fun b hb => ?_⟩
    · rcases u2 b hb with hy | hy
      · exact h3 b hx hy
      · have := q.inb _ _ _ h1 hx; omega
    · rcases hb with hb | hb
      · exact .inl ((h4 b).2 (.inl hb))
      · rcases u2 b hb with hb | hb
        · exact .inl ((h4 b).2 (.inr hb))
        · exact .inr hb

theorem St.at (i : Nat) (h : St W S0 w l) (hi : l[i]? = some p) : ∃ S1, p.holds w S1 ∧ (∀ b, S1 b → S0 b ∨ W.heap.size ≤ b) ∧
    ∀ w' l', St w S1 w' l' → St W S0 w' (l' ++ l.eraseIdx i) := by
  obtain ⟨h1, S, h2, h3⟩ := h
  obtain ⟨S1, a, b, c⟩ := h2.at i hi
  refine ⟨S1, a, fun x hx => h3 x (b x hx), fun w' l' ⟨k1, T, k2, k3⟩ => ?_⟩
  obtain ⟨S', e1, e2⟩ := c w' l' T k1 k2 k3
  refine ⟨h1.trans k1 fun x hx => h3 x (b x hx), S', e1, fun x hx => ?_⟩
  rcases e2 x hx with hx | hx
  · exact h3 x hx
  · exact .inr (Nat.le_trans h1.size hx)

theorem Sep.one (h : p.holds w S) : Sep w [p] S := ⟨S, fun _ => False, h, fun _ h => h, fun _ _ h => h, fun _ => by simp⟩
theorem Sep.the (h : Sep w [p] S) : p.holds w S := by
  obtain ⟨S1, S2, h1, h2, _, h4⟩ := h
  have : S = S1 := by funext b; exact propext ⟨fun hb => ((h4 b).1 hb).elim id fun h => absurd h (h2 b), fun hb => (h4 b).2 (.inl hb)⟩
  rw [this]; exact h1

/-- Another order of the parts: the i-th comes first. -/
theorem St.front (i : Nat) (h : St W S0 w l) (hi : l[i]? = some p) : St W S0 w (p :: l.eraseIdx i) := by
  obtain ⟨S1, a, _, c⟩ := h.at i hi
  exact c w [p] (St.start (Sep.one a))
theorem St.drop (i : Nat) (h : St W S0 w l) (hi : l[i]? = some p) : St W S0 w (l.eraseIdx i) := by
  obtain ⟨S1, a, _, c⟩ := h.at i hi
  exact c w [] ⟨Only.refl _ _, fun _ => False, fun _ h => h, fun _ h => h.elim⟩

/-- A block that may be written: what it holds. -/
theorem St.box {b : Nat} {vs : List Value} (i : Nat) (h : St W S0 w l) (hi : l[i]? = some (cellA b vs)) : Box w b vs := by
  obtain ⟨S1, a, _⟩ := h.at i hi
  exact a.1
/-- A store into it. -/
theorem St.set {b : Nat} {vs : List Value} (i : Nat) (h : St W S0 w l) (hi : l[i]? = some (cellA b vs)) (o : Nat) (v : Value) (ho : o < vs.length) :
    St W S0 (w.setCell ⟨b, o, none⟩ v) (cellA b (vs.set o v) :: l.eraseIdx i) := by
  obtain ⟨S1, ⟨a, a'⟩, _, c⟩ := h.at i hi
  refine c _ [_] ⟨⟨rfl, rfl, rfl, by simp, fun x _ hn => Below.heap_setCell w _ v x (fun e => hn ((a' x).2 e))⟩, S1, Sep.one ⟨a.set o v ho, a'⟩, fun _ h => .inl h⟩
/-- Into another form, in place. -/
theorem St.conv (i : Nat) (h : St W S0 w l) (hi : l[i]? = some p) (hp : ∀ S, p.holds w S → ∃ l', (sepA l').holds w S ∧ l' = l'') : St W S0 w (l'' ++ l.eraseIdx i) := by
  obtain ⟨S1, a, _, c⟩ := h.at i hi
  obtain ⟨l', b, rfl⟩ := hp _ a
  exact c w l' (St.start b)
theorem St.unsep (i : Nat) (h : St W S0 w l) (hi : l[i]? = some (sepA l')) : St W S0 w (l' ++ l.eraseIdx i) := by
  obtain ⟨S1, a, _, c⟩ := h.at i hi
  exact c w l' (St.start a)
theorem St.unex {α : Type} {f : α → Asn} (i : Nat) (h : St W S0 w l) (hi : l[i]? = some (exA f)) : ∃ a, St W S0 w (f a :: l.eraseIdx i) := by
  obtain ⟨S1, ⟨a, b⟩, _, c⟩ := h.at i hi
  exact ⟨a, c w [_] (St.start (Sep.one b))⟩
theorem St.unand {φ : Prop} (i : Nat) (h : St W S0 w l) (hi : l[i]? = some (andA φ p)) : φ ∧ St W S0 w (p :: l.eraseIdx i) := by
  obtain ⟨S1, ⟨a, b⟩, _, c⟩ := h.at i hi
  exact ⟨a, c w [_] (St.start (Sep.one b))⟩
theorem Sep.join : ∀ (l l' : List Asn) (S : Nat → Prop), Sep w (l ++ l') S → ∃ S1 S2, Sep w l S1 ∧ Sep w l' S2 ∧ (∀ b, S1 b → ¬ S2 b) ∧ ∀ b, S b ↔ S1 b ∨ S2 b
  | [], l', S, h => ⟨fun _ => False, S, fun _ h => h, h, fun _ h => h.elim, fun _ => by simp⟩
  | p :: l, l', S, ⟨T, U, h1, h2, h3, h4⟩ => by
    obtain ⟨S1, S2, g1, g2, g3, g4⟩ := Sep.join l l' U h2
    refine ⟨fun b => T b ∨ S1 b, S2, ⟨T, S1, h1, g1, fun b hb hx => h3 b hb ((g4 b).2 (.inl hx)), fun _ => Iff.rfl⟩, g2, fun b hb hx => ?_, fun b => ?_⟩
    · rcases hb with hb | hb
      · exact h3 b hb ((g4 b).2 (.inr hx))
      · exact g3 b hb hx
    · rw [h4, g4, or_assoc]
/-- The first parts joined into one. -/
theorem St.join (l1 l2 : List Asn) (h : St W S0 w (l1 ++ l2)) : St W S0 w (sepA l1 :: l2) := by
  obtain ⟨h1, S, h2, h3⟩ := h
  obtain ⟨S1, S2, g1, g2, g3, g4⟩ := Sep.join l1 l2 S h2
  exact ⟨h1, S, ⟨S1, S2, g1, g2, g3, g4⟩, h3⟩
theorem St.ex {α : Type} (f : α → Asn) (a : α) (h : St W S0 w (f a :: l)) : St W S0 w (exA f :: l) := by
  obtain ⟨h1, S, ⟨S1, S2, g1, g⟩, h3⟩ := h
  exact ⟨h1, S, ⟨S1, S2, ⟨a, g1⟩, g⟩, h3⟩
theorem St.and {φ : Prop} (hφ : φ) (h : St W S0 w (p :: l)) : St W S0 w (andA φ p :: l) := by
  obtain ⟨h1, S, ⟨S1, S2, g1, g⟩, h3⟩ := h
  exact ⟨h1, S, ⟨S1, S2, ⟨hφ, g1⟩, g⟩, h3⟩

/-- The row of a slice value: what a walk is told of it. -/
theorem Own.view {size n : Nat} {v : Value} {xs : List Value} (h : Own w 0 size v n xs) : ∃ a cap, v = .slice a n cap ∧ n ≤ maxLen ∧ xs.length = n * size ∧
    (n = 0 ∨ ∃ g o, a = some ⟨g, o, none⟩ ∧ g < w.heap.size ∧ ∀ j u, xs[j]? = some u → w.cell? ⟨g, o + j, none⟩ = some u) := by
  obtain ⟨h1, h2⟩ := h
  rcases h2 with ⟨rfl, rfl⟩ | ⟨g, o, cap, rfl, _, hlt, hn, hc, hx, _⟩
  · exact ⟨none, 0, rfl, Nat.zero_le _, h1, .inl rfl⟩
  · exact ⟨_, cap, rfl, Nat.le_trans hn hc, h1, .inr ⟨g, o, rfl, hlt, hx⟩⟩
theorem St.row {size n : Nat} {v : Value} {xs : List Value} (i : Nat) (h : St W S0 w l) (hi : l[i]? = some (rowA size v n xs)) : Own w 0 size v n xs := by
  obtain ⟨S1, a, _⟩ := h.at i hi
  exact a.1
/-- A row that has grown. -/
theorem St.app {size n m : Nat} {v v' : Value} {xs ys : List Value} (i : Nat) (h : St W S0 w l) (hi : l[i]? = some (rowA size v n xs))
    (ho : Own w' 0 size v' m ys) (hg : w.grownBy w' v.ownBlock) (hv : v'.ownBlock = v.ownBlock ∨ ∃ k, v'.ownBlock = some k ∧ w.heap.size ≤ k) : St W S0 w' (rowA size v' m ys :: l.eraseIdx i) := by
  obtain ⟨S1, ⟨a, a'⟩, _, c⟩ := h.at i hi
  refine c w' [_] ⟨Only.of_grown hg fun k hk => (a' k).2 hk, fun b => v'.ownBlock = some b, Sep.one ⟨ho, fun _ => Iff.rfl⟩, fun b hb => ?_⟩
  rcases hv with hv | ⟨k, hk, hle⟩
  · exact .inl ((a' b).2 (by rw [← hv]; exact hb))
  · exact .inr (by rw [hk] at hb; injection hb with hb; omega)
/-- A row of the call's own, new. -/
theorem St.row_new {size n : Nat} {v : Value} {xs : List Value} (h : St W S0 w l) (hb : Below w.heap.size w w') (ho : Own w' w.heap.size size v n xs) : St W S0 w' (rowA size v n xs :: l) := by
  have h' := h.thru hb
  obtain ⟨S, h2, h3⟩ := h.sep
  refine ⟨h'.only, fun b => v.ownBlock = some b ∨ S b, ⟨fun b => v.ownBlock = some b, S, ⟨⟨ho.1, ho.2.imp id ?_⟩, fun _ => Iff.rfl⟩, h2.keeps hb.size fun b hx => hb.block b (h2.inb hx), fun b hv hx => ?_, fun _ => Iff.rfl⟩, fun b hx => ?_⟩
  · rintro ⟨g, o, cap, e, _, r⟩
    exact ⟨g, o, cap, e, Nat.zero_le _, r⟩
  · have := (ho.lt b hv).1
    have := h2.inb hx
    omega
  · rcases hx with hx | hx
    · have := (ho.lt b hx).1
      exact .inr (Nat.le_trans h.size this)
    · exact h3 b hx
theorem St.row_nil {size : Nat} (h : St W S0 w l) : St W S0 w (rowA size (.slice none 0 0) 0 [] :: l) := by
  obtain ⟨h1, S, h2, h3⟩ := h
  exact ⟨h1, S, ⟨fun _ => False, S, ⟨Own.nil w 0 size, fun _ => by simp [Value.ownBlock]⟩, h2, fun _ h => h.elim, fun _ => by simp⟩, h3⟩

/-- 'append(v, x..)' where what is put behind was just laid in a new block. -/
theorem wpList_appS {P : Program} {ops : Array Oper} {rest : List Oper} {o : Oper} {a : Act} {Q : Exit → Act → World → Prop} {te : TypeId} (hgd : o.guard = none) (s x : Operand) (t : TypeId)
    (ho : o.op = .call { callee := .builtin .append, args := #[s, x], argTypes := #[t, t] })
    (e : TypeId) (i : TypeInfo) (z : Value) (size bytes : Nat) (ht : P.underlying t = some (.slice e)) (hi : P.info? e = some i) (hz : i.zero = some z)
    (hsize : i.size = size) (hby : i.bytes = bytes) (hzs : z.cells.size = size) (hsz : 0 < size)
    (k : Nat) (v : Value) (n : Nat) (xs : List Value) (hs : a.eval s = v) (H : St W S0 w l) (hk : l[k]? = some (rowA size v n xs))
    (m c : Nat) (news : List Value) {q : Nat} (hx : a.eval x = .slice (some ⟨q, 0, none⟩) m c) (hl : news.length = m * size) (h1 : ∀ u ∈ news, u.oneCell' = true)
    (hsm : n + m ≤ 1000000000) (hbs : bytes ≤ 100000)
    (h : ∀ v' w', St W S0 w' (rowA size v' (n + m) (xs ++ news) :: l.eraseIdx k) → wpList P ops Q rest (a.put o.dst v') w') (hq : q = w.heap.size := by simp) :
    wpList P ops Q (o :: rest) a (w.alloc (.cells news.toArray te)) := by
  subst hq
  exact wpList_app_new hgd s x t ho 0 e i z size bytes ht hi hz hsize hby hzs hsz v n xs hs (H.row k hk) m c news hx hl h1 hsm hbs (Nat.zero_le _)
    fun v' w' h2 h3 h4 => h v' w' (H.app k hk h2 h3 h4)

/-- Parts that a callee has made. -/
theorem St.add (h : St W S0 w l) (k : St w none0 w' l') : St W S0 w' (l' ++ l) := by
  obtain ⟨h1, S, h2, h3⟩ := h
  obtain ⟨k1, T, k2, k3⟩ := k
  have hb := Only.below k1
  have h2' := h2.keeps (w' := w') hb.size fun b hx => hb.block b (h2.inb hx)
  have key : ∀ (l' : List Asn) (T : Nat → Prop), Sep w' l' T → (∀ b, T b → w.heap.size ≤ b) → Sep w' (l' ++ l) fun b => T b ∨ S b := by
    intro l'
    induction l' with
    | nil =>
      intro T ht _
      have : (fun b => T b ∨ S b) = S := by funext b; exact propext ⟨fun h => h.elim (fun h => absurd h (ht b)) id, .inr⟩
      rw [this]; exact h2'
    | cons a l' ih =>
      rintro T ⟨T1, T2, g1, g2, g3, g4⟩ hn
      refine ⟨T1, _, g1, ih T2 g2 (fun b hb => hn b ((g4 b).2 (.inr hb))), fun b hb => ?_, fun b => ?_⟩
      · rintro (hx | hx)
        · exact g3 b hb hx
        · have := hn b ((g4 b).2 (.inl hb))
          have := h2.inb hx
          omega
      · show T b ∨ S b ↔ _
        rw [g4 b]; exact or_assoc
  refine ⟨h1.trans (S' := S0) (Only.of_below hb) fun _ h => .inl h, _, key l' T k2 (fun b hb => (k3 b hb).elim (fun h => h.elim) id), fun b hb => ?_⟩
  rcases hb with hb | hb
  · exact .inr (Nat.le_trans h1.size ((k3 b hb).elim (fun h => h.elim) id))
  · exact h3 b hb
/-- 'make([]T, n)'. -/
theorem wpList_makeS {P : Program} {ops : Array Oper} {rest : List Oper} {o : Oper} {a : Act} {Q : Exit → Act → World → Prop}
    (hg : o.guard = none) (lo co : Operand) (t : TypeId) (hop : o.op = Op.makeSlice t lo co)
    (e : TypeId) (i : TypeInfo) (z : Value) (size : Nat) (h1 : P.underlying t = some (.slice e)) (h2 : P.info? e = some i) (h3 : i.zero = some z) (h4 : i.size = size)
    (kl kc : IntKind) (L C : Int) (n : Nat) (hl : a.eval lo = .int kl L) (hc : a.eval co = .int kc C) (hL : L = (n : Int)) (hC : C = (n : Int)) (b2 : i.bytes * n ≤ 281474976710656) (b3 : n ≤ maxLen)
    (vs : List Value) (hv : (madeCells z.cells (n * size)).toList = vs) (H : St W S0 w l)
    (hK : ∀ w', St W S0 w' (cellA w.heap.size vs :: l) → wpList P ops Q rest (a.put o.dst (.slice (some ⟨w.heap.size, 0, none⟩) n n)) w') :
    wpList P ops Q (o :: rest) a w := by
  subst h4
  refine wpList_plain hg fun K hK' => ?_
  have h63' : (n : Int) ≤ 9223372036854775807 := by
    have h := b3
    simp [maxLen] at h
    omega
  have hb' : (i.bytes : Int) * (n : Int) ≤ 281474976710656 := by
    have h : ((i.bytes * n : Nat) : Int) ≤ 281474976710656 := by omega
    rwa [Int.natCast_mul] at h
  have hr := run_make (P := P) w t e i z h1 h2 h3 kl kc n n (by omega) (Int.le_refl _) hb' h63'
  simp only [Int.toNat_natCast] at hr
  subst hL
  subst hC
  unfold Oper.wp
  simp [execOp, hop, hl, hc, hr, Result.andThen]
  refine hK' _ _ (hK _ ?_)
  have hA := H.alloc vs e
  rw [← hv] at hA ⊢
  simpa using hA
theorem made_one (z : Value) (n : Nat) (hz : z.cells = #[z]) : (madeCells z.cells (n * 1)).toList = List.replicate n z := by
  rw [hz]
  simp only [madeCells, Nat.mul_one]
  apply List.ext_getElem?
  intro k
  by_cases h : k < n
  · simp [h, Nat.mod_one]
  · simp [h]

/-- A world of which the same is known. -/
structure Cls (W : World) (S0 : Nat → Prop) (l : List Asn) where
  it : World
  st : St W S0 it l
theorem St.ne (h : St W S0 w l) : Nonempty (Cls W S0 l) := ⟨⟨w, h⟩⟩
theorem Cls.self (h : St W S0 w l) : ∃ s : Cls W S0 l, w.drew = s.it := ⟨⟨_, h.drew⟩, rfl⟩
theorem Calls.cls {P : Program} {f : FuncId} {args : Array Value} {s : Cls W S0 l} {v : Value}
    (h : Calls P f args s.it (Ret s.it v)) : Calls P f args s.it fun e w'' => e = .returned v ∧ ∃ s' : Cls W S0 l, w'' = s'.it :=
  h.mono fun _ _ ⟨he, hb⟩ => ⟨he, ⟨⟨_, s.st.thru hb⟩, rfl⟩⟩
/-- A call that turns one part into what it was. -/
theorem Calls.cls_at {P : Program} {f : FuncId} {args : Array Value} {s : Cls W S0 (p :: l)} {v : Value}
    (h : ∀ S, p.holds s.it S → Calls P f args s.it (Fin s.it S v [p])) : Calls P f args s.it fun e w'' => e = .returned v ∧ ∃ s' : Cls W S0 (p :: l), w'' = s'.it := by
  obtain ⟨S1, a, _, c⟩ := s.st.at 0 rfl
  exact (h S1 a).mono fun _ w' ⟨he, hst⟩ => ⟨he, ⟨⟨w', c w' [p] hst⟩, rfl⟩⟩
/-- All operations quiet among the worlds of which the same is known. -/
theorem wp_region_cls {P : Program} {id : Nat} {Q : Exit → Act → World → Prop} {a : Act} {ops : List Oper} (hm : P.follows .mixedOrders = true) (hB : Region.lexB .any ops.toArray = true) (H : St W S0 w l)
    (h : wpQuiet P ops.toArray (fun w' => ∃ s : Cls W S0 l, w' = s.it) (fun a' => ∀ w', St W S0 w' l → Q .normal a' w') ops a) : (Code.region id ops.toArray true).wp P Q a w :=
  wp_region_quiet (C := fun w' => ∃ s : Cls W S0 l, w' = s.it) hm hB (Cls.self H) (by
    have e : (fun a' => ∀ w', St W S0 w' l → Q .normal a' w') = (fun a' => ∀ w', (∃ s : Cls W S0 l, w' = s.it) → Q .normal a' w') := by
      funext a'
      exact propext ⟨fun h w' ⟨s, hs⟩ => hs ▸ h _ s.st, fun h w' hw' => h w' ⟨⟨w', hw'⟩, rfl⟩⟩
    rw [← e]
    exact h)
theorem wp_region_cls_tail {P : Program} {id : Nat} {Q : Exit → Act → World → Prop} {a : Act} {ops : List Oper} (n : Nat) (hm : P.follows .mixedOrders = true) (hB : Region.lexTailB .any ops.toArray n = true) (H : St W S0 w l)
    (h : wpQuiet P ops.toArray (fun w' => ∃ s : Cls W S0 l, w' = s.it) (fun a' => ∀ w', St W S0 w' l → wpList P ops.toArray Q (ops.drop n) a' w') (ops.take n) a) : (Code.region id ops.toArray true).wp P Q a w :=
  wp_region_head (fun w' => ∃ s : Cls W S0 l, w' = s.it) n hm hB (Cls.self H) (by
    have e : (fun a' => ∀ w', St W S0 w' l → wpList P ops.toArray Q (ops.drop n) a' w') = (fun a' => ∀ w', (∃ s : Cls W S0 l, w' = s.it) → wpList P ops.toArray Q (ops.drop n) a' w') := by
      funext a'
      exact propext ⟨fun h w' ⟨s, hs⟩ => hs ▸ h _ s.st, fun h w' hw' => h w' ⟨⟨w', hw'⟩, rfl⟩⟩
    rw [← e]
    exact h)
end
end Go.Proofs.Ytpajedpkdfacoaa
