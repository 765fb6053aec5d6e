/- Slices of the call's own, wherever they begin in their row, and also where the row was made of a string: what they hold, and append. -/
import Derived.Test.YtpajedpkdfacoaaBase
import Derived.ArgAppend
import Derived.OwnWalk
import Derived.Lib.ConvBytes
import Derived.Laws.IdiomStrings
namespace Go.Proofs.Ytpajedpkdfacoaa
set_option linter.unusedSimpArgs false
set_option linter.unusedVariables false
open Go Go.RowKit

/-- A contract of a method that writes into one block: what is handed back, that nothing else that was there has turned, and what the block holds. -/
def RetC (w : World) (c : Nat) (v : Value) (vs : List Value) (e : Ending) (w' : World) : Prop := e = .returned v ∧ w.grownBy w' (some c) ∧ Box w' c vs
theorem RetC.mk {w w' : World} {c : Nat} {v u : Value} {vs : List Value} (h : v = u) (hg : w.grownBy w' (some c)) (hb : Box w' c vs) : RetC w c u vs (.returned v) w' := ⟨by rw [h], hg, hb⟩

theorem grown_refl (w : World) (r : Option Nat) : w.grownBy w r := ⟨rfl, rfl, rfl, Nat.le_refl _, fun _ _ _ => rfl⟩
theorem grown_trans {w w1 w2 : World} {r : Option Nat} (h : w.grownBy w1 r) (k : w1.grownBy w2 r) : w.grownBy w2 r :=
  ⟨k.os.trans h.os, k.tape.trans h.tape, k.output.trans h.output, Nat.le_trans h.size k.size, fun b hb hn => (k.block b (Nat.lt_of_lt_of_le hb h.size) hn).trans (h.block b hb hn)⟩
theorem grown_set {w W : World} {c : Nat} {p : Addr} {u : Value} (h : w.grownBy W (some c)) (hp : p.block = c ∨ w.heap.size ≤ p.block) : w.grownBy (W.setCell p u) (some c) :=
  ⟨h.os, h.tape, h.output, by simpa using h.size, fun b hb hn => (Below.heap_setCell W p u b (fun e => by
    rcases hp with hp | hp
    · exact hn (by rw [e, hp])
    · omega)).trans (h.block b hb hn)⟩
theorem grown_al {w W : World} {r : Option Nat} {o : Obj} (h : w.grownBy W r) : w.grownBy (W.alloc o) r :=
  ⟨h.os, h.tape, h.output, by have := h.size; simp; omega, fun b hb hn => (Below.heap_alloc W o b (Nat.lt_of_lt_of_le hb h.size)).trans (h.block b hb hn)⟩
theorem grown_drew {w W : World} {r : Option Nat} (h : w.grownBy W r) : w.grownBy W.drew r := ⟨h.os, h.tape, h.output, h.size, h.block⟩
theorem grown_below {w W w' : World} {r : Option Nat} (h : w.grownBy W r) (hb : Below W.heap.size W w') : w.grownBy w' r :=
  ⟨hb.os.trans h.os, hb.tape.trans h.tape, hb.output.trans h.output, Nat.le_trans h.size hb.size, fun b hlt hn => (hb.block b (Nat.lt_of_lt_of_le hlt h.size)).trans (h.block b hlt hn)⟩
theorem Below.chg {w W w' : World} {c : Nat} (h : Below w.heap.size w W) (hg : W.grownBy w' (some c)) (hc : w.heap.size ≤ c) : Below w.heap.size w w' :=
  h.grown hg h.size (fun k hk => by injection hk with hk; omega)
theorem Box.chg {w w' : World} {b c : Nat} {vs : List Value} (h : Box w b vs) (hg : w.grownBy w' (some c)) (hne : b ≠ c) : Box w' b vs := by
  have hb := hg.block b h.lt (by simpa using hne)
  exact ⟨Nat.lt_of_lt_of_le h.lt hg.size, fun o => (World.cell?_of_block (w := w) (a := ⟨b, o, none⟩) hb).trans (h.cells o), fun o => (World.frozen?_of_block (w := w) (a := ⟨b, o, none⟩) hb).trans (h.free o)⟩
theorem grown_blk {w w' : World} {b c : Nat} (hg : w.grownBy w' (some c)) (hne : b ≠ c) (hb : b < w.heap.size) :
    (∀ o, w'.cell? ⟨b, o, none⟩ = w.cell? ⟨b, o, none⟩) ∧ (∀ o, w'.frozen? ⟨b, o, none⟩ = w.frozen? ⟨b, o, none⟩) := by
  have h := hg.block b hb (by simpa using hne)
  exact ⟨fun o => World.cell?_of_block (w := w) (a := ⟨b, o, none⟩) h, fun o => World.frozen?_of_block (w := w) (a := ⟨b, o, none⟩) h⟩

/-- The slice value v, of n elements of 'size' cells each, holds the cells xs, in a row of the call's own (blocks from base on), of which all that it could hold may be written. -/
def Own (w : World) (base size : Nat) (v : Value) (n : Nat) (xs : List Value) : Prop :=
  xs.length = n * size ∧ ((v = .slice none 0 0 ∧ n = 0) ∨
    ∃ g o cap, v = .slice (some ⟨g, o, none⟩) n cap ∧ base ≤ g ∧ g < w.heap.size ∧ n ≤ cap ∧ cap ≤ maxLen ∧
      (∀ j u, xs[j]? = some u → w.cell? ⟨g, o + j, none⟩ = some u) ∧
      (∀ j, j < cap * size → (w.cell? ⟨g, o + j, none⟩).isSome = true ∧ w.frozen? ⟨g, o + j, none⟩ = false))

section
variable {w w' : World} {base size n : Nat} {v : Value} {xs : List Value}

theorem Own.nil (w : World) (base size : Nat) : Own w base size (.slice none 0 0) 0 [] := ⟨by simp, .inl ⟨rfl, rfl⟩⟩

theorem Own.grown {row : Option Nat} (h : Own w base size v n xs) (hg : w.grownBy w' row) (hne : v.ownBlock = none ∨ v.ownBlock ≠ row) : Own w' base size v n xs := by
  refine ⟨h.1, h.2.imp id ?_⟩
  rintro ⟨g, o, cap, rfl, hb, hlt, hn, hc, hx, hr⟩
  have hblk := hg.block g hlt (by simpa [Value.ownBlock] using hne)
  refine ⟨g, o, cap, rfl, hb, Nat.lt_of_lt_of_le hlt hg.size, hn, hc, fun j u hu => ?_, fun j hj => ?_⟩
  · rw [World.cell?_of_block (w := w) (a := ⟨g, o + j, none⟩) hblk]; exact hx j u hu
  · rw [World.cell?_of_block (w := w) (a := ⟨g, o + j, none⟩) hblk, World.frozen?_of_block (w := w) (a := ⟨g, o + j, none⟩) hblk]; exact hr j hj

theorem grown_of_below {B : Nat} (h : Below w.heap.size w w') : w.grownBy w' none := ⟨h.os, h.tape, h.output, h.size, fun k hk _ => h.block k hk⟩
theorem below_of_grown {row : Option Nat} (hg : w.grownBy w' row) (hr : ∀ k, row = some k → base ≤ k) (hb : base ≤ w.heap.size) : Below base w w' :=
  (Below.refl base w).grown hg hb hr

theorem Own.below (h : Own w base size v n xs) (hb : Below w.heap.size w w') : Own w' base size v n xs :=
  h.grown (grown_of_below (B := 0) hb) (by cases hv : v.ownBlock <;> simp)
theorem Own.alloc (h : Own w base size v n xs) (o : Obj) : Own (w.alloc o) base size v n xs := h.below ((Below.refl _ _).alloc (Nat.le_refl _) o)
theorem Own.drew (h : Own w base size v n xs) : Own w.drew base size v n xs := h.below (Below.refl _ _).drew
theorem Own.set (h : Own w base size v n xs) {p : Addr} {u : Value} (hp : v.ownBlock ≠ some p.block) : Own (w.setCell p u) base size v n xs :=
  h.grown (row := some p.block) ⟨rfl, rfl, rfl, by simp, fun k _ hk => Below.heap_setCell w p u k (fun e => hk (by rw [e]))⟩ (.inr hp)
theorem Own.lt (h : Own w base size v n xs) : ∀ k, v.ownBlock = some k → base ≤ k ∧ k < w.heap.size := by
  intro k hk
  rcases h.2 with ⟨rfl, _⟩ | ⟨g, o, cap, rfl, hb, hlt, _⟩
  · simp [Value.ownBlock] at hk
  · simp [Value.ownBlock] at hk
    subst hk
    exact ⟨hb, hlt⟩

theorem Own.of_ownsRow {e : TypeId} (h : w.ownsRow base e size v n xs) : Own w base size v n xs := by
  refine ⟨h.1, h.2.imp id ?_⟩
  rintro ⟨g, cap, cur, rfl, hb, hg, hn, hc, hs, ht⟩
  have hlt : g < w.heap.size := (Array.getElem?_eq_some_iff.1 hg).1
  refine ⟨g, 0, cap, rfl, hb, hlt, hn, hc, fun j u hu => ?_, fun j hj => ?_⟩
  · have := h.cells (g := g) rfl j u hu
    have hadd : (⟨g, 0, none⟩ : Addr).add j = ⟨g, j, none⟩ := by unfold Addr.add; split <;> simp_all
    rw [hadd] at this
    simpa using this
  · have hcell := cell_of_row w g j cur e (0, 0) hg
    simp only [Nat.zero_add]
    rw [hcell]
    refine ⟨by simp [show j < cur.size by omega], ?_⟩
    simp [World.frozen?, hg]

/-- 'append(v, news...)': what it hands back holds both, and nothing but v's own row has turned. -/
theorem run_app {P : Program} (base : Nat) (t ty e : TypeId) (i : TypeInfo) (z : Value) (size bytes : Nat) (ht : P.underlying t = some (.slice e)) (hi : P.info? e = some i) (hz : i.zero = some z)
    (hsize : i.size = size) (hby : i.bytes = bytes) (hzs : z.cells.size = size) (hsz : 0 < size)
    (v : Value) (n : Nat) (xs : List Value) (hown : Own w base size v n xs)
    (a : Addr) (m c : Nat) (news : List Value) (hl : news.length = m * size) (hnews : ∀ j u, news[j]? = some u → w.cell? (a.add j) = some u) (h1 : ∀ u ∈ news, u.oneCell' = true)
    (h63 : n + m ≤ maxLen) (hbytes : (n + m) * bytes ≤ 140737488355328) (hbase : base ≤ w.heap.size) :
    ∃ v' w', (Builtin.append_ #[t, t] ty #[v, .slice (some a) m c]).run P w = .ok v' w' ∧ Own w' base size v' (n + m) (xs ++ news) ∧ w.grownBy w' v.ownBlock ∧
      (v'.ownBlock = v.ownBlock ∨ ∃ k, v'.ownBlock = some k ∧ w.heap.size ≤ k) := by
  subst hsize
  subst hby
  rcases hown.2 with ⟨rfl, rfl⟩ | ⟨g, o, cap, rfl, hbg, hlt, hnc, hcm, hx, hr⟩
  · have hx : xs = [] := List.eq_nil_of_length_eq_zero (by simpa using hown.1)
    subst hx
    obtain ⟨v', w', hrun, ho, hg, hnil⟩ := run_append_own (P := P) w w.heap.size t ty e i z i.size i.bytes ht hi hz rfl rfl hzs hsz (.slice none 0 0) 0 [] (World.ownsRow_nil w _ e i.size) a m c news hl hnews h1 h63 hbytes (Nat.le_refl _)
    refine ⟨v', w', hrun, ?_, hg, ?_⟩
    · have := Own.of_ownsRow ho
      refine ⟨this.1, this.2.imp id ?_⟩
      rintro ⟨g, o, cap, e1, e2, rest⟩
      exact ⟨g, o, cap, e1, Nat.le_trans hbase e2, rest⟩
    · cases hv : v'.ownBlock with
      | none => exact .inl (by simp [Value.ownBlock])
      | some k => exact .inr ⟨k, rfl, (ho.lt k hv).1⟩
  · by_cases hroom : n + m ≤ cap
    · have hnl : n * i.size + news.length ≤ cap * i.size := by rw [hl, ← Nat.add_mul]; exact Nat.mul_le_mul_right _ hroom
      have hsp : ∀ j, j < news.length → (w.cell? ⟨g, o + n * i.size + j, none⟩).isSome = true ∧ w.frozen? ⟨g, o + n * i.size + j, none⟩ = false := fun j hj => by
        have := hr (n * i.size + j) (by omega)
        rw [Nat.add_assoc]
        exact this
      have hrun := run_append_room_cells (P := P) w t ty e i ht hi g o n cap a m c news hl hnews h1 hroom (fun j hj => (hsp j hj).1) (fun j hj => (hsp j hj).2)
      have hgb : ∀ (vs : List Value) (k : Nat) (w : World), w.grownBy (w.setCells g k vs) (some g) := by
        intro vs
        induction vs with
        | nil => intro k w; exact ⟨rfl, rfl, rfl, Nat.le_refl _, fun _ _ _ => rfl⟩
        | cons u vs ih =>
          intro k w
          have h0 := ih (k + 1) (w.setCell ⟨g, k, none⟩ u)
          have hsz : (w.setCell ⟨g, k, none⟩ u).heap.size = w.heap.size := by simp
          exact ⟨h0.os, h0.tape, h0.output, by have := h0.size; rw [hsz] at this; exact this, fun j hj hjk => (h0.block j (by rw [hsz]; exact hj) hjk).trans (Below.heap_setCell w ⟨g, k, none⟩ u j (fun e => hjk (by rw [e])))⟩
      refine ⟨_, _, hrun, ⟨by rw [List.length_append, hown.1, hl, Nat.add_mul], .inr ⟨g, o, cap, rfl, hbg, Nat.lt_of_lt_of_le hlt (hgb _ _ w).size, hroom, hcm, fun j u hu => ?_, fun j hj => ?_⟩⟩, hgb _ _ w, .inl rfl⟩
      · by_cases hj : j < xs.length
        · rw [List.getElem?_append_left hj] at hu
          rw [World.cell?_setCells_out g news (o + n * i.size) w ⟨g, o + j, none⟩ (fun _ _ => .inl (by have := hown.1; simp only; omega))]
          exact hx j u hu
        · have hxl := hown.1
          rw [List.getElem?_append_right (by omega)] at hu
          have hj2 : j - xs.length < news.length := (List.getElem?_eq_some_iff.1 hu).1
          have := World.cell?_setCells_in g news (o + n * i.size) w (fun j hj => (hsp j hj).1) (j - xs.length) hj2
          rw [show o + j = o + n * i.size + (j - xs.length) by omega, this]
          rw [List.getElem?_eq_getElem hj2] at hu
          exact hu
      · refine ⟨?_, by rw [World.frozen?_setCells]; exact (hr j hj).2⟩
        by_cases hj1 : j < n * i.size ∨ n * i.size + news.length ≤ j
        · rw [World.cell?_setCells_out g news (o + n * i.size) w ⟨g, o + j, none⟩ (fun _ _ => by simp only; omega)]
          exact (hr j hj).1
        · have hj2 : j - n * i.size < news.length := by omega
          have := World.cell?_setCells_in g news (o + n * i.size) w (fun j hj => (hsp j hj).1) (j - n * i.size) hj2
          rw [show o + j = o + n * i.size + (j - n * i.size) by omega, this]
          rfl
    · obtain ⟨v', w', hrun, ho, hg⟩ := run_append_arg_grows (P := P) w t ty e i z i.size i.bytes ht hi hz rfl rfl hzs hsz ⟨g, o, none⟩ n cap xs hown.1 (fun j u hu => by
        have := hx j u hu
        unfold Addr.add
        split
        · rename_i h0; subst h0; simpa using this
        · exact this) a m c news hl hnews (by omega) h63 hbytes
      refine ⟨v', w', hrun, ?_, ⟨hg.os, hg.tape, hg.output, hg.size, fun k hk _ => hg.block k hk (by simp)⟩, ?_⟩
      · have := Own.of_ownsRow ho
        refine ⟨this.1, this.2.imp id ?_⟩
        rintro ⟨g, o, cap, e1, e2, rest⟩
        exact ⟨g, o, cap, e1, Nat.le_trans hbase e2, rest⟩
      · cases hv : v'.ownBlock with
        | none =>
          exfalso
          rcases ho.2 with ⟨rfl, h0⟩ | ⟨g', cap', cur, rfl, _⟩
          · omega
          · simp [Value.ownBlock] at hv
        | some k => exact .inr ⟨k, rfl, (ho.lt k hv).1⟩

theorem wpList_app {P : Program} {ops : Array Oper} {rest : List Oper} {o : Oper} {a : Act} {Q : Exit → Act → World → Prop} (hgd : o.guard = none) (s x : Operand) (t : TypeId)
    (ho : o.op = .call { callee := .builtin .append, args := #[s, x], argTypes := #[t, t] })
    (base : Nat) (e : TypeId) (i : TypeInfo) (z : Value) (size bytes : Nat) (ht : P.underlying t = some (.slice e)) (hi : P.info? e = some i) (hz : i.zero = some z)
    (hsize : i.size = size) (hby : i.bytes = bytes) (hzs : z.cells.size = size) (hsz : 0 < size)
    (v : Value) (n : Nat) (xs : List Value) (hs : a.eval s = v) (hown : Own w base size v n xs)
    (ad : Addr) (m c : Nat) (news : List Value) (hx : a.eval x = .slice (some ad) m c) (hl : news.length = m * size) (hnews : ∀ j u, news[j]? = some u → w.cell? (ad.add j) = some u) (h1 : ∀ u ∈ news, u.oneCell' = true)
    (h63 : n + m ≤ maxLen) (hbytes : (n + m) * bytes ≤ 140737488355328) (hbase : base ≤ w.heap.size)
    (h : ∀ v' w', Own w' base size v' (n + m) (xs ++ news) → w.grownBy w' v.ownBlock → (v'.ownBlock = v.ownBlock ∨ ∃ k, v'.ownBlock = some k ∧ w.heap.size ≤ k) → wpList P ops Q rest (a.put o.dst v') w') : wpList P ops Q (o :: rest) a w :=
  wpList_plain hgd fun _ hK => by
    obtain ⟨v', w', hrun, h2, h3, h4⟩ := run_app (P := P) base t o.type e i z size bytes ht hi hz hsize hby hzs hsz v n xs hown ad m c news hl hnews h1 h63 hbytes hbase
    unfold Oper.wp execOp
    simp only [ho, resolve, invoke, builtin, Sem.run_bind, Sem.run_pure, Result.andThen_ok, List.map_toArray, List.map_cons, List.map_nil, hs, hx, hrun]
    exact hK _ _ (h v' w' h2 h3 h4)

/-- 'append(v, x..)' where what is put behind was just laid in a new block. -/
theorem wpList_app_new {P : Program} {ops : Array Oper} {rest : List Oper} {o : Oper} {a : Act} {Q : Exit → Act → World → Prop} {W : World} {te : TypeId} (hgd : o.guard = none) (s x : Operand) (t : TypeId)
    (ho : o.op = .call { callee := .builtin .append, args := #[s, x], argTypes := #[t, t] })
    (base : Nat) (e : TypeId) (i : TypeInfo) (z : Value) (size bytes : Nat) (ht : P.underlying t = some (.slice e)) (hi : P.info? e = some i) (hz : i.zero = some z)
    (hsize : i.size = size) (hby : i.bytes = bytes) (hzs : z.cells.size = size) (hsz : 0 < size)
    (v : Value) (n : Nat) (xs : List Value) (hs : a.eval s = v) (hown : Own W base size v n xs)
    (m c : Nat) (news : List Value) (hx : a.eval x = .slice (some ⟨W.heap.size, 0, none⟩) m c) (hl : news.length = m * size) (h1 : ∀ u ∈ news, u.oneCell' = true)
    (hsm : n + m ≤ 1000000000) (hbs : bytes ≤ 100000) (hbase : base ≤ W.heap.size)
    (h : ∀ v' w', Own w' base size v' (n + m) (xs ++ news) → W.grownBy w' v.ownBlock → (v'.ownBlock = v.ownBlock ∨ ∃ k, v'.ownBlock = some k ∧ W.heap.size ≤ k) → wpList P ops Q rest (a.put o.dst v') w') :
    wpList P ops Q (o :: rest) a (W.alloc (.cells news.toArray te)) := by
  have hb : (n + m) * bytes ≤ 1000000000 * 100000 := Nat.mul_le_mul hsm hbs
  refine wpList_app hgd s x t ho base e i z size bytes ht hi hz hsize hby hzs hsz v n xs hs (hown.alloc _) ⟨W.heap.size, 0, none⟩ m c news hx hl (fun j u hu => ?_) h1 (by unfold maxLen; omega) (by omega) (by simp; omega) fun v' w' h2 h3 h4 => h v' w' h2 ?_ ?_
  · have hadd : (⟨W.heap.size, 0, none⟩ : Addr).add j = ⟨W.heap.size, j, none⟩ := by unfold Addr.add; split <;> simp_all
    rw [hadd, World.cell?_alloc_new]
    simpa using hu
  · have h0 := World.grownBy_alloc W (.cells news.toArray te) v.ownBlock
    have hsz := h3.size
    simp only [World.size_alloc] at hsz
    exact ⟨h3.os.trans h0.os, h3.tape.trans h0.tape, h3.output.trans h0.output, by omega, fun k hk hn => (h3.block k (by simp; omega) hn).trans (h0.block k hk hn)⟩
  · exact h4.imp id fun ⟨k, hk, hle⟩ => ⟨k, hk, by simp at hle; omega⟩

theorem Own.grown_below (h : Own w base size v n xs) {W : World} {B : Nat} (hg : w.grownBy W v.ownBlock) (hB : B ≤ base) (hs : B ≤ w.heap.size) : Below B w W :=
  below_of_grown hg (fun k hk => Nat.le_trans hB (h.lt k hk).1) hs

/-- Bytes as cells. -/
def byteVal (b : UInt8) : Value := .int .u8 (b.toNat : Int)

/-- '[]byte(s)'. -/
theorem wpList_bytes {P : Program} {ops : Array Oper} {rest : List Oper} {o : Oper} {a : Act} {Q : Exit → Act → World → Prop} (hgd : o.guard = none) (x : Operand) (src dst e : TypeId)
    (ho : o.op = .convert src dst x) {u : TypeDesc} (hsrc : P.underlying src = some u) (hd : P.underlying dst = some (.slice e)) (he : P.underlying e = some (.int .u8))
    (s : ByteArray) (hx : a.eval x = .string s) (hs : s.size ≤ maxLen)
    (h : ∀ v w', Own w' w.heap.size 1 v s.size (s.data.toList.map byteVal) → Below w.heap.size w w' → v.ownBlock = some w.heap.size → wpList P ops Q rest (a.put o.dst v) w') : wpList P ops Q (o :: rest) a w :=
  wpList_plain hgd fun _ hK => by
    have hrun := Lib.run_convert_string_bytes (P := P) w src dst e s hsrc hd he
    unfold Oper.wp execOp
    simp only [ho, hx, Sem.run_bind, hrun, Sem.run_pure, Result.andThen_ok]
    refine hK _ _ (h _ _ ⟨by simp, .inr ⟨w.heap.size, 0, grownCap w s.size 0 e, rfl, Nat.le_refl _, by rw [Lib.bytesWorld_size]; omega, grownCap_ge w _ _ _, grownCap_le_maxLen w _ _ _ hs, fun j u hu => ?_, fun j hj => ?_⟩⟩ ?_ rfl)
    · have hj : j < s.size := by
        have := (List.getElem?_eq_some_iff.1 hu).1
        simpa using this
      rw [Nat.zero_add, Lib.bytesWorld_cell w e s j hj]
      have hj' : j < s.data.toList.length := by simpa using hj
      simp [List.getElem?_map, List.getElem?_eq_getElem hj'] at hu
      rw [← hu]
      simp [byteVal, List.getD, hj]
    · have hnew := Lib.bytesWorld_at_new w e s
      have hge := grownCap_ge w s.size 0 e
      have hsz : (Lib.bytesCells w e s).size = grownCap w s.size 0 e := by simp [Lib.bytesCells]; omega
      refine ⟨?_, ?_⟩
      · rw [Nat.zero_add]
        simp [World.cell?, hnew, hsz]
        omega
      · rw [Nat.zero_add]
        simp [World.frozen?, hnew, hsz]
        omega
    · exact ⟨rfl, rfl, rfl, by rw [Lib.bytesWorld_size]; omega, fun k hk => Lib.bytesWorld_at_old w e s k hk⟩

/-- 'string(b)'. -/
theorem run_str {P : Program} (base : Nat) (src dst e : TypeId) (hs : P.underlying src = some (.slice e)) (he : P.underlying e = some (.int .u8)) (hd : P.underlying dst = some .string)
    (v : Value) (l : List UInt8) (n : Nat) (hn : n = l.length) (hown : Own w base 1 v n (l.map byteVal)) : (convert src dst v).run P w = .ok (.string ⟨l.toArray⟩) w := by
  subst hn
  rcases hown.2 with ⟨rfl, h0⟩ | ⟨g, o, cap, rfl, _, _, _, _, hx, _⟩
  · have : l = [] := List.eq_nil_of_length_eq_zero h0
    subst this
    rw [run_convert_bytes_string w src dst e none 0 0 hs he hd]
    simp [Conv.bytesToString, Sem.run_pure]
    rfl
  · refine run_convert_bytes_back w src dst e ⟨g, o, none⟩ cap l hs he hd fun j hj => ?_
    have := hx j (byteVal l[j]) (by simp [hj])
    unfold Addr.add
    split
    · rename_i h0; subst h0; simpa [byteVal] using this
    · simpa [byteVal] using this
end
end Go.Proofs.Ytpajedpkdfacoaa
