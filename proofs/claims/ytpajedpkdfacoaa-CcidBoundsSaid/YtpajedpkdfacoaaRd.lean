/- What a slice reads as, of an argument and of a row of the call's own. -/
import Derived.Test.YtpajedpkdfacoaaSep
import Derived.Test.YtpajedpkdfacoaaFits
namespace Go.Proofs.Ytpajedpkdfacoaa
set_option linter.unusedSimpArgs false
set_option linter.unusedVariables false
open Go Go.RowKit

/-- A slice that begins at 'a' reads as the cells xs. -/
def Rd (w : World) (a : Option Addr) (xs : List Value) : Prop :=
  xs = [] ∨ ∃ b off, a = some ⟨b, off, none⟩ ∧ b < w.heap.size ∧ ∀ j u, xs[j]? = some u → w.cell? ⟨b, off + j, none⟩ = some u
def i64s (l : List Int) : List Value := l.map (Value.int .i64)
def isI64 (n : Int) : Prop := -9223372036854775808 ≤ n ∧ n ≤ 9223372036854775807

section
variable {w w' W : World} {a : Option Addr} {xs : List Value}
theorem Rd.nil (w : World) (a : Option Addr) : Rd w a [] := .inl rfl
theorem Rd.below (h : Rd w a xs) (hb : Below w.heap.size w w') : Rd w' a xs := by
  refine h.imp id ?_
  rintro ⟨b, off, e, hlt, hc⟩
  exact ⟨b, off, e, Nat.lt_of_lt_of_le hlt hb.size, fun j u hu => ((Below.blk hb hlt).1 _).trans (hc j u hu)⟩
theorem Rd.cons (h : Rd w a xs) (hn : xs ≠ []) : ∃ b off, a = some ⟨b, off, none⟩ ∧ b < w.heap.size ∧ ∀ j u, xs[j]? = some u → w.cell? ⟨b, off + j, none⟩ = some u := h.resolve_left hn
theorem Rd.of_st {l : List Asn} (h : Rd W a xs) (st : St W none0 w l) : Rd w a xs := h.below st.below
theorem Own.rd {size n : Nat} {v : Value} (h : Own w 0 size v n xs) (hs : 0 < size) : ∃ a cap, v = .slice a n cap ∧ n ≤ maxLen ∧ xs.length = n * size ∧ Rd w a xs := by
  obtain ⟨a, cap, e, hm, hl, h⟩ := h.view
  refine ⟨a, cap, e, hm, hl, ?_⟩
  rcases h with h | ⟨g, o, e, hlt, hc⟩
  · subst h; exact .inl (List.eq_nil_of_length_eq_zero (by omega))
  · exact .inr ⟨g, o, e, hlt, hc⟩

theorem list_of {α : Type} {p : Nat → α → Prop} : ∀ n : Nat, (∀ i, i < n → ∃ x, p i x) → ∃ l : List α, l.length = n ∧ ∀ i x, l[i]? = some x → p i x
  | 0, _ => ⟨[], rfl, fun i x h => by simp at h⟩
  | n + 1, h => by
    obtain ⟨l, hl, hp⟩ := list_of n fun i hi => h i (by omega)
    obtain ⟨x, hx⟩ := h n (by omega)
    refine ⟨l ++ [x], by simp [hl], fun i y hy => ?_⟩
    by_cases hi : i < l.length
    · exact hp i y (by rwa [List.getElem?_append_left hi] at hy)
    · rw [List.getElem?_append_right (by omega)] at hy
      have : i - l.length = 0 := by
        have := (List.getElem?_eq_some_iff.1 hy).1
        simp at this; omega
      rw [this] at hy
      obtain rfl : x = y := by simpa using hy
      obtain rfl : i = n := by omega
      exact hx

/-- The elements of a slice of an argument, by what each is read as: 'enc' gives its cells. -/
theorem rows_in {α : Type} {size : Nat} {e : Sh} {len cap : Nat} (enc : α → List Value) (hs : 0 < size) (he : ∀ x, (enc x).length = size) {good : α → Prop}
    (hof : ∀ cs, Fits w e cs → cs.length = size → ∃ x, enc x = cs ∧ good x) (h : Fits w (.slice size e) [.slice a len cap]) :
    len ≤ maxLen ∧ (a = none → len = 0) ∧ ∃ l : List α, l.length = len ∧ (∀ x ∈ l, good x) ∧ Rd w a (l.flatMap enc) := by
  obtain ⟨h0, h1⟩ := fits_slice hs h
  have hnone : a = none → len = 0 := by
    intro e
    subst e
    rcases h1 with h1 | ⟨_, _, h1, _⟩
    · exact h1
    · cases h1
  refine ⟨h0, hnone, ?_⟩
  rcases h1 with rfl | ⟨b, off, rfl, hb, hi⟩
  · exact ⟨[], rfl, fun _ h => by simp at h, .inl rfl⟩
  · obtain ⟨l, hl, hp⟩ := list_of (p := fun i x => good x ∧ ∀ j, j < size → w.cell? ⟨b, off + i * size + j, none⟩ = (enc x)[j]?) len fun i hlt => by
      obtain ⟨es, hlen, hc, hf⟩ := hi i hlt
      obtain ⟨x, rfl, hg⟩ := hof es hf hlen
      exact ⟨x, hg, hc⟩
    refine ⟨l, hl, fun x hx => ?_, .inr ⟨b, off, rfl, hb, ?_⟩⟩
    · obtain ⟨i, hi', e⟩ := List.getElem_of_mem hx
      exact (hp i x (by rw [List.getElem?_eq_getElem hi', e])).1
    · clear hl hi h hnone
      induction l generalizing off with
      | nil => intro j u hu; simp at hu
      | cons x l ih =>
        intro j u hu
        simp only [List.flatMap_cons] at hu
        by_cases hj : j < size
        · rw [List.getElem?_append_left (by rw [he]; exact hj)] at hu
          have := (hp 0 x rfl).2 j hj
          rw [show off + 0 * size + j = off + j by omega] at this
          rw [this, hu]
        · rw [List.getElem?_append_right (by rw [he]; omega), he] at hu
          have := ih (off + size) (fun i y hy => by
            obtain ⟨g, hc⟩ := hp (i + 1) y (by simpa using hy)
            refine ⟨g, fun j hj => ?_⟩
            rw [← hc j hj, Nat.add_mul, Nat.one_mul]
            congr 2
            omega) (j - size) u hu
          rw [show off + size + (j - size) = off + j by omega] at this
          exact this

/-- The j-th cell of the i-th element. -/
theorem flat_at {α : Type} {enc : α → List Value} {size : Nat} (he : ∀ x, (enc x).length = size) : ∀ (l : List α) (i : Nat) (x : α) (j : Nat) (u : Value),
    l[i]? = some x → (enc x)[j]? = some u → (l.flatMap enc)[i * size + j]? = some u
  | [], i, x, j, u, h, _ => by simp at h
  | y :: l, 0, x, j, u, h, hu => by
    obtain rfl : y = x := by simpa using h
    have := (List.getElem?_eq_some_iff.1 hu).1
    simp only [List.flatMap_cons, Nat.zero_mul, Nat.zero_add]
    rw [List.getElem?_append_left this, hu]
  | y :: l, i + 1, x, j, u, h, hu => by
    have := flat_at he l i x j u (by simpa using h) hu
    simp only [List.flatMap_cons]
    rw [List.getElem?_append_right (by rw [he, Nat.add_mul]; omega), he, ← this]
    congr 1
    rw [Nat.add_mul]; omega
theorem flat_len {α : Type} {enc : α → List Value} {size : Nat} (he : ∀ x, (enc x).length = size) : ∀ l : List α, (l.flatMap enc).length = l.length * size
  | [] => by simp
  | y :: l => by simp only [List.flatMap_cons, List.length_append, he, flat_len he l, List.length_cons, Nat.add_mul, Nat.one_mul]; exact Nat.add_comm _ _
theorem i64s_at {l : List Int} {i : Nat} (h : i < l.length) : (i64s l)[i]? = some (.int .i64 l[i]) := by simp [i64s, h]
theorem i64s_flat (l : List Int) : l.flatMap (fun n => [Value.int .i64 n]) = i64s l := by
  induction l with
  | nil => rfl
  | cons x l ih => simp [i64s] at ih ⊢; exact ih
/-- Row by row. -/
theorem Rd.rows {α : Type} {enc : α → List Value} {size : Nat} {l : List α} (he : ∀ x, (enc x).length = size) (hs : 0 < size) (h : Rd w a (l.flatMap enc)) {n : Nat} (hn : l.length = n) (h0 : 0 < n) :
    ∃ b off, a = some ⟨b, off, none⟩ ∧ b < w.heap.size ∧ ∀ i (hi : i < l.length) j u, (enc l[i])[j]? = some u → w.cell? ⟨b, off + i * size + j, none⟩ = some u := by
  have hne : l.flatMap enc ≠ [] := fun e => by
    have := flat_len he l
    rw [e] at this
    have h1 : 1 * 1 ≤ l.length * size := Nat.mul_le_mul (by omega) hs
    simp at this
    omega
  obtain ⟨b, off, e, hb, hc⟩ := h.cons hne
  exact ⟨b, off, e, hb, fun i hi j u hu => by rw [Nat.add_assoc]; exact hc _ _ (flat_at he l i l[i] j u (List.getElem?_eq_getElem hi) hu)⟩
/-- The integers of a slice of an argument. -/
theorem ints_in {len cap : Nat} (h : Fits w (.slice 1 (.int .i64)) [.slice a len cap]) :
    len ≤ maxLen ∧ (a = none → len = 0) ∧ ∃ l : List Int, l.length = len ∧ (∀ x ∈ l, isI64 x) ∧ Rd w a (i64s l) := by
  obtain ⟨h0, hn, l, h1, h2, h3⟩ := rows_in (size := 1) (fun n : Int => [Value.int .i64 n]) (by omega) (fun _ => rfl) (good := isI64) (fun cs hf _ => by
    obtain ⟨n, rfl, hw⟩ := hf
    exact ⟨n, rfl, bounds_i64 hw⟩) h
  exact ⟨h0, hn, l, h1, h2, by rw [← i64s_flat]; exact h3⟩

def strs (l : List ByteArray) : List Value := l.map Value.string
def bools (l : List Bool) : List Value := l.map Value.bool
theorem strs_at {l : List ByteArray} {i : Nat} (h : i < l.length) : (strs l)[i]? = some (.string l[i]) := by simp [strs, h]
theorem bools_at {l : List Bool} {i : Nat} (h : i < l.length) : (bools l)[i]? = some (.bool l[i]) := by simp [bools, h]
theorem strs_ne {l : List ByteArray} {n k : Nat} (h : l.length = n) (hk : k < n) : strs l ≠ [] := by
  intro e
  have := congrArg List.length e
  simp [strs] at this
  subst this
  simp at h
  omega
theorem bools_ne {l : List Bool} {n k : Nat} (h : l.length = n) (hk : k < n) : bools l ≠ [] := by
  intro e
  have := congrArg List.length e
  simp [bools] at this
  subst this
  simp at h
  omega
theorem map_flat {α : Type} (f : α → Value) (l : List α) : l.flatMap (fun x => [f x]) = l.map f := by
  induction l with
  | nil => rfl
  | cons x l ih => simp [ih]
theorem strs_in {len cap : Nat} (h : Fits w (.slice 1 .str) [.slice a len cap]) :
    len ≤ maxLen ∧ (a = none → len = 0) ∧ ∃ l : List ByteArray, l.length = len ∧ (∀ x ∈ l, x.size ≤ maxLen) ∧ Rd w a (strs l) := by
  obtain ⟨h0, hn, l, h1, h2, h3⟩ := rows_in (size := 1) (fun s : ByteArray => [Value.string s]) (by omega) (fun _ => rfl) (good := fun s => s.size ≤ maxLen) (fun cs hf _ => by
    obtain ⟨s, rfl, hw⟩ := hf
    exact ⟨s, rfl, hw⟩) h
  exact ⟨h0, hn, l, h1, h2, by rw [map_flat] at h3; exact h3⟩
theorem bools_in {len cap : Nat} (h : Fits w (.slice 1 .bool) [.slice a len cap]) :
    len ≤ maxLen ∧ (a = none → len = 0) ∧ ∃ l : List Bool, l.length = len ∧ Rd w a (bools l) := by
  obtain ⟨h0, hn, l, h1, h2, h3⟩ := rows_in (size := 1) (fun s : Bool => [Value.bool s]) (by omega) (fun _ => rfl) (good := fun _ => True) (fun cs hf _ => by
    obtain ⟨s, rfl⟩ := hf
    exact ⟨s, rfl, trivial⟩) h
  exact ⟨h0, hn, l, h1, by rw [map_flat] at h3; exact h3⟩
theorem foldl_take {α β : Type} (f : β → α → β) (b : β) (l : List α) (k : Nat) (h : k < l.length) : (l.take (k + 1)).foldl f b = f ((l.take k).foldl f b) l[k] := by
  rw [List.take_succ_eq_append_getElem h, List.foldl_append]; rfl
theorem foldl_take' {α β : Type} (f : β → α → β) (b : β) (l : List α) (k : Nat) (h1 : 1 ≤ k) (h : k - 1 < l.length) : (l.take k).foldl f b = f ((l.take (k - 1)).foldl f b) l[k - 1] := by
  have := foldl_take f b l (k - 1) h
  rwa [show k - 1 + 1 = k by omega] at this
theorem run_app_nil {P : Program} (t ty e : TypeId) (i : TypeInfo) (ht : P.underlying t = some (.slice e)) (hi : P.info? e = some i) (b : Option Addr) (n cap c : Nat) (h : n ≤ cap) :
    (Builtin.append_ #[t, t] ty #[.slice b n cap, .slice none 0 c]).run P w = .ok (.slice b n cap) w := by
  cases b <;> simp [Builtin.append_, run_underlying ht, sizeOf, typeInfo, hi, Builtin.lenOf, h, Builtin.firstCells, storeCells, Sem.run_pure]
/-- 'append(v, y...)' where y is read only. -/
theorem wpList_appRd {P : Program} {ops : Array Oper} {rest : List Oper} {o : Oper} {a : Act} {Q : Exit → Act → World → Prop} {S0 : Nat → Prop} {l : List Asn} (hgd : o.guard = none) (s x : Operand) (t : TypeId)
    (ho : o.op = .call { callee := .builtin .append, args := #[s, x], argTypes := #[t, t] })
    (e : TypeId) (i : TypeInfo) (z : Value) (size bytes : Nat) (ht : P.underlying t = some (.slice e)) (hi : P.info? e = some i) (hz : i.zero = some z)
    (hsize : i.size = size) (hby : i.bytes = bytes) (hzs : z.cells.size = size) (hsz : 0 < size)
    (k : Nat) (v : Value) (n : Nat) (xs : List Value) (hs : a.eval s = v) (H : St W S0 w l) (hk : l[k]? = some (rowA size v n xs))
    (y : Option Addr) (m c : Nat) (news : List Value) (hx : a.eval x = .slice y m c) (hl : news.length = m * size) (hr : Rd w y news) (hn0 : y = none → m = 0) (h1 : ∀ u ∈ news, u.oneCell' = true)
    (hsm : n + m ≤ 1000000000) (hbs : bytes ≤ 100000)
    (h : ∀ v' w', St W S0 w' (rowA size v' (n + m) (xs ++ news) :: l.eraseIdx k) → wpList P ops Q rest (a.put o.dst v') w') : wpList P ops Q (o :: rest) a w := by
  have hb : (n + m) * bytes ≤ 1000000000 * 100000 := Nat.mul_le_mul hsm hbs
  have hown := H.row k hk
  cases y with
  | some ad =>
    refine wpList_app hgd s x t ho 0 e i z size bytes ht hi hz hsize hby hzs hsz v n xs hs hown ad m c news hx hl (fun j u hu => ?_) h1 (by unfold maxLen; omega) (by omega) (Nat.zero_le _) fun v' w' h2 h3 h4 => h v' w' (H.app k hk h2 h3 h4)
    rcases hr with hr | ⟨g, off, e, hlt, hc⟩
    · subst hr; simp at hu
    · injection e with e
      subst e
      have := hc j u hu
      unfold Addr.add
      split
      · rename_i h0; subst h0; simpa using this
      · exact this
  | none =>
    obtain rfl := hn0 rfl
    obtain rfl : news = [] := List.eq_nil_of_length_eq_zero (by simpa using hl)
    refine wpList_plain hgd fun _ hK => ?_
    have hv : ∃ b cap, v = .slice b n cap ∧ n ≤ cap := by
      rcases hown.2 with ⟨rfl, rfl⟩ | ⟨g, off, cap, rfl, _, _, hnc, _⟩
      · exact ⟨none, 0, rfl, Nat.le_refl _⟩
      · exact ⟨_, cap, rfl, hnc⟩
    obtain ⟨b, cap, rfl, hnc⟩ := hv
    have hrun := run_app_nil (P := P) (w := w) t o.type e i ht hi b n cap c hnc
    unfold Oper.wp execOp
    simp only [ho, resolve, invoke, builtin, Sem.run_bind, Sem.run_pure, Result.andThen_ok, List.map_toArray, List.map_cons, List.map_nil, hs, hx, hrun]
    refine hK _ _ (h _ w ?_)
    have := H.front k hk
    simpa using this
/-- An empty slice that is not nil. -/
theorem row_empty {size b : Nat} {vs : List Value} (h : Box w b vs) : Own w 0 size (.slice (some ⟨b, 0, none⟩) 0 0) 0 [] :=
  ⟨by simp, .inr ⟨b, 0, 0, rfl, Nat.zero_le _, h.lt, Nat.le_refl _, Nat.zero_le _, fun j u hu => by simp at hu, fun j hj => by omega⟩⟩
theorem St.row_empty {S0 : Nat → Prop} {l : List Asn} {size b : Nat} {vs : List Value} (i : Nat) (h : St W S0 w l) (hi : l[i]? = some (cellA b vs)) : St W S0 w (rowA size (.slice (some ⟨b, 0, none⟩) 0 0) 0 [] :: l.eraseIdx i) := by
  obtain ⟨S1, ⟨a, a'⟩, _, c⟩ := h.at i hi
  exact c w [_] (St.start (Sep.one ⟨Go.Proofs.Ytpajedpkdfacoaa.row_empty a, fun x => by rw [a' x]; simp [Value.ownBlock, eq_comm]⟩))
theorem i64s_one (l : List Int) : ∀ u ∈ i64s l, u.oneCell' = true := by
  intro u hu
  obtain ⟨x, _, rfl⟩ := List.mem_map.1 hu
  rfl
theorem i64s_ne {l : List Int} {n k : Nat} (h : l.length = n) (hk : k < n) : i64s l ≠ [] := by
  intro e
  have := congrArg List.length e
  simp [i64s] at this
  subst this
  simp at h
  omega
theorem i64s_len (l : List Int) : (i64s l).length = l.length := by simp [i64s]

theorem any_none {α : Type} {p : α → Bool} {l : List α} (h : ∀ i (hi : i < l.length), p l[i] = false) : l.any p = false := by
  rw [List.any_eq_false]
  intro x hx
  obtain ⟨i, hi, rfl⟩ := List.getElem_of_mem hx
  simp [h i hi]
theorem all_all {α : Type} {p : α → Bool} {l : List α} (h : ∀ i (hi : i < l.length), p l[i] = true) : l.all p = true := by
  rw [List.all_eq_true]
  intro x hx
  obtain ⟨i, hi, rfl⟩ := List.getElem_of_mem hx
  exact h i hi
/-- Where p is met first, or -1. -/
def idxF {α : Type} (p : α → Bool) (l : List α) : Int := if l.any p then (l.findIdx p : Int) else -1
theorem idx_none {α : Type} {p : α → Bool} {l : List α} (h : ∀ i (hi : i < l.length), p l[i] = false) : idxF p l = -1 := by
  have : l.any p = false := by
    rw [List.any_eq_false]
    intro x hx
    obtain ⟨i, hi, rfl⟩ := List.getElem_of_mem hx
    simp [h i hi]
  simp [idxF, this]
theorem idx_some {α : Type} {p : α → Bool} {l : List α} {k : Nat} (hk : k < l.length) (hp : p l[k] = true) (h : ∀ i (hi : i < l.length), i < k → p l[i] = false) : idxF p l = (k : Int) := by
  have h1 : l.any p = true := List.any_eq_true.2 ⟨l[k], List.getElem_mem hk, hp⟩
  have h2 : l.findIdx p = k := (List.findIdx_eq hk).2 ⟨hp, fun j hj => h j (by omega) hj⟩
  simp [idxF, h1, h2]
theorem idx_ge {α : Type} (p : α → Bool) (l : List α) : decide (0 ≤ idxF p l) = l.any p := by
  unfold idxF
  cases l.any p <;> simp <;> omega
theorem idx_bd {α : Type} (p : α → Bool) (l : List α) : -1 ≤ idxF p l ∧ idxF p l < l.length := by
  unfold idxF
  split
  · rename_i h
    have : l.findIdx p < l.length := List.findIdx_lt_length_of_exists (by obtain ⟨x, hx, hp⟩ := List.any_eq_true.1 h; exact ⟨x, hx, hp⟩)
    omega
  · omega
end
end Go.Proofs.Ytpajedpkdfacoaa
