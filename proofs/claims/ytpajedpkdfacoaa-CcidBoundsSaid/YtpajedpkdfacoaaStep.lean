/- 'append' to a row of the call's own, as one step of a statement that draws its order. -/
import Derived.Test.YtpajedpkdfacoaaSplice
import Derived.Deep.RegionLaw
namespace Go.Proofs.Ytpajedpkdfacoaa
set_option linter.unusedSimpArgs false
set_option linter.unusedVariables false
open Go Go.RowKit

section
variable {w w' W : World} {S0 : Nat → Prop} {l : List Asn}
theorem step_appS {P : Program} {ops : Array Oper} {o : Oper} {a : Act} {K : Act → World → Prop} {Q : Exit → Act → World → Prop} {E : Prop} (hgd : o.guard = none) (s x : Operand) (t : TypeId)
    (ho : o.op = .call { callee := .builtin .append, args := #[s, x], argTypes := #[t, t] })
    (e : TypeId) (i : TypeInfo) (z : Value) (size bytes : Nat) (ht : P.underlying t = some (.slice e)) (hi : P.info? e = some i) (hz : i.zero = some z)
    (hsize : i.size = size) (hby : i.bytes = bytes) (hzs : z.cells.size = size) (hsz : 0 < size)
    (k : Nat) (v : Value) (n : Nat) (xs : List Value) (hs : a.eval s = v) (H : St W S0 w l) (hk : l[k]? = some (rowA size v n xs))
    (m c : Nat) (news : List Value) {q : Nat} (hx : a.eval x = .slice (some ⟨q, 0, none⟩) m c) (hl : news.length = m * size) (hnews : ∀ j u, news[j]? = some u → w.cell? ⟨q, j, none⟩ = some u) (h1 : ∀ u ∈ news, u.oneCell' = true)
    (hsm : n + m ≤ 1000000000) (hbs : bytes ≤ 100000)
    (h : ∀ v' w', St W S0 w' (rowA size v' (n + m) (xs ++ news) :: l.eraseIdx k) → (∃ g off cap, v' = .slice (some ⟨g, off, none⟩) (n + m) cap) → K (a.put o.dst v') w') (hm : 0 < m) :
    if Region.wanted o (yielded ops a.tmps) = true then Oper.wp P o a w K Q else E := by
  have hw : Region.wanted o (yielded ops a.tmps) = true := by simp [Region.wanted, hgd]
  rw [if_pos hw]
  have hb : (n + m) * bytes ≤ 1000000000 * 100000 := Nat.mul_le_mul hsm hbs
  obtain ⟨v', w', hrun, h2, h3, h4⟩ := run_app (P := P) 0 t o.type e i z size bytes ht hi hz hsize hby hzs hsz v n xs (H.row k hk) ⟨q, 0, none⟩ m c news hl (fun j u hu => by
    have := hnews j u hu
    unfold Addr.add
    split
    · rename_i h0; subst h0; simpa using this
    · simpa using this) h1 (by unfold maxLen; omega) (by omega) (Nat.zero_le _)
  unfold Oper.wp execOp
  simp only [ho, resolve, invoke, builtin, Sem.run_bind, Sem.run_pure, Result.andThen_ok, List.map_toArray, List.map_cons, List.map_nil, hs, hx, hrun]
  refine h v' w' (H.app k hk h2 h3 h4) ?_
  rcases h2.2 with ⟨_, e0⟩ | ⟨g, off, cap, e, _⟩
  · omega
  · exact ⟨g, off, cap, e⟩
theorem St.held {p : Asn} (k : Nat) (H : St W S0 w l) (hk : l[k]? = some p) : ∃ S1, p.holds w S1 := by
  obtain ⟨S1, a, _⟩ := H.at k hk
  exact ⟨S1, a⟩
/-- A call that reads one part. -/
theorem Calls.rd_at {P : Program} {f : FuncId} {args : Array Value} {v : Value} {p : Asn} (k : Nat) (H : St W S0 w l) (hk : l[k]? = some p) (h : ∀ S, p.holds w S → Calls P f args w (Ret w v)) :
    Calls P f args w (Fin W S0 v l) := by
  obtain ⟨S1, a⟩ := H.held k hk
  exact (h S1 a).mono fun _ _ ⟨he, hb⟩ => ⟨he, H.thru hb⟩
/-- A call that turns one part. -/
theorem Calls.st_at {P : Program} {f : FuncId} {args : Array Value} {v : Value} {p : Asn} {l' : List Asn} (k : Nat) (H : St W S0 w l) (hk : l[k]? = some p) (h : ∀ S, p.holds w S → Calls P f args w (Fin w S v l')) :
    Calls P f args w (Fin W S0 v (l' ++ l.eraseIdx k)) := by
  obtain ⟨S1, a, _, c⟩ := H.at k hk
  exact (h S1 a).mono fun _ w' ⟨he, hst⟩ => ⟨he, c w' l' hst⟩
/-- A call that turns nothing that is known. -/
theorem Calls.st_ret {P : Program} {f : FuncId} {args : Array Value} {v : Value} (H : St W S0 w l) (h : Calls P f args w (Ret w v)) : Calls P f args w (Fin W S0 v l) :=
  h.mono fun _ _ ⟨he, hb⟩ => ⟨he, H.thru hb⟩
theorem St.thruB (h : St W S0 w l) {B : Nat} (hB : w.heap.size ≤ B) (hb : Below B w w') : St W S0 w' l := h.thru (hb.mono hB)
theorem Own.tail {base size n g o cap i : Nat} {xs : List Value} (h : Own w base size (.slice (some ⟨g, o, none⟩) n cap) n xs) (hi : i ≤ n) : Own w base size (.slice (some ⟨g, o + i * size, none⟩) (n - i) (cap - i)) (n - i) (xs.drop (i * size)) := by
  obtain ⟨hl, h⟩ := h
  rcases h with ⟨h, _⟩ | ⟨g', o', cap', e, hb, hlt, hn, hc, hx, hr⟩
  · cases h
  · injection e with e1 e2 e3
    injection e1 with e1
    injection e1 with e4 e5
    subst e4 e5 e3
    refine ⟨by rw [List.length_drop, hl, Nat.sub_mul], .inr ⟨g, o + i * size, cap - i, rfl, hb, hlt, by omega, by omega, fun j u hu => ?_, fun j hj => ?_⟩⟩
    · rw [List.getElem?_drop] at hu
      rw [Nat.add_assoc]; exact hx _ _ hu
    · rw [Nat.add_assoc]
      refine hr _ ?_
      rw [Nat.sub_mul] at hj
      omega
theorem St.tail {size n g o cap i k : Nat} {xs : List Value} (H : St W S0 w l) (hk : l[k]? = some (rowA size (.slice (some ⟨g, o, none⟩) n cap) n xs)) (hi : i ≤ n) :
    St W S0 w (rowA size (.slice (some ⟨g, o + i * size, none⟩) (n - i) (cap - i)) (n - i) (xs.drop (i * size)) :: l.eraseIdx k) :=
  H.app k hk ((H.row k hk).tail hi) (World.grownBy.refl w _) (.inl rfl)
/-- A row that is handed on as an empty one, wherever it leads. -/
theorem St.tail0 {size n g o cap k : Nat} {xs : List Value} (H : St W S0 w l) (hk : l[k]? = some (rowA size (.slice (some ⟨g, o, none⟩) n cap) n xs)) :
    St W S0 w (rowA size (.slice (some ⟨g, o, none⟩) 0 0) 0 [] :: l.eraseIdx k) := by
  have h := H.row k hk
  refine H.app k hk ⟨by simp, .inr ⟨g, o, 0, rfl, Nat.zero_le _, (h.lt g rfl).2, Nat.le_refl _, Nat.zero_le _, fun j u hu => by simp at hu, fun j hj => by omega⟩⟩ (World.grownBy.refl w _) (.inl rfl)
/-- From place p on others are laid. -/
theorem Own.over {base size n g o cap p : Nat} {xs news : List Value} (h : Own w base size (.slice (some ⟨g, o, none⟩) n cap) n xs) (hl : p + news.length ≤ xs.length) :
    Own (w.setCells g (o + p) news) base size (.slice (some ⟨g, o, none⟩) n cap) n (xs.take p ++ news ++ xs.drop (p + news.length)) := by
  obtain ⟨hlen, h⟩ := h
  rcases h with ⟨h, _⟩ | ⟨g', o', cap', e, hb, hlt, hn, hc, hx, hr⟩
  · cases h
  · injection e with e1 e2 e3
    injection e1 with e1
    injection e1 with e4 e5
    subst e4 e5 e3
    have hnc : n * size ≤ cap * size := Nat.mul_le_mul_right _ hn
    have hsp : ∀ j, j < news.length → (w.cell? ⟨g, o + p + j, none⟩).isSome = true := fun j hj => by
      have := (hr (p + j) (by omega)).1
      rwa [← Nat.add_assoc] at this
    have htp : (xs.take p).length = p := by rw [List.length_take]; omega
    refine ⟨by simp only [List.length_append, htp, List.length_drop]; omega, .inr ⟨g, o, cap, rfl, hb, by rw [size_cells]; exact hlt, hn, hc, fun j u hu => ?_, fun j hj => ?_⟩⟩
    · by_cases h1 : j < p
      · rw [List.append_assoc, List.getElem?_append_left (by omega), List.getElem?_take_of_lt h1] at hu
        rw [World.cell?_setCells_out g news (o + p) w ⟨g, o + j, none⟩ (fun _ _ => .inl (by simp only; omega))]
        exact hx j u hu
      · by_cases h2 : j < p + news.length
        · rw [List.append_assoc, List.getElem?_append_right (by omega), htp, List.getElem?_append_left (by omega)] at hu
          have hj2 : j - p < news.length := by omega
          have := World.cell?_setCells_in g news (o + p) w hsp (j - p) hj2
          rw [show o + j = o + p + (j - p) by omega, this]
          rw [List.getElem?_eq_getElem hj2] at hu
          exact hu
        · rw [List.getElem?_append_right (by simp [htp]; omega), List.getElem?_drop] at hu
          rw [World.cell?_setCells_out g news (o + p) w ⟨g, o + j, none⟩ (fun _ _ => .inr (by simp only; omega))]
          refine hx j u ?_
          rw [← hu]
          congr 1
          simp only [List.length_append, htp]
          omega
    · refine ⟨?_, by rw [World.frozen?_setCells]; exact (hr j hj).2⟩
      by_cases h1 : j < p ∨ p + news.length ≤ j
      · rw [World.cell?_setCells_out g news (o + p) w ⟨g, o + j, none⟩ (fun _ _ => by simp only; omega)]
        exact (hr j hj).1
      · have hj2 : j - p < news.length := by omega
        have := World.cell?_setCells_in g news (o + p) w hsp (j - p) hj2
        rw [show o + j = o + p + (j - p) by omega, this]
        rfl
theorem St.over {size n g o cap p k : Nat} {xs news : List Value} (H : St W S0 w l) (hk : l[k]? = some (rowA size (.slice (some ⟨g, o, none⟩) n cap) n xs)) (hl : p + news.length ≤ xs.length) :
    St W S0 (w.setCells g (o + p) news) (rowA size (.slice (some ⟨g, o, none⟩) n cap) n (xs.take p ++ news ++ xs.drop (p + news.length)) :: l.eraseIdx k) :=
  H.app k hk ((H.row k hk).over hl) (grown_cells g _ _ _) (.inl rfl)
/-- A made block of cells as a row. -/
theorem St.row_made {size b n : Nat} {vs : List Value} (i : Nat) (h : St W S0 w l) (hi : l[i]? = some (cellA b vs)) (hn : vs.length = n * size) (hm : n ≤ maxLen) : St W S0 w (rowA size (.slice (some ⟨b, 0, none⟩) n n) n vs :: l.eraseIdx i) := by
  obtain ⟨S1, ⟨a, a'⟩, _, c⟩ := h.at i hi
  refine c w [_] (St.start (Sep.one ⟨⟨hn, .inr ⟨b, 0, n, rfl, Nat.zero_le _, a.lt, Nat.le_refl _, hm, fun j u hu => by rw [Nat.zero_add, a.cells]; exact hu, fun j hj => ?_⟩⟩, fun x => by rw [a' x]; simp [Value.ownBlock, eq_comm]⟩))
  rw [Nat.zero_add, a.cells]
  exact ⟨by simp; omega, a.free _⟩
/-- 'copy(dst, src)' where all of src goes over. -/
theorem wpList_copyS {P : Program} {ops : Array Oper} {rest : List Oper} {q : Oper} {a : Act} {Q : Exit → Act → World → Prop} {size n : Nat} {xs : List Value} (hgd : q.guard = none) (dO sO : Operand) (t : TypeId)
    (ho : q.op = .call { callee := .builtin .copy, args := #[dO, sO], argTypes := #[t, t] })
    (e : TypeId) (i0 : TypeInfo) (ht : P.underlying t = some (.slice e)) (hi0 : P.info? e = some i0) (hsize : i0.size = size)
    (k g o cap : Nat) (H : St W S0 w l) (hk : l[k]? = some (rowA size (.slice (some ⟨g, o, none⟩) n cap) n xs))
    (hd : a.eval dO = .slice (some ⟨g, o, none⟩) n cap) (ad : Option Addr) (m c : Nat) (hx : a.eval sO = .slice ad m c) (hm : m ≤ n) (news : List Value) (hl : news.length = m * size)
    (hnews : 0 < m → ∃ b off, ad = some ⟨b, off, none⟩ ∧ ∀ j u, news[j]? = some u → w.cell? ⟨b, off + j, none⟩ = some u) (h1 : ∀ u ∈ news, u.oneCell' = true)
    (h : ∀ w', St W S0 w' (rowA size (.slice (some ⟨g, o, none⟩) n cap) n (news ++ xs.drop news.length) :: l.eraseIdx k) → wpList P ops Q rest (a.put q.dst (.int .i64 m)) w') : wpList P ops Q (q :: rest) a w :=
  wpList_plain hgd fun _ hK => by
    subst hsize
    have hown := H.row k hk
    obtain ⟨hlen, hown'⟩ := id hown
    have hmn : m * i0.size ≤ n * i0.size := Nat.mul_le_mul_right _ hm
    have hS := H.over (p := 0) (news := news) hk (by omega)
    simp only [Nat.zero_add, Nat.add_zero, List.take_zero, List.nil_append] at hS
    have hmin : Nat.min m n = m := Nat.min_eq_left hm
    by_cases h0 : 0 < m
    · obtain ⟨b, off, rfl, hc⟩ := hnews h0
      have hll := run_loadCells_list (P := P) (w := w) ⟨b, off, none⟩ news (fun j u hu => by
        have := hc j u hu
        unfold Addr.add
        split
        · rename_i hj; subst hj; simpa using this
        · simpa using this)
      have hroom : ∀ j, j < news.length → (w.cell? ⟨g, o + 0 + j, none⟩).isSome = true ∧ w.frozen? ⟨g, o + 0 + j, none⟩ = false := fun j hj => by
        rcases hown' with ⟨h, _⟩ | ⟨_, _, _, e, _, _, hn, _, _, hr⟩
        · cases h
        · injection e with e1 e2 e3
          injection e1 with e1
          injection e1 with e4 e5
          subst e4 e5 e3
          have : n * i0.size ≤ cap * i0.size := Nat.mul_le_mul_right _ hn
          rw [Nat.add_zero]
          exact hr j (by omega)
      have hst := run_storeCells_cells (P := P) g o news 0 w (fun j hj => (hroom j hj).1) (fun j hj => (hroom j hj).2) h1
      rw [Nat.add_zero] at hst
      have hrun : (Builtin.copy_ #[t, t] q.type #[.slice (some ⟨g, o, none⟩) n cap, .slice (some ⟨b, off, none⟩) m c]).run P w = .ok (goInt m) (w.setCells g o news) := by
        simp [Builtin.copy_, run_underlying ht, Builtin.lenOf, Builtin.firstCells, sizeOf, typeInfo, hi0, hmin, ← hl, hll, hst]
      unfold Oper.wp execOp
      simp only [ho, resolve, invoke, builtin, Sem.run_bind, Sem.run_pure, Result.andThen_ok, List.map_toArray, List.map_cons, List.map_nil, hd, hx, hrun]
      exact hK _ _ (h _ hS)
    · obtain rfl : m = 0 := by omega
      obtain rfl : news = [] := List.eq_nil_of_length_eq_zero (by omega)
      simp only [World.setCells] at hS
      have hl0 : ∀ (x : Addr), (loadCells x 0).run P w = .ok #[] w := fun x => by simpa using run_loadCells_list (P := P) (w := w) x [] (by simp)
      have hrun : (Builtin.copy_ #[t, t] q.type #[.slice (some ⟨g, o, none⟩) n cap, .slice ad 0 c]).run P w = .ok (goInt 0) w := by
        cases ad <;> simp [Builtin.copy_, run_underlying ht, Builtin.lenOf, Builtin.firstCells, sizeOf, typeInfo, hi0, storeCells, hl0]
      unfold Oper.wp execOp
      simp only [ho, resolve, invoke, builtin, Sem.run_bind, Sem.run_pure, Result.andThen_ok, List.map_toArray, List.map_cons, List.map_nil, hd, hx, hrun]
      exact hK _ _ (h _ hS)
end
end Go.Proofs.Ytpajedpkdfacoaa
