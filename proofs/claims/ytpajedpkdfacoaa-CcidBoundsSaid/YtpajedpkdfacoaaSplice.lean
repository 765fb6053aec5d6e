/- Rows of the call's own: a part of a row is overwritten, cut out, or made zero. -/
import Derived.Test.YtpajedpkdfacoaaRd
import Derived.Laws.IdiomCopy
namespace Go.Proofs.Ytpajedpkdfacoaa
set_option linter.unusedSimpArgs false
set_option linter.unusedVariables false
open Go Go.RowKit

section
variable {w w' W : World} {base size n : Nat} {v : Value} {xs : List Value} {S0 : Nat → Prop} {l : List Asn}

theorem grown_cells (b : Nat) : ∀ (vs : List Value) (o : Nat) (w : World), w.grownBy (w.setCells b o vs) (some b)
  | [], _, _ => ⟨rfl, rfl, rfl, Nat.le_refl _, fun _ _ _ => rfl⟩
  | u :: vs, k, w => by
    have h0 := grown_cells b vs (k + 1) (w.setCell ⟨b, k, none⟩ u)
    have hsz : (w.setCell ⟨b, k, none⟩ u).heap.size = w.heap.size := by simp
    exact ⟨h0.os, h0.tape, h0.output, by have := h0.size; rw [hsz] at this; exact this, fun j hj hjk => (h0.block j (by rw [hsz]; exact hj) hjk).trans (Below.heap_setCell w ⟨b, k, none⟩ u j (fun e => hjk (by rw [e])))⟩
theorem size_cells (b : Nat) : ∀ (vs : List Value) (o : Nat) (w : World), (w.setCells b o vs).heap.size = w.heap.size
  | [], _, _ => rfl
  | u :: vs, k, w => by rw [World.setCells, size_cells b vs]; simp

/-- From the i-th element on m others are laid. -/
theorem Own.splice {g o cap i m : Nat} {news : List Value} (h : Own w base size (.slice (some ⟨g, o, none⟩) n cap) n xs) (hi : i ≤ n) (hm : i + m ≤ cap) (hl : news.length = m * size) :
    Own (w.setCells g (o + i * size) news) base size (.slice (some ⟨g, o, none⟩) (i + m) cap) (i + m) (xs.take (i * size) ++ news) := by
  obtain ⟨hlen, h⟩ := h
  have hin : i * size ≤ xs.length := by rw [hlen]; exact Nat.mul_le_mul_right _ hi
  have hcs : i * size + news.length ≤ cap * size := by rw [hl, ← Nat.add_mul]; exact Nat.mul_le_mul_right _ hm
  rcases h with ⟨h, _⟩ | ⟨g', o', cap', e, hb, hlt, hn, hc, hx, hr⟩
  · cases h
  · injection e with e1 e2 e3
    injection e1 with e1
    injection e1 with e4 e5
    subst e4 e5 e3
    have hsp : ∀ j, j < news.length → (w.cell? ⟨g, o + i * size + j, none⟩).isSome = true ∧ w.frozen? ⟨g, o + i * size + j, none⟩ = false := fun j hj => by
      have := hr (i * size + j) (by omega)
      rw [Nat.add_assoc]
      exact this
    refine ⟨by rw [List.length_append, List.length_take, Nat.min_eq_left hin, hl, Nat.add_mul], .inr ⟨g, o, cap, rfl, hb, by rw [size_cells]; exact hlt, hm, hc, fun j u hu => ?_, fun j hj => ?_⟩⟩
    · by_cases hj : j < i * size
      · rw [List.getElem?_append_left (by simp; omega), List.getElem?_take_of_lt hj] at hu
        rw [World.cell?_setCells_out g news (o + i * size) w ⟨g, o + j, none⟩ (fun _ _ => .inl (by simp only; omega))]
        exact hx j u hu
      · rw [List.getElem?_append_right (by simp; omega)] at hu
        have hj1 : j - (xs.take (i * size)).length = j - i * size := by rw [List.length_take, Nat.min_eq_left hin]
        rw [hj1] at hu
        have hj2 : j - i * size < news.length := (List.getElem?_eq_some_iff.1 hu).1
        have := World.cell?_setCells_in g news (o + i * size) w (fun j hj => (hsp j hj).1) (j - i * size) hj2
        rw [show o + j = o + i * size + (j - i * size) by omega, this]
        rw [List.getElem?_eq_getElem hj2] at hu
        exact hu
    · refine ⟨?_, by rw [World.frozen?_setCells]; exact (hr j hj).2⟩
      by_cases hj1 : j < i * size ∨ i * size + news.length ≤ j
      · rw [World.cell?_setCells_out g news (o + i * size) w ⟨g, o + j, none⟩ (fun _ _ => by simp only; omega)]
        exact (hr j hj).1
      · have hj2 : j - i * size < news.length := by omega
        have := World.cell?_setCells_in g news (o + i * size) w (fun j hj => (hsp j hj).1) (j - i * size) hj2
        rw [show o + j = o + i * size + (j - i * size) by omega, this]
        rfl
theorem Own.prefix_ {g o cap i : Nat} (h : Own w base size (.slice (some ⟨g, o, none⟩) n cap) n xs) (hi : i ≤ n) : Own w base size (.slice (some ⟨g, o, none⟩) i cap) i (xs.take (i * size)) := by
  have hc : n ≤ cap := by
    rcases h.2 with ⟨h, _⟩ | ⟨_, _, _, e, _, _, hn, _⟩
    · cases h
    · injection e with e1 e2 e3; omega
  have := h.splice (i := i) (m := 0) (news := []) hi (by omega) (by simp)
  simpa [World.setCells] using this
theorem Own.roomy {g o cap : Nat} (h : Own w base size (.slice (some ⟨g, o, none⟩) n cap) n xs) : n ≤ cap ∧ cap ≤ maxLen := by
  rcases h.2 with ⟨h, _⟩ | ⟨_, _, _, e, _, _, hn, hc, _⟩
  · cases h
  · injection e with e1 e2 e3; omega
theorem St.splice {g o cap i m k : Nat} {news : List Value} (H : St W S0 w l) (hk : l[k]? = some (rowA size (.slice (some ⟨g, o, none⟩) n cap) n xs)) (hi : i ≤ n) (hm : i + m ≤ cap) (hl : news.length = m * size) :
    St W S0 (w.setCells g (o + i * size) news) (rowA size (.slice (some ⟨g, o, none⟩) (i + m) cap) (i + m) (xs.take (i * size) ++ news) :: l.eraseIdx k) :=
  H.app k hk ((H.row k hk).splice hi hm hl) (grown_cells g _ _ _) (.inl rfl)
theorem St.prefix_ {g o cap i k : Nat} (H : St W S0 w l) (hk : l[k]? = some (rowA size (.slice (some ⟨g, o, none⟩) n cap) n xs)) (hi : i ≤ n) :
    St W S0 w (rowA size (.slice (some ⟨g, o, none⟩) i cap) i (xs.take (i * size)) :: l.eraseIdx k) := by
  have hc := (H.row k hk).roomy
  have := H.splice (i := i) (m := 0) (news := []) hk hi (by omega) (by simp)
  simpa [World.setCells] using this

/-- 'append(s[:i], s[j:]...)'. -/
theorem wpList_cutS {P : Program} {ops : Array Oper} {rest : List Oper} {q : Oper} {a : Act} {Q : Exit → Act → World → Prop} (hgd : q.guard = none) (s x : Operand) (t : TypeId)
    (ho : q.op = .call { callee := .builtin .append, args := #[s, x], argTypes := #[t, t] })
    (e : TypeId) (i0 : TypeInfo) (ht : P.underlying t = some (.slice e)) (hi0 : P.info? e = some i0) (hsize : i0.size = size) (hsz : 0 < size)
    (k : Nat) (g o cap i j : Nat) (H : St W S0 w l) (hk : l[k]? = some (rowA size (.slice (some ⟨g, o, none⟩) n cap) n xs)) (hij : i ≤ j) (hjn : j ≤ n)
    (hs : a.eval s = .slice (some ⟨g, o, none⟩) i cap) (ad : Option Addr) (c m : Nat) (hm : m = n - j) (hmc : m ≤ c) (hx : a.eval x = .slice ad m c) (had : 0 < m → ad = some ⟨g, o + j * size, none⟩) (h1 : ∀ u ∈ xs, u.oneCell' = true)
    (h : ∀ w', St W S0 w' (rowA size (.slice (some ⟨g, o, none⟩) (i + m) cap) (i + m) (xs.take (i * size) ++ xs.drop (j * size)) :: l.eraseIdx k) → wpList P ops Q rest (a.put q.dst (.slice (some ⟨g, o, none⟩) (i + m) cap)) w') : wpList P ops Q (q :: rest) a w :=
  wpList_plain hgd fun _ hK => by
    subst hm
    have hown := H.row k hk
    obtain ⟨hlen, hown'⟩ := id hown
    obtain ⟨hnc, hcm⟩ := hown.roomy
    subst hsize
    have hdl : (xs.drop (j * i0.size)).length = (n - j) * i0.size := by rw [List.length_drop, hlen, Nat.sub_mul]
    have hS := H.splice (i := i) (m := n - j) (news := xs.drop (j * i0.size)) hk (by omega) (by omega) hdl
    have hcells : ∀ p u, xs[p]? = some u → w.cell? ⟨g, o + p, none⟩ = some u := by
      rcases hown' with ⟨h, _⟩ | ⟨_, _, _, e, _, _, _, _, hc, _⟩
      · cases h
      · injection e with e1 e2 e3
        injection e1 with e1
        injection e1 with e4 e5
        subst e4 e5
        exact hc
    have hroom : ∀ p, p < cap * i0.size → (w.cell? ⟨g, o + p, none⟩).isSome = true ∧ w.frozen? ⟨g, o + p, none⟩ = false := by
      rcases hown' with ⟨h, _⟩ | ⟨_, _, _, e, _, _, _, _, _, hc⟩
      · cases h
      · injection e with e1 e2 e3
        injection e1 with e1
        injection e1 with e4 e5
        subst e4 e5 e3
        exact hc
    by_cases h0 : 0 < n - j
    · obtain rfl := had h0
      have hadd : ∀ p, (⟨g, o + j * i0.size, none⟩ : Addr).add p = ⟨g, o + j * i0.size + p, none⟩ := fun p => by unfold Addr.add; split <;> simp_all
      have hrun := run_append_room_cells (P := P) w t q.type e i0 ht hi0 g o i cap ⟨g, o + j * i0.size, none⟩ (n - j) c (xs.drop (j * i0.size)) hdl (fun p u hu => by
          rw [hadd, Nat.add_assoc]
          refine hcells _ _ ?_
          rw [List.getElem?_drop] at hu
          exact hu) (fun u hu => h1 u (List.mem_of_mem_drop hu)) (by omega) (fun p hp => by
          rw [Nat.add_assoc]
          refine (hroom _ ?_).1
          rw [hdl] at hp
          have : (i + (n - j)) * i0.size ≤ cap * i0.size := Nat.mul_le_mul_right _ (by omega)
          rw [Nat.add_mul] at this
          omega) (fun p hp => by
          rw [Nat.add_assoc]
          refine (hroom _ ?_).2
          rw [hdl] at hp
          have : (i + (n - j)) * i0.size ≤ cap * i0.size := Nat.mul_le_mul_right _ (by omega)
          rw [Nat.add_mul] at this
          omega)
      unfold Oper.wp execOp
      simp only [ho, resolve, invoke, builtin, Sem.run_bind, Sem.run_pure, Result.andThen_ok, List.map_toArray, List.map_cons, List.map_nil, hs, hx, hrun]
      exact hK _ _ (h _ hS)
    · have h0' : n - j = 0 := by omega
      have hnil : xs.drop (j * i0.size) = [] := List.eq_nil_of_length_eq_zero (by rw [hdl, h0', Nat.zero_mul])
      rw [hnil] at hS
      simp only [World.setCells, h0', Nat.add_zero, List.append_nil] at hS
      rw [hnil] at h
      simp only [h0', Nat.add_zero, List.append_nil] at h
      rw [h0'] at hx
      have hrun : (Builtin.append_ #[t, t] q.type #[.slice (some ⟨g, o, none⟩) i cap, .slice ad 0 c]).run P w = .ok (.slice (some ⟨g, o, none⟩) i cap) w := by
        have : i ≤ cap := by omega
        cases ad <;> simp [Builtin.append_, run_underlying ht, sizeOf, typeInfo, hi0, Builtin.lenOf, this, Builtin.firstCells, storeCells, Sem.run_pure, loadCells, loadCellsFrom]
      unfold Oper.wp execOp
      simp only [ho, resolve, invoke, builtin, Sem.run_bind, Sem.run_pure, Result.andThen_ok, List.map_toArray, List.map_cons, List.map_nil, hs, hx, hrun]
      exact hK _ _ (h _ hS)

/-- 'clear(s[n:])' of what lies behind a row's end. -/
theorem run_clearS {P : Program} (t ty e : TypeId) (i0 : TypeInfo) (z : Value) (ht : P.underlying t = some (.slice e)) (hi0 : P.info? e = some i0) (hz : i0.zero = some z) (hzs : z.cells.size = size) (hsz : 0 < size) (hz1 : ∀ u ∈ z.cells.toList, u.oneCell' = true)
    (k : Nat) (g o cap : Nat) (H : St W S0 w l) (hk : l[k]? = some (rowA size (.slice (some ⟨g, o, none⟩) n cap) n xs)) (m c : Nat) (hm : n + m ≤ cap) (h0 : 0 < m) :
    ∃ w', (Builtin.clear_ #[t] ty #[.slice (some ⟨g, o + n * size, none⟩) m c]).run P w = .ok (.tuple #[]) w' ∧ St W S0 w' (rowA size (.slice (some ⟨g, o, none⟩) n cap) n xs :: l.eraseIdx k) := by
  have hown := H.row k hk
  obtain ⟨hlen, hown'⟩ := id hown
  have hzv : ∀ w : World, (zeroValue e).run P w = .ok z w := fun w => by simp [zeroValue, typeInfo, hi0, hz, Sem.run_bind, Sem.run_pure, Result.andThen, go_sem]
  have hzl : (Builtin.zeroCells z.cells m).toList.length = m * size := by simp [Builtin.zeroCells, hzs]
  have hone : ∀ u ∈ (Builtin.zeroCells z.cells m).toList, u.oneCell' = true := fun u hu => by
    simp only [Builtin.zeroCells, Array.toList_map, List.mem_map] at hu
    obtain ⟨i, _, rfl⟩ := hu
    have hlt : i % z.cells.size < z.cells.size := Nat.mod_lt _ (by omega)
    rw [show z.cells[i % z.cells.size]! = z.cells[i % z.cells.size] from getElem!_pos z.cells (i % z.cells.size) hlt]
    exact hz1 _ (by simp)
  have hS := H.splice (i := n) (m := m) (news := (Builtin.zeroCells z.cells m).toList) hk (Nat.le_refl _) hm hzl
  have hS2 := hS.prefix_ (i := n) (k := 0) rfl (by omega)
  have hx2 : (xs.take (n * size) ++ (Builtin.zeroCells z.cells m).toList).take (n * size) = xs := by
    rw [List.take_append_of_le_length (by simp; omega), List.take_take, Nat.min_self, List.take_of_length_le (by omega)]
  rw [hx2] at hS2
  have hroom : ∀ p, p < cap * size → (w.cell? ⟨g, o + p, none⟩).isSome = true ∧ w.frozen? ⟨g, o + p, none⟩ = false := by
    rcases hown' with ⟨h, _⟩ | ⟨_, _, _, e, _, _, _, _, _, hc⟩
    · cases h
    · injection e with e1 e2 e3
      injection e1 with e1
      injection e1 with e4 e5
      subst e4 e5 e3
      exact hc
  have hbd : ∀ j, j < (Builtin.zeroCells z.cells m).toList.length → n * size + j < cap * size := fun j hj => by
    have : (n + m) * size ≤ cap * size := Nat.mul_le_mul_right _ hm
    rw [Nat.add_mul] at this
    omega
  have hst := run_storeCells_cells (P := P) g (o + n * size) (Builtin.zeroCells z.cells m).toList 0 w (fun j hj => by
      rw [Nat.add_zero, Nat.add_assoc]; exact (hroom _ (hbd j hj)).1) (fun j hj => by
      rw [Nat.add_zero, Nat.add_assoc]; exact (hroom _ (hbd j hj)).2) hone
  rw [Nat.add_zero] at hst
  obtain ⟨m', rfl⟩ : ∃ m', m = m' + 1 := ⟨m - 1, by omega⟩
  exact ⟨_, by simp [Builtin.clear_, run_underlying ht, Sem.run_bind, Sem.run_pure, hzv, hst, Result.andThen], hS2⟩
end
end Go.Proofs.Ytpajedpkdfacoaa
