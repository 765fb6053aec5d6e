/- Rows that are made longer, and copies into their middle. -/
import Derived.Test.YtiaefmmcakagpaaStep
import Derived.Test.YtiaefmmcakagpaaMore
import Derived.Lib.AppendZerosOnto
import Derived.Lib.Overlaps
import Derived.Lib.JoinLaws
namespace Go.Proofs.Ytiaefmmcakagpaa
set_option linter.unusedSimpArgs false
set_option linter.unusedVariables false
open Go Go.RowKit Go.Lib

section
variable {w w' W : World} {S0 : Nat → Prop} {l : List Asn}
theorem Own.parts {base size n g o cap : Nat} {xs : List Value} (h : Own w base size (.slice (some ⟨g, o, none⟩) n cap) n xs) :
    xs.length = n * size ∧ base ≤ g ∧ g < w.heap.size ∧ n ≤ cap ∧ cap ≤ maxLen ∧ (∀ j u, xs[j]? = some u → w.cell? ⟨g, o + j, none⟩ = some u) ∧ ∀ j, j < cap * size → (w.cell? ⟨g, o + j, none⟩).isSome = true ∧ w.frozen? ⟨g, o + j, none⟩ = false := by
  obtain ⟨hl, h⟩ := h
  rcases h with ⟨h, _⟩ | ⟨g', o', cap', e, hb, hlt, hn, hc, hx, hr⟩
  · cases h
  · injection e with e1 e2 e3
    injection e1 with e1
    injection e1 with e4 e5
    subst e4 e5 e3
    exact ⟨hl, hb, hlt, hn, hc, hx, hr⟩
theorem shape_cell {b o : Nat} (h : (w.cell? ⟨b, o, none⟩).isSome = true) : ∃ t k, w.shape? b = some (t, k) ∧ k ≠ 0 := by
  unfold World.cell? at h
  unfold World.shape?
  cases hq : w.heap[b]? with
  | none => simp [hq] at h
  | some ob =>
    cases ob <;> simp [hq] at h
    rename_i c t fr
    refine ⟨t, c.size, rfl, ?_⟩
    omega
theorem Box.shape {b : Nat} {vs : List Value} (h : Box w b vs) (hn : vs ≠ []) : ∃ t, w.shape? b = some (t, vs.length) := by
  have h0 := h.cells
  unfold World.cell? at h0
  unfold World.shape?
  cases hq : w.heap[b]? with
  | none =>
    cases vs with
    | nil => exact absurd rfl hn
    | cons v vs => have := h0 0; simp [hq] at this
  | some ob =>
    cases ob with
    | cells c t fr =>
      refine ⟨t, ?_⟩
      have h1 : ∀ o, c[o]? = vs[o]? := fun o => by have := h0 o; simpa [hq] using this
      have h2 : c.size = vs.length := by
        have e : c.toList = vs := List.ext_getElem? fun i => by rw [← h1 i]; simp
        rw [← e]; simp
      simp [h2]
    | _ =>
      cases vs with
      | nil => exact absurd rfl hn
      | cons v vs => have := h0 0; simp [hq] at this
theorem list_pick {β : Type} {f : Nat → Option β} : ∀ n : Nat, (∀ i, i < n → (f i).isSome = true) → ∃ ys : List β, ys.length = n ∧ ∀ i u, ys[i]? = some u → f i = some u := fun n h =>
  list_of (p := fun i x => f i = some x) n fun i hi => Option.isSome_iff_exists.1 (h i hi)
/-- A row that is looked at further on. -/
theorem St.extend {size n g o cap m k : Nat} {xs : List Value} (H : St W S0 w l) (hk : l[k]? = some (rowA size (.slice (some ⟨g, o, none⟩) n cap) n xs)) (hm : n + m ≤ cap) :
    ∃ ys, ys.length = m * size ∧ St W S0 w (rowA size (.slice (some ⟨g, o, none⟩) (n + m) cap) (n + m) (xs ++ ys) :: l.eraseIdx k) := by
  have h := H.row k hk
  obtain ⟨hl, hb, hlt, hn, hc, hx, hr⟩ := h.parts
  have hle : (n + m) * size ≤ cap * size := Nat.mul_le_mul_right _ hm
  rw [Nat.add_mul] at hle
  obtain ⟨ys, h1, h2⟩ := list_pick (f := fun i => w.cell? ⟨g, o + (n * size + i), none⟩) (m * size) fun i hi => (hr _ (by omega)).1
  refine ⟨ys, h1, H.app k hk ⟨by rw [List.length_append, hl, h1, Nat.add_mul], .inr ⟨g, o, cap, rfl, hb, hlt, hm, hc, fun j u hu => ?_, hr⟩⟩ (World.grownBy.refl w _) (.inl rfl)⟩
  by_cases hj : j < xs.length
  · rw [List.getElem?_append_left hj] at hu
    exact hx j u hu
  · rw [List.getElem?_append_right (by omega)] at hu
    have := h2 _ u hu
    rw [show n * size + (j - xs.length) = j by omega] at this
    exact this
/-- A new block as a row with room. -/
theorem St.row_grown {size b n G : Nat} {vs : List Value} (i : Nat) (h : St W S0 w l) (hi : l[i]? = some (cellA b vs)) (hG : vs.length = G * size) (hn : n ≤ G) (hm : G ≤ maxLen) :
    St W S0 w (rowA size (.slice (some ⟨b, 0, none⟩) n G) n (vs.take (n * size)) :: l.eraseIdx i) := by
  obtain ⟨S1, ⟨a, a'⟩, _, c⟩ := h.at i hi
  have hle : n * size ≤ G * size := Nat.mul_le_mul_right _ hn
  refine c w [_] (St.start (Sep.one ⟨⟨by rw [List.length_take]; omega, .inr ⟨b, 0, G, rfl, Nat.zero_le _, a.lt, hn, hm, fun j u hu => ?_, fun j hj => ?_⟩⟩, fun x => by rw [a' x]; simp [Value.ownBlock, eq_comm]⟩))
  · rw [Nat.zero_add, a.cells]
    have hj : j < n * size := by
      have := (List.getElem?_eq_some_iff.1 hu).1
      rw [List.length_take] at this
      omega
    rwa [List.getElem?_take_of_lt hj] at hu
  · rw [Nat.zero_add, a.cells]
    exact ⟨by simp; omega, a.free _⟩
/-- 'copy(dst, src)' where dst leads into a row, and m elements go over. -/
theorem run_copyAt {P : Program} (t ty e : TypeId) (i0 : TypeInfo) (ht : P.underlying t = some (.slice e)) (hi0 : P.info? e = some i0) {size : Nat} (hsize : i0.size = size)
    {n g o cap k : Nat} {xs : List Value} (H : St W S0 w l) (hk : l[k]? = some (rowA size (.slice (some ⟨g, o, none⟩) n cap) n xs))
    (p m dn dc sn sc : Nat) (ad : Addr) (hm : m = Nat.min sn dn) (hp : p + m ≤ n) (news : List Value) (hl : news.length = m * size)
    (hnews : ∀ j u, news[j]? = some u → w.cell? (ad.add j) = some u) (h1 : ∀ u ∈ news, u.oneCell' = true) :
    ∃ w', (Builtin.copy_ #[t, t] ty #[.slice (some ⟨g, o + p * size, none⟩) dn dc, .slice (some ad) sn sc]).run P w = .ok (goInt m) w' ∧
      St W S0 w' (rowA size (.slice (some ⟨g, o, none⟩) n cap) n (xs.take (p * size) ++ news ++ xs.drop (p * size + news.length)) :: l.eraseIdx k) := by
  subst hsize
  obtain ⟨hlen, hb, hlt, hn, hc, hx, hr⟩ := (H.row k hk).parts
  have hpm : (p + m) * i0.size ≤ n * i0.size := Nat.mul_le_mul_right _ hp
  have hnc : n * i0.size ≤ cap * i0.size := Nat.mul_le_mul_right _ hn
  rw [Nat.add_mul] at hpm
  have hS := H.over (p := p * i0.size) (news := news) hk (by omega)
  have hll := run_loadCells_list (P := P) w ad news hnews
  have hst := run_storeCells_cells (P := P) g (o + p * i0.size) news 0 w (fun j hj => by rw [Nat.add_zero, Nat.add_assoc]; exact (hr _ (by omega)).1) (fun j hj => by rw [Nat.add_zero, Nat.add_assoc]; exact (hr _ (by omega)).2) h1
  rw [Nat.add_zero] at hst
  refine ⟨_, ?_, hS⟩
  simp [Builtin.copy_, run_underlying ht, Builtin.lenOf, Builtin.firstCells, sizeOf, typeInfo, hi0, ← hm, ← hl, hll, hst]
theorem wpList_copy_run {P : Program} (w : World) {ops : Array Oper} {rest : List Oper} {o : Oper} {a : Act} {Q : Exit → Act → World → Prop} (hgd : o.guard = none) (d s : Operand) (t t' : TypeId)
    (ho : o.op = .call { callee := .builtin .copy, args := #[d, s], argTypes := #[t, t'] }) (v u : Value) (hd : a.eval d = v) (hs : a.eval s = u) {v' : Value} {w' : World}
    (hr : (Builtin.copy_ #[t, t'] o.type #[v, u]).run P w = .ok v' w') (h : wpList P ops Q rest (a.put o.dst v') w') : wpList P ops Q (o :: rest) a w :=
  wpList_plain hgd fun _ hK => by
    unfold Oper.wp execOp
    simp only [ho, resolve, invoke, builtin, Sem.run_bind, Sem.run_pure, Result.andThen_ok, List.map_toArray, List.map_cons, List.map_nil, hd, hs, hr]
    exact hK _ _ h
theorem step_copy_run {P : Program} {ops : Array Oper} {o : Oper} {a : Act} {w : World} {K : Act → World → Prop} {Q : Exit → Act → World → Prop} {E : Prop}
    (hg : o.guard = none) (d x : Operand) (dT sT : TypeId) (hop : o.op = Op.call { callee := Callee.builtin Builtin.copy, args := #[d, x], argTypes := #[dT, sT] })
    (v u : Value) (hd : a.eval d = v) (hx : a.eval x = u) {v' : Value} {w' : World} (hr : (Builtin.copy_ #[dT, sT] o.type #[v, u]).run P w = .ok v' w') (hK : K (a.put o.dst v') w') :
    if Region.wanted o (yielded ops a.tmps) = true then Oper.wp P o a w K Q else E := by
  have hw : Region.wanted o (yielded ops a.tmps) = true := by simp [Region.wanted, hg]
  rw [if_pos hw]
  unfold Oper.wp
  simp [execOp, hop, resolve, invoke, builtin, hd, hx, hr, Result.andThen]
  exact hK
/-- 'append(s[:i], make(S, m)...)' where the room does not serve. -/
theorem run_appMake {P : Program} (t tn e : TypeId) (i0 : TypeInfo) (z : Value) (kq kn : IntKind) (ht : P.underlying t = some (.slice e)) (htn : P.underlying tn = some (.int kn)) (hi0 : P.info? e = some i0) (hz : i0.zero = some z)
    {size bytes : Nat} (hsize : i0.size = size) (hby : i0.bytes = bytes) (hzs : z.cells.size = size) (hsz : 0 < size) {n g o cap k : Nat} {xs : List Value} (H : St W S0 w l) (hk : l[k]? = some (rowA size (.slice (some ⟨g, o, none⟩) n cap) n xs))
    (i m : Nat) (hi : i ≤ n) (hm : 0 < m) (hcap : cap < i + m) (hbig : i + m ≤ 1000000000) (hbs : bytes ≤ 100000) :
    ∃ G w', (∀ ty, (Builtin.append_ #[t, tn] ty #[.slice (some ⟨g, o, none⟩) i cap, .int kq m]).run P w = .ok (.slice (some ⟨w.heap.size, 0, none⟩) (i + m) G) w') ∧ i + m ≤ G ∧ G ≤ maxLen ∧ Below w.heap.size w w' ∧ w'.heap.size = w.heap.size + 1 ∧
      ∃ ys, ys.length = m * size ∧ St W S0 w' (rowA size (.slice (some ⟨w.heap.size, 0, none⟩) (i + m) G) (i + m) (xs.take (i * size) ++ ys) :: l) := by
  subst hsize hby
  obtain ⟨hlen, hb, hlt, hn, hc, hx, hr⟩ := (H.row k hk).parts
  have hle : i * i0.size ≤ n * i0.size := Nat.mul_le_mul_right _ hi
  have hbb : (i + m) * i0.bytes ≤ 1000000000 * 100000 := Nat.mul_le_mul hbig hbs
  have hmb : m * i0.bytes ≤ (i + m) * i0.bytes := Nat.mul_le_mul_right _ (by omega)
  have hold : (Builtin.firstCells i0.size i (.slice (some ⟨g, o, none⟩) i cap)).run P w.drew = .ok (xs.take (i * i0.size)).toArray w.drew :=
    run_firstCells_some w.drew i0.size i ⟨g, o, none⟩ i cap (xs.take (i * i0.size)) (by rw [List.length_take]; omega) (fun j v hj => by
      rw [Addr.add_lit]
      have : j < i * i0.size := by
        have := (List.getElem?_eq_some_iff.1 hj).1
        rw [List.length_take] at this
        omega
      rw [List.getElem?_take_of_lt this] at hj
      exact hx j v hj)
  have hrun := fun ty => Lib.run_append_grow_zeros w t tn ty e i0 z kq kn ht htn hi0 hz (some ⟨g, o, none⟩) i cap (xs.take (i * i0.size)) hold m hm hsz hcap (by omega) (by omega) (growslice_fits hcap (by omega))
  have hGn : i + m ≤ grownCap w (i + m) cap e := grownCap_ge w _ _ _
  have hGm : grownCap w (i + m) cap e ≤ maxLen := grownCap_le_maxLen w (i + m) cap e (by unfold maxLen; omega)
  have hzl : ∀ q, (Builtin.zeroCells z.cells q).toList.length = q * i0.size := fun q => by simp [Builtin.zeroCells, hzs]
  have htl : (xs.take (i * i0.size)).length = i * i0.size := by rw [List.length_take]; omega
  have hA := H.drew.alloc (xs.take (i * i0.size) ++ (Builtin.zeroCells z.cells m).toList ++ (Builtin.zeroCells z.cells (grownCap w (i + m) cap e - (i + m))).toList) e
  have hR := hA.row_grown (size := i0.size) (n := i + m) (G := grownCap w (i + m) cap e) 0 rfl (by
    rw [List.length_append, List.length_append, hzl, hzl, htl, ← Nat.add_mul, ← Nat.add_mul]
    congr 1
    omega) hGn hGm
  have he : (xs.take (i * i0.size) ++ (Builtin.zeroCells z.cells m).toList ++ (Builtin.zeroCells z.cells (grownCap w (i + m) cap e - (i + m))).toList).take ((i + m) * i0.size) = xs.take (i * i0.size) ++ (Builtin.zeroCells z.cells m).toList := by
    have h0 : (xs.take (i * i0.size) ++ (Builtin.zeroCells z.cells m).toList).length = (i + m) * i0.size := by rw [List.length_append, hzl, htl, Nat.add_mul]
    rw [List.take_append_of_le_length (by omega), List.take_of_length_le (by omega)]
  rw [he] at hR
  have hE : (xs.take (i * i0.size) ++ (Builtin.zeroCells z.cells m).toList ++ (Builtin.zeroCells z.cells (grownCap w (i + m) cap e - (i + m))).toList).toArray = (xs.take (i * i0.size)).toArray ++ Builtin.zeroCells z.cells m ++ Builtin.zeroCells z.cells (grownCap w (i + m) cap e - (i + m)) := by
    apply Array.ext'
    simp
  rw [hE] at hR
  exact ⟨grownCap w (i + m) cap e, _, hrun, hGn, hGm, ((Below.refl _ _).drew).alloc (Nat.le_refl _) _, by simp, _, hzl m, hR⟩
end
end Go.Proofs.Ytiaefmmcakagpaa
