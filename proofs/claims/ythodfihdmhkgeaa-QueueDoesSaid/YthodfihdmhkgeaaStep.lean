/- 'append' to a row of the call's own, as one step of a statement that draws its order. -/
import Derived.Test.YthodfihdmhkgeaaSplice
import Derived.Deep.RegionLaw
namespace Go.Proofs.Ythodfihdmhkgeaa
set_option linter.unusedSimpArgs false
set_option linter.unusedVariables false
open Go Go.RowKit

section
variable {w w' W : World} {S0 : Nat → Prop} {l : List Asn}
theorem step_appS {P : Program} {ops : Array Oper} {o : Oper} {a : Act} {K : Act → World → Prop} {Q : Exit → Act → World → Prop} {E : Prop} (hgd : o.guard = none) (s x : Operand) (t : TypeId)
    (ho : o.op = .call { callee := .builtin .append, args := #[s, x], argTypes := #[t, t] })
    (e : TypeId) (i : TypeInfo) (z : Value) (size bytes : Nat) (ht : P.underlying t = some (.slice e)) (hi : P.info? e = some i) (hz : i.zero = some z)
    (hsize : i.size = size) (hby : i.bytes = bytes) (hzs : z.cells.size = size) (hsz : 0 < size)
    (k : Nat) (v : Value) (n : Nat) (xs : List Value) (hs : a.eval s = v) (H : St W S0 w l) (hk : l[k]? = some (rowA size v n xs))
    (m c : Nat) (news : List Value) {q : Nat} (hx : a.eval x = .slice (some ⟨q, 0, none⟩) m c) (hl : news.length = m * size) (hnews : ∀ j u, news[j]? = some u → w.cell? ⟨q, j, none⟩ = some u) (h1 : ∀ u ∈ news, u.oneCell' = true)
    (hsm : n + m ≤ 1000000000) (hbs : bytes ≤ 100000)
    (h : ∀ v' w', St W S0 w' (rowA size v' (n + m) (xs ++ news) :: l.eraseIdx k) → (∃ g off cap, v' = .slice (some ⟨g, off, none⟩) (n + m) cap) → K (a.put o.dst v') w') (hm : 0 < m) :
    if Region.wanted o (yielded ops a.tmps) = true then Oper.wp P o a w K Q else E := by
  have hw : Region.wanted o (yielded ops a.tmps) = true := by simp [Region.wanted, hgd]
  rw [if_pos hw]
  have hb : (n + m) * bytes ≤ 1000000000 * 100000 := Nat.mul_le_mul hsm hbs
  obtain ⟨v', w', hrun, h2, h3, h4⟩ := run_app (P := P) 0 t o.type e i z size bytes ht hi hz hsize hby hzs hsz v n xs (H.row k hk) ⟨q, 0, none⟩ m c news hl (fun j u hu => by
    have := hnews j u hu
    unfold Addr.add
    split
    · rename_i h0; subst h0; simpa using this
    · simpa using this) h1 (by unfold maxLen; omega) (by omega) (Nat.zero_le _)
  unfold Oper.wp execOp
  simp only [ho, resolve, invoke, builtin, Sem.run_bind, Sem.run_pure, Result.andThen_ok, List.map_toArray, List.map_cons, List.map_nil, hs, hx, hrun]
  refine h v' w' (H.app k hk h2 h3 h4) ?_
  rcases h2.2 with ⟨_, e0⟩ | ⟨g, off, cap, e, _⟩
  · omega
  · exact ⟨g, off, cap, e⟩
theorem St.held {p : Asn} (k : Nat) (H : St W S0 w l) (hk : l[k]? = some p) : ∃ S1, p.holds w S1 := by
  obtain ⟨S1, a, _⟩ := H.at k hk
  exact ⟨S1, a⟩
/-- A call that reads one part. -/
theorem Calls.rd_at {P : Program} {f : FuncId} {args : Array Value} {v : Value} {p : Asn} (k : Nat) (H : St W S0 w l) (hk : l[k]? = some p) (h : ∀ S, p.holds w S → Calls P f args w (Ret w v)) :
    Calls P f args w (Fin W S0 v l) := by
  obtain ⟨S1, a⟩ := H.held k hk
  exact (h S1 a).mono fun _ _ ⟨he, hb⟩ => ⟨he, H.thru hb⟩
/-- A call that turns one part. -/
theorem Calls.st_at {P : Program} {f : FuncId} {args : Array Value} {v : Value} {p : Asn} {l' : List Asn} (k : Nat) (H : St W S0 w l) (hk : l[k]? = some p) (h : ∀ S, p.holds w S → Calls P f args w (Fin w S v l')) :
    Calls P f args w (Fin W S0 v (l' ++ l.eraseIdx k)) := by
  obtain ⟨S1, a, _, c⟩ := H.at k hk
  exact (h S1 a).mono fun _ w' ⟨he, hst⟩ => ⟨he, c w' l' hst⟩
/-- A call that turns nothing that is known. -/
theorem Calls.st_ret {P : Program} {f : FuncId} {args : Array Value} {v : Value} (H : St W S0 w l) (h : Calls P f args w (Ret w v)) : Calls P f args w (Fin W S0 v l) :=
  h.mono fun _ _ ⟨he, hb⟩ => ⟨he, H.thru hb⟩
theorem St.thruB (h : St W S0 w l) {B : Nat} (hB : w.heap.size ≤ B) (hb : Below B w w') : St W S0 w' l := h.thru (hb.mono hB)
theorem Own.tail {base size n g o cap i : Nat} {xs : List Value} (h : Own w base size (.slice (some ⟨g, o, none⟩) n cap) n xs) (hi : i ≤ n) : Own w base size (.slice (some ⟨g, o + i * size, none⟩) (n - i) (cap - i)) (n - i) (xs.drop (i * size)) := by
  obtain ⟨hl, h⟩ := h
  rcases h with ⟨h, _⟩ | ⟨g', o', cap', e, hb, hlt, hn, hc, hx, hr⟩
  · cases h
  · injection e with e1 e2 e3
    injection e1 with e1
    injection e1 with e4 e5
    subst e4 e5 e3
    refine ⟨by rw [List.length_drop, hl, Nat.sub_mul], .inr ⟨g, o + i * size, cap - i, rfl, hb, hlt, by omega, by omega, fun j u hu => ?_, fun j hj => ?_⟩⟩
    · rw [List.getElem?_drop] at hu
      rw [Nat.add_assoc]; exact hx _ _ hu
    · rw [Nat.add_assoc]
      refine hr _ ?_
      rw [Nat.sub_mul] at hj
      omega
theorem St.tail {size n g o cap i k : Nat} {xs : List Value} (H : St W S0 w l) (hk : l[k]? = some (rowA size (.slice (some ⟨g, o, none⟩) n cap) n xs)) (hi : i ≤ n) :
    St W S0 w (rowA size (.slice (some ⟨g, o + i * size, none⟩) (n - i) (cap - i)) (n - i) (xs.drop (i * size)) :: l.eraseIdx k) :=
  H.app k hk ((H.row k hk).tail hi) (World.grownBy.refl w _) (.inl rfl)
/-- A row that is handed on as an empty one, wherever it leads. -/
theorem St.tail0 {size n g o cap k : Nat} {xs : List Value} (H : St W S0 w l) (hk : l[k]? = some (rowA size (.slice (some ⟨g, o, none⟩) n cap) n xs)) :
    St W S0 w (rowA size (.slice (some ⟨g, o, none⟩) 0 0) 0 [] :: l.eraseIdx k) := by
  have h := H.row k hk
  refine H.app k hk ⟨by simp, .inr ⟨g, o, 0, rfl, Nat.zero_le _, (h.lt g rfl).2, Nat.le_refl _, Nat.zero_le _, fun j u hu => by simp at hu, fun j hj => by omega⟩⟩ (World.grownBy.refl w _) (.inl rfl)
end
end Go.Proofs.Ythodfihdmhkgeaa
