/- 'append(v, y...)' where y is read only, as one step of a statement that draws its order. -/
import Derived.Test.YtljgmephajocaaaStep
namespace Go.Proofs.Ytljgmephajocaaa
set_option linter.unusedSimpArgs false
set_option linter.unusedVariables false
open Go Go.RowKit

section
variable {w w' W : World} {S0 : Nat → Prop} {l : List Asn}
theorem step_appRd {P : Program} {ops : Array Oper} {o : Oper} {a : Act} {K : Act → World → Prop} {Q : Exit → Act → World → Prop} {E : Prop} (hgd : o.guard = none) (s x : Operand) (t : TypeId)
    (ho : o.op = .call { callee := .builtin .append, args := #[s, x], argTypes := #[t, t] })
    (e : TypeId) (i : TypeInfo) (z : Value) (size bytes : Nat) (ht : P.underlying t = some (.slice e)) (hi : P.info? e = some i) (hz : i.zero = some z)
    (hsize : i.size = size) (hby : i.bytes = bytes) (hzs : z.cells.size = size) (hsz : 0 < size)
    (k : Nat) (v : Value) (n : Nat) (xs : List Value) (hs : a.eval s = v) (H : St W S0 w l) (hk : l[k]? = some (rowA size v n xs))
    (y : Option Addr) (m c : Nat) (news : List Value) (hx : a.eval x = .slice y m c) (hl : news.length = m * size) (hr : Rd w y news) (hn0 : y = none → m = 0) (h1 : ∀ u ∈ news, u.oneCell' = true)
    (hsm : n + m ≤ 1000000000) (hbs : bytes ≤ 100000)
    (h : ∀ v' w', St W S0 w' (rowA size v' (n + m) (xs ++ news) :: l.eraseIdx k) → K (a.put o.dst v') w') :
    if Region.wanted o (yielded ops a.tmps) = true then Oper.wp P o a w K Q else E := by
  have hw : Region.wanted o (yielded ops a.tmps) = true := by simp [Region.wanted, hgd]
  rw [if_pos hw]
  have hb : (n + m) * bytes ≤ 1000000000 * 100000 := Nat.mul_le_mul hsm hbs
  have hown := H.row k hk
  cases y with
  | some ad =>
    obtain ⟨v', w', hrun, h2, h3, h4⟩ := run_app (P := P) 0 t o.type e i z size bytes ht hi hz hsize hby hzs hsz v n xs hown ad m c news hl (fun j u hu => by
      rcases hr with hr | ⟨g, off, e, hlt, hc⟩
      · subst hr; simp at hu
      · injection e with e
        subst e
        have := hc j u hu
        unfold Addr.add
        split
        · rename_i h0; subst h0; simpa using this
        · exact this) h1 (by unfold maxLen; omega) (by omega) (Nat.zero_le _)
    unfold Oper.wp execOp
    simp only [ho, resolve, invoke, builtin, Sem.run_bind, Sem.run_pure, Result.andThen_ok, List.map_toArray, List.map_cons, List.map_nil, hs, hx, hrun]
    exact h v' w' (H.app k hk h2 h3 h4)
  | none =>
    obtain rfl := hn0 rfl
    obtain rfl : news = [] := List.eq_nil_of_length_eq_zero (by simpa using hl)
    have hv : ∃ b cap, v = .slice b n cap ∧ n ≤ cap := by
      rcases hown.2 with ⟨rfl, rfl⟩ | ⟨g, off, cap, rfl, _, _, hnc, _⟩
      · exact ⟨none, 0, rfl, Nat.le_refl _⟩
      · exact ⟨_, cap, rfl, hnc⟩
    obtain ⟨b, cap, rfl, hnc⟩ := hv
    have hrun := run_app_nil (P := P) (w := w) t o.type e i ht hi b n cap c hnc
    unfold Oper.wp execOp
    simp only [ho, resolve, invoke, builtin, Sem.run_bind, Sem.run_pure, Result.andThen_ok, List.map_toArray, List.map_cons, List.map_nil, hs, hx, hrun]
    refine h _ w ?_
    have := H.front k hk
    simpa using this
end
end Go.Proofs.Ytljgmephajocaaa
