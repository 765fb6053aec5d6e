/- What avec.At needs, where the rest of the package is not there. -/
import Derived.Test.YtpajedpkdfacoaaAvec
namespace Go.Proofs.Ytpajedpkdfacoaa.Avec
set_option linter.unusedSimpArgs false
set_option linter.unusedVariables false
open Go Go.RowKit Go.Proofs.Ytpajedpkdfacoaa
def statesL (R : List Run) : List Int := R.flatMap fun r => List.replicate (heldI r.many).toNat r.state
theorem states_take {l : List Run} {j : Nat} (h : j < l.length) : statesL (l.take (j + 1)) = statesL (l.take j) ++ List.replicate (heldI l[j].many).toNat l[j].state := by
  unfold statesL
  rw [List.take_succ_eq_append_getElem h, List.flatMap_append]
  simp
theorem states_len (l : List Run) : (statesL l).length ≤ 64 * l.length := by
  induction l with
  | nil => simp [statesL]
  | cons r l ih =>
    have := held_bd r.many
    simp only [statesL, List.flatMap_cons, List.length_append, List.length_replicate, List.length_cons] at ih ⊢
    omega
end Go.Proofs.Ytpajedpkdfacoaa.Avec
