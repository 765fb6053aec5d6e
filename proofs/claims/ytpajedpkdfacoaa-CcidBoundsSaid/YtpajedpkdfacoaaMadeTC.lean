/- Drawn regions that end in one operation that waits for all others, among the worlds of which the same is known. -/
import Derived.Test.YtpajedpkdfacoaaMadeT
namespace Go.Proofs.Ytpajedpkdfacoaa
set_option linter.unusedSimpArgs false
set_option linter.unusedVariables false
open Go Go.RowKit
section
variable {P : Program} {Q : Exit → Act → World → Prop} {W w : World} {S0 : Nat → Prop} {l : List Asn}
theorem wp_region_toC {id : Nat} {a : Act} {ops : List Oper} (H : St W S0 w l) (t : Nat) (os : List Nat) (m : List Bool) (f : Nat) (listed : Array Bool) (hm : P.follows .mixedOrders = true)
    (hl : os.map (fun k => ops.toArray[k]?) = (pickB m ops).map some) (hc : (pickB m ops).all calmB = true) (hs : Region.noSelect ops.toArray = true) (hf : f + os.length + 1 = ops.length)
    (hB : (Region.quietB .any ops.toArray os (Array.replicate ops.length false) && Region.lastB .any ops.toArray t os) = true) (hd : setAll os (Array.replicate ops.length false) = listed)
    (hQ : ∀ c a a' w, a.defers = a'.defers → Q (.panic c) a w → Q (.panic c) a' w)
    (h : wpQuiet P ops.toArray (fun w' => ∃ s : Cls W S0 l, w' = s.it) (fun a' => wpTo P .any ops.toArray Q (fun w' => St W S0 w' l) t f listed a' w.drew) (pickB m ops) a) : (Code.region id ops.toArray true).wp P Q a w := by
  refine wp_region_any hm ?_
  subst hd
  rw [Bool.and_eq_true] at hB
  have H := to_quiet (P := P) (md := .any) (ops := ops.toArray) (Q := Q) (t := t) (S := fun w' => St W S0 w' l) (C := fun w' => ∃ s : Cls W S0 l, w' = s.it) (f := f) (w := w.drew) hs (fun w' hw' => ⟨⟨w', hw'⟩, rfl⟩) hQ H.drew os (pickB m ops) _ a hl hc hB.1 hB.2 h
  have := wpAny_of_to _ _ _ _ H
  rw [hf] at this
  simpa using this
end
end Go.Proofs.Ytpajedpkdfacoaa
