/-
  No cell of these rows narrows 'for every input' (looked for: loops, veiled, ifaces, maps, wideKeys, modest, calm, conditions, laid).
  DERIVED. THE GIVEN ROWS OF THIS SEAT. 3 by the template 'for every input the law returns true; each argument reads behind the call as it read before'; 0 by the template 'total and deterministic' (their statements: YtpajedpkdfacoaaTotals.lean).
  GIVEN WITH THE SEED: the statements are not yours to turn. If you find one false, say at which input.
  Laid BY PROGRAM, IN A SANDBOX (cutbox-rows.mjs): the forced cells as the released guide's own fill.sh prints them over the translation 2094e2f7775145fb… (all of the seat's roots in one cut). By AI agents, Wed Nov 11 2026. No macro, syntax, notation, axiom, sorry.
-/
import Derived.Test.YtpajedpkdfacoaaChecked
import GoSem.Claim
import GoSem.ClaimJoined
import GoSem.ClaimMapViews
import Derived.JoinedTies
import Derived.KernelRfl
namespace Go.Proofs.Ytpajedpkdfacoaa
/- THE CELL 'sum', in the pinned program and in every row, IS THE sha256 OF THE DUMP (.gsa) THAT YtpajedpkdfacoaaProg.lean LOADS. Nothing in Lean hashes anything: it is a label: what it is worth is what the hold of that sum in a sandbox is worth. -/
noncomputable def Try.pinned : Pinned := { name := "ytpajedpkdfacoaa", sum := "2094e2f7775145fb31604e58ce020265d0e7fb4bf685779b947075180201bcfb", checked := Try.checked }
namespace Rows
def none {H : Type} : Left H := { results := [], args := [] }

/-- 'anabranchlaw11.MpoptPuts': WHATEVER THE INPUT: true; the input reads as it did. -/
def mpoptPutsSpec : ChangeSpec := { name := "mpoptPuts", fn := fun _ => fun
  | [d] => { results := [.lit (.bool true)], args := [d] }
  | _ => none }
def mpoptPutsRow : OpenClaim := { program := "ytpajedpkdfacoaa", sum := "2094e2f7775145fb31604e58ce020265d0e7fb4bf685779b947075180201bcfb", func := "anabranch/anabranchlaw11.MpoptPuts", spec := "mpoptPuts", unfollowed := true, recurses := true, apart := false }
def MpoptPutsSaid : Prop := mpoptPutsRow.holds Try.pinned (OpenSpec.ofChange mpoptPutsSpec)

/-- ITS FALSE NEIGHBOUR: 'it returns false'. Refute it at one input. -/
def mpoptPutsWrong : ChangeSpec := { name := "mpoptPuts", fn := fun _ => fun
  | [d] => { results := [.lit (.bool false)], args := [d] }
  | _ => none }
def MpoptPutsWrongFalsely : Prop := mpoptPutsRow.holds Try.pinned (OpenSpec.ofChange mpoptPutsWrong)

/-- 'anabranchlaw11.MpoptLists': WHATEVER THE INPUT: true; the input reads as it did. -/
def mpoptListsSpec : ChangeSpec := { name := "mpoptLists", fn := fun _ => fun
  | [d1, d2, d3] => { results := [.lit (.bool true)], args := [d1, d2, d3] }
  | _ => none }
def mpoptListsRow : OpenClaim := { program := "ytpajedpkdfacoaa", sum := "2094e2f7775145fb31604e58ce020265d0e7fb4bf685779b947075180201bcfb", func := "anabranch/anabranchlaw11.MpoptLists", spec := "mpoptLists", unfollowed := true, recurses := true, apart := false }
def MpoptListsSaid : Prop := mpoptListsRow.holds Try.pinned (OpenSpec.ofChange mpoptListsSpec)

/-- ITS FALSE NEIGHBOUR: 'it returns false'. Refute it at one input. -/
def mpoptListsWrong : ChangeSpec := { name := "mpoptLists", fn := fun _ => fun
  | [d1, d2, d3] => { results := [.lit (.bool false)], args := [d1, d2, d3] }
  | _ => none }
def MpoptListsWrongFalsely : Prop := mpoptListsRow.holds Try.pinned (OpenSpec.ofChange mpoptListsWrong)

/-- 'anabranchlaw23.CcidBounds': WHATEVER THE INPUT: true; the input reads as it did. -/
def ccidBoundsSpec : ChangeSpec := { name := "ccidBounds", fn := fun _ => fun
  | [d1, d2] => { results := [.lit (.bool true)], args := [d1, d2] }
  | _ => none }
def ccidBoundsRow : OpenClaim := { program := "ytpajedpkdfacoaa", sum := "2094e2f7775145fb31604e58ce020265d0e7fb4bf685779b947075180201bcfb", func := "anabranch/anabranchlaw23.CcidBounds", spec := "ccidBounds", unfollowed := true, recurses := true, apart := false }
def CcidBoundsSaid : Prop := ccidBoundsRow.holds Try.pinned (OpenSpec.ofChange ccidBoundsSpec)

/-- ITS FALSE NEIGHBOUR: 'it returns false'. Refute it at one input. -/
def ccidBoundsWrong : ChangeSpec := { name := "ccidBounds", fn := fun _ => fun
  | [d1, d2] => { results := [.lit (.bool false)], args := [d1, d2] }
  | _ => none }
def CcidBoundsWrongFalsely : Prop := ccidBoundsRow.holds Try.pinned (OpenSpec.ofChange ccidBoundsWrong)

/- THE SECOND FORM. 'bulk': how many values and letters a reading holds, each counted each time it is reached (what is shared counts as often as it is met; a slice's spare places count too). A statement '..UptoSaid' is the law's where the arguments, and the package variables that the reading takes, are together of bulk at most 1048576: NARROWER than '..Said'. Prove '..Said' where nothing that the law and all that it calls make is longer than what came in: it says more and counts as full. Else prove '..UptoSaid'. A law counts once. -/
mutual
def uptoBulk {H : Type} : DataW H → Nat
  | .lit (.string bytes) => bytes.length + 1
  | .lit _ => 1
  | .nil => 1
  | .ptr d => uptoBulk d + 1
  | .slice elems spare => uptoBulkAll elems + uptoBulkAll spare + 1
  | .agg parts => uptoBulkAll parts + 1
  | .iface _ d => uptoBulk d + 1
  | .map entries => uptoBulkEntries entries + 1
  | .held _ => 1
def uptoBulkAll {H : Type} : List (DataW H) → Nat
  | [] => 0
  | d :: r => uptoBulk d + uptoBulkAll r
def uptoBulkEntries {H : Type} : List (Lit × DataW H) → Nat
  | [] => 0
  | x :: r => uptoBulkEntry x + uptoBulkEntries r
def uptoBulkEntry {H : Type} : Lit × DataW H → Nat
  | (.string bytes, d) => bytes.length + uptoBulk d + 1
  | (_, d) => uptoBulk d + 1
 end
def uptoSmall : (H : Type) → List (DataW H) → Bool := fun _ ds => decide (uptoBulkAll ds ≤ 1048576)
def OpenSpec.upto (s : _root_.Go.ChangeSpec) : _root_.Go.OpenSpec := { _root_.Go.OpenSpec.ofChange s with cond := some uptoSmall }

/-- 'anabranchlaw11.MpoptPuts', WHERE WHAT IT READS IS OF BULK AT MOST 1048576: true; the input reads as it did. -/
def mpoptPutsUptoRow : OpenClaim := { program := "ytpajedpkdfacoaa", sum := "2094e2f7775145fb31604e58ce020265d0e7fb4bf685779b947075180201bcfb", func := "anabranch/anabranchlaw11.MpoptPuts", spec := "mpoptPuts", unfollowed := true, recurses := true, apart := false, narrowed := true }
def MpoptPutsUptoSaid : Prop := mpoptPutsUptoRow.holds Try.pinned (OpenSpec.upto mpoptPutsSpec)

/-- 'anabranchlaw11.MpoptLists', WHERE WHAT IT READS IS OF BULK AT MOST 1048576: true; the input reads as it did. -/
def mpoptListsUptoRow : OpenClaim := { program := "ytpajedpkdfacoaa", sum := "2094e2f7775145fb31604e58ce020265d0e7fb4bf685779b947075180201bcfb", func := "anabranch/anabranchlaw11.MpoptLists", spec := "mpoptLists", unfollowed := true, recurses := true, apart := false, narrowed := true }
def MpoptListsUptoSaid : Prop := mpoptListsUptoRow.holds Try.pinned (OpenSpec.upto mpoptListsSpec)

/-- 'anabranchlaw23.CcidBounds', WHERE WHAT IT READS IS OF BULK AT MOST 1048576: true; the input reads as it did. -/
def ccidBoundsUptoRow : OpenClaim := { program := "ytpajedpkdfacoaa", sum := "2094e2f7775145fb31604e58ce020265d0e7fb4bf685779b947075180201bcfb", func := "anabranch/anabranchlaw23.CcidBounds", spec := "ccidBounds", unfollowed := true, recurses := true, apart := false, narrowed := true }
def CcidBoundsUptoSaid : Prop := ccidBoundsUptoRow.holds Try.pinned (OpenSpec.upto ccidBoundsSpec)

end Rows
end Go.Proofs.Ytpajedpkdfacoaa
