/-
  No cell of these rows narrows 'for every input' (looked for: loops, veiled, ifaces, maps, wideKeys, modest, calm, conditions, laid).
  DERIVED. THE GIVEN ROWS OF THIS SEAT. 11 by the template 'for every input the law returns true; each argument reads behind the call as it read before'; 0 by the template 'total and deterministic' (their statements: YtfdijoaclpnccaaTotals.lean).
  GIVEN WITH THE SEED: the statements are not yours to turn. If you find one false, say at which input.
  Laid BY PROGRAM, IN A SANDBOX (cutbox-rows.mjs): the forced cells as the released guide's own fill.sh prints them over the translation 0d0ff68e85fcf673… (all of the seat's roots in one cut). By AI agents, Wed Nov 11 2026. No macro, syntax, notation, axiom, sorry.
-/
import Derived.Test.YtfdijoaclpnccaaChecked
import GoSem.Claim
import GoSem.ClaimJoined
import GoSem.ClaimMapViews
import Derived.JoinedTies
import Derived.KernelRfl
namespace Go.Proofs.Ytfdijoaclpnccaa
/- THE CELL 'sum', in the pinned program and in every row, IS THE sha256 OF THE DUMP (.gsa) THAT YtfdijoaclpnccaaProg.lean LOADS. Nothing in Lean hashes anything: it is a label: what it is worth is what the hold of that sum in a sandbox is worth. -/
noncomputable def Try.pinned : Pinned := { name := "ytfdijoaclpnccaa", sum := "0d0ff68e85fcf6738ab1c8c0926c1f88b93d38c6496a25c10e2a87824fffd6b8", checked := Try.checked }
namespace Rows
def none {H : Type} : Left H := { results := [], args := [] }

/-- 'anabranchlaw37.NetDoes': WHATEVER THE INPUT: true; the input reads as it did. -/
def netDoesSpec : ChangeSpec := { name := "netDoes", fn := fun _ => fun
  | [d] => { results := [.lit (.bool true)], args := [d] }
  | _ => none }
def netDoesRow : OpenClaim := { program := "ytfdijoaclpnccaa", sum := "0d0ff68e85fcf6738ab1c8c0926c1f88b93d38c6496a25c10e2a87824fffd6b8", func := "anabranch/anabranchlaw37.NetDoes", spec := "netDoes", apart := false }
def NetDoesSaid : Prop := netDoesRow.holds Try.pinned (OpenSpec.ofChange netDoesSpec)

/-- ITS FALSE NEIGHBOUR: 'it returns false'. Refute it at one input. -/
def netDoesWrong : ChangeSpec := { name := "netDoes", fn := fun _ => fun
  | [d] => { results := [.lit (.bool false)], args := [d] }
  | _ => none }
def NetDoesWrongFalsely : Prop := netDoesRow.holds Try.pinned (OpenSpec.ofChange netDoesWrong)

/-- 'anabranchlaw37.NetTwice': WHATEVER THE INPUT: true; the input reads as it did. -/
def netTwiceSpec : ChangeSpec := { name := "netTwice", fn := fun _ => fun
  | [d1, d2] => { results := [.lit (.bool true)], args := [d1, d2] }
  | _ => none }
def netTwiceRow : OpenClaim := { program := "ytfdijoaclpnccaa", sum := "0d0ff68e85fcf6738ab1c8c0926c1f88b93d38c6496a25c10e2a87824fffd6b8", func := "anabranch/anabranchlaw37.NetTwice", spec := "netTwice", apart := false }
def NetTwiceSaid : Prop := netTwiceRow.holds Try.pinned (OpenSpec.ofChange netTwiceSpec)

/-- ITS FALSE NEIGHBOUR: 'it returns false'. Refute it at one input. -/
def netTwiceWrong : ChangeSpec := { name := "netTwice", fn := fun _ => fun
  | [d1, d2] => { results := [.lit (.bool false)], args := [d1, d2] }
  | _ => none }
def NetTwiceWrongFalsely : Prop := netTwiceRow.holds Try.pinned (OpenSpec.ofChange netTwiceWrong)

/-- 'anabranchlaw37.NetAll': WHATEVER THE INPUT: true; the input reads as it did. -/
def netAllSpec : ChangeSpec := { name := "netAll", fn := fun _ => fun
  | [d1, d2] => { results := [.lit (.bool true)], args := [d1, d2] }
  | _ => none }
def netAllRow : OpenClaim := { program := "ytfdijoaclpnccaa", sum := "0d0ff68e85fcf6738ab1c8c0926c1f88b93d38c6496a25c10e2a87824fffd6b8", func := "anabranch/anabranchlaw37.NetAll", spec := "netAll", unfollowed := true, recurses := true, apart := false }
def NetAllSaid : Prop := netAllRow.holds Try.pinned (OpenSpec.ofChange netAllSpec)

/-- ITS FALSE NEIGHBOUR: 'it returns false'. Refute it at one input. -/
def netAllWrong : ChangeSpec := { name := "netAll", fn := fun _ => fun
  | [d1, d2] => { results := [.lit (.bool false)], args := [d1, d2] }
  | _ => none }
def NetAllWrongFalsely : Prop := netAllRow.holds Try.pinned (OpenSpec.ofChange netAllWrong)

/-- 'anabranchlaw12.DockOrder': WHATEVER THE INPUT: true; the input reads as it did. -/
def dockOrderSpec : ChangeSpec := { name := "dockOrder", fn := fun _ => fun
  | [d] => { results := [.lit (.bool true)], args := [d] }
  | _ => none }
def dockOrderRow : OpenClaim := { program := "ytfdijoaclpnccaa", sum := "0d0ff68e85fcf6738ab1c8c0926c1f88b93d38c6496a25c10e2a87824fffd6b8", func := "anabranch/anabranchlaw12.DockOrder", spec := "dockOrder", unfollowed := true, recurses := true, apart := false }
def DockOrderSaid : Prop := dockOrderRow.holds Try.pinned (OpenSpec.ofChange dockOrderSpec)

/-- ITS FALSE NEIGHBOUR: 'it returns false'. Refute it at one input. -/
def dockOrderWrong : ChangeSpec := { name := "dockOrder", fn := fun _ => fun
  | [d] => { results := [.lit (.bool false)], args := [d] }
  | _ => none }
def DockOrderWrongFalsely : Prop := dockOrderRow.holds Try.pinned (OpenSpec.ofChange dockOrderWrong)

/-- 'anabranchlaw19.HeardTells': WHATEVER THE INPUT: true; the input reads as it did. -/
def heardTellsSpec : ChangeSpec := { name := "heardTells", fn := fun _ => fun
  | [d1, d2] => { results := [.lit (.bool true)], args := [d1, d2] }
  | _ => none }
def heardTellsRow : OpenClaim := { program := "ytfdijoaclpnccaa", sum := "0d0ff68e85fcf6738ab1c8c0926c1f88b93d38c6496a25c10e2a87824fffd6b8", func := "anabranch/anabranchlaw19.HeardTells", spec := "heardTells", apart := false }
def HeardTellsSaid : Prop := heardTellsRow.holds Try.pinned (OpenSpec.ofChange heardTellsSpec)

/-- ITS FALSE NEIGHBOUR: 'it returns false'. Refute it at one input. -/
def heardTellsWrong : ChangeSpec := { name := "heardTells", fn := fun _ => fun
  | [d1, d2] => { results := [.lit (.bool false)], args := [d1, d2] }
  | _ => none }
def HeardTellsWrongFalsely : Prop := heardTellsRow.holds Try.pinned (OpenSpec.ofChange heardTellsWrong)

/-- 'anabranchlaw08.AvecOf': WHATEVER THE INPUT: true; the input reads as it did. -/
def avecOfSpec : ChangeSpec := { name := "avecOf", fn := fun _ => fun
  | [d] => { results := [.lit (.bool true)], args := [d] }
  | _ => none }
def avecOfRow : OpenClaim := { program := "ytfdijoaclpnccaa", sum := "0d0ff68e85fcf6738ab1c8c0926c1f88b93d38c6496a25c10e2a87824fffd6b8", func := "anabranch/anabranchlaw08.AvecOf", spec := "avecOf", inPlace := ["internal/abi.NoEscape"], unfollowed := true, recurses := true, apart := false }
def AvecOfSaid : Prop := avecOfRow.holds Try.pinned (OpenSpec.ofChange avecOfSpec)

/-- ITS FALSE NEIGHBOUR: 'it returns false'. Refute it at one input. -/
def avecOfWrong : ChangeSpec := { name := "avecOf", fn := fun _ => fun
  | [d] => { results := [.lit (.bool false)], args := [d] }
  | _ => none }
def AvecOfWrongFalsely : Prop := avecOfRow.holds Try.pinned (OpenSpec.ofChange avecOfWrong)

/-- 'anabranchlaw08.AvecEach': WHATEVER THE INPUT: true; the input reads as it did. -/
def avecEachSpec : ChangeSpec := { name := "avecEach", fn := fun _ => fun
  | [d1, d2, d3, d4] => { results := [.lit (.bool true)], args := [d1, d2, d3, d4] }
  | _ => none }
def avecEachRow : OpenClaim := { program := "ytfdijoaclpnccaa", sum := "0d0ff68e85fcf6738ab1c8c0926c1f88b93d38c6496a25c10e2a87824fffd6b8", func := "anabranch/anabranchlaw08.AvecEach", spec := "avecEach", inPlace := ["internal/abi.NoEscape"], unfollowed := true, recurses := true, apart := false }
def AvecEachSaid : Prop := avecEachRow.holds Try.pinned (OpenSpec.ofChange avecEachSpec)

/-- ITS FALSE NEIGHBOUR: 'it returns false'. Refute it at one input. -/
def avecEachWrong : ChangeSpec := { name := "avecEach", fn := fun _ => fun
  | [d1, d2, d3, d4] => { results := [.lit (.bool false)], args := [d1, d2, d3, d4] }
  | _ => none }
def AvecEachWrongFalsely : Prop := avecEachRow.holds Try.pinned (OpenSpec.ofChange avecEachWrong)

/-- 'anabranchlaw12.DockSweeps': WHATEVER THE INPUT: true; the input reads as it did. -/
def dockSweepsSpec : ChangeSpec := { name := "dockSweeps", fn := fun _ => fun
  | [d1, d2, d3] => { results := [.lit (.bool true)], args := [d1, d2, d3] }
  | _ => none }
def dockSweepsRow : OpenClaim := { program := "ytfdijoaclpnccaa", sum := "0d0ff68e85fcf6738ab1c8c0926c1f88b93d38c6496a25c10e2a87824fffd6b8", func := "anabranch/anabranchlaw12.DockSweeps", spec := "dockSweeps", unfollowed := true, recurses := true, apart := false }
def DockSweepsSaid : Prop := dockSweepsRow.holds Try.pinned (OpenSpec.ofChange dockSweepsSpec)

/-- ITS FALSE NEIGHBOUR: 'it returns false'. Refute it at one input. -/
def dockSweepsWrong : ChangeSpec := { name := "dockSweeps", fn := fun _ => fun
  | [d1, d2, d3] => { results := [.lit (.bool false)], args := [d1, d2, d3] }
  | _ => none }
def DockSweepsWrongFalsely : Prop := dockSweepsRow.holds Try.pinned (OpenSpec.ofChange dockSweepsWrong)

/-- 'anabranchlaw08.AvecCodes': WHATEVER THE INPUT: true; the input reads as it did. -/
def avecCodesSpec : ChangeSpec := { name := "avecCodes", fn := fun _ => fun
  | [d1, d2] => { results := [.lit (.bool true)], args := [d1, d2] }
  | _ => none }
def avecCodesRow : OpenClaim := { program := "ytfdijoaclpnccaa", sum := "0d0ff68e85fcf6738ab1c8c0926c1f88b93d38c6496a25c10e2a87824fffd6b8", func := "anabranch/anabranchlaw08.AvecCodes", spec := "avecCodes", inPlace := ["internal/abi.NoEscape"], unfollowed := true, recurses := true, apart := false }
def AvecCodesSaid : Prop := avecCodesRow.holds Try.pinned (OpenSpec.ofChange avecCodesSpec)

/-- ITS FALSE NEIGHBOUR: 'it returns false'. Refute it at one input. -/
def avecCodesWrong : ChangeSpec := { name := "avecCodes", fn := fun _ => fun
  | [d1, d2] => { results := [.lit (.bool false)], args := [d1, d2] }
  | _ => none }
def AvecCodesWrongFalsely : Prop := avecCodesRow.holds Try.pinned (OpenSpec.ofChange avecCodesWrong)

/-- 'anabranchlaw12.DockDoes': WHATEVER THE INPUT: true; the input reads as it did. -/
def dockDoesSpec : ChangeSpec := { name := "dockDoes", fn := fun _ => fun
  | [d1, d2, d3] => { results := [.lit (.bool true)], args := [d1, d2, d3] }
  | _ => none }
def dockDoesRow : OpenClaim := { program := "ytfdijoaclpnccaa", sum := "0d0ff68e85fcf6738ab1c8c0926c1f88b93d38c6496a25c10e2a87824fffd6b8", func := "anabranch/anabranchlaw12.DockDoes", spec := "dockDoes", inPlace := ["slices.overlaps[int]"], unfollowed := true, recurses := true, apart := false }
def DockDoesSaid : Prop := dockDoesRow.holds Try.pinned (OpenSpec.ofChange dockDoesSpec)

/-- ITS FALSE NEIGHBOUR: 'it returns false'. Refute it at one input. -/
def dockDoesWrong : ChangeSpec := { name := "dockDoes", fn := fun _ => fun
  | [d1, d2, d3] => { results := [.lit (.bool false)], args := [d1, d2, d3] }
  | _ => none }
def DockDoesWrongFalsely : Prop := dockDoesRow.holds Try.pinned (OpenSpec.ofChange dockDoesWrong)

/-- 'anabranchlaw12.DockNone': WHATEVER THE INPUT: true; the input reads as it did. -/
def dockNoneSpec : ChangeSpec := { name := "dockNone", fn := fun _ => fun
  | [d] => { results := [.lit (.bool true)], args := [d] }
  | _ => none }
def dockNoneRow : OpenClaim := { program := "ytfdijoaclpnccaa", sum := "0d0ff68e85fcf6738ab1c8c0926c1f88b93d38c6496a25c10e2a87824fffd6b8", func := "anabranch/anabranchlaw12.DockNone", spec := "dockNone", inPlace := ["slices.overlaps[int]"], unfollowed := true, recurses := true, apart := false }
def DockNoneSaid : Prop := dockNoneRow.holds Try.pinned (OpenSpec.ofChange dockNoneSpec)

/-- ITS FALSE NEIGHBOUR: 'it returns false'. Refute it at one input. -/
def dockNoneWrong : ChangeSpec := { name := "dockNone", fn := fun _ => fun
  | [d] => { results := [.lit (.bool false)], args := [d] }
  | _ => none }
def DockNoneWrongFalsely : Prop := dockNoneRow.holds Try.pinned (OpenSpec.ofChange dockNoneWrong)

/- THE SECOND FORM. 'bulk': how many values and letters a reading holds, each counted each time it is reached (what is shared counts as often as it is met; a slice's spare places count too). A statement '..UptoSaid' is the law's where the arguments, and the package variables that the reading takes, are together of bulk at most 1048576: NARROWER than '..Said'. Prove '..Said' where nothing that the law and all that it calls make is longer than what came in: it says more and counts as full. Else prove '..UptoSaid'. A law counts once. -/
mutual
def uptoBulk {H : Type} : DataW H → Nat
  | .lit (.string bytes) => bytes.length + 1
  | .lit _ => 1
  | .nil => 1
  | .ptr d => uptoBulk d + 1
  | .slice elems spare => uptoBulkAll elems + uptoBulkAll spare + 1
  | .agg parts => uptoBulkAll parts + 1
  | .iface _ d => uptoBulk d + 1
  | .map entries => uptoBulkEntries entries + 1
  | .held _ => 1
def uptoBulkAll {H : Type} : List (DataW H) → Nat
  | [] => 0
  | d :: r => uptoBulk d + uptoBulkAll r
def uptoBulkEntries {H : Type} : List (Lit × DataW H) → Nat
  | [] => 0
  | x :: r => uptoBulkEntry x + uptoBulkEntries r
def uptoBulkEntry {H : Type} : Lit × DataW H → Nat
  | (.string bytes, d) => bytes.length + uptoBulk d + 1
  | (_, d) => uptoBulk d + 1
 end
def uptoSmall : (H : Type) → List (DataW H) → Bool := fun _ ds => decide (uptoBulkAll ds ≤ 1048576)
def OpenSpec.upto (s : _root_.Go.ChangeSpec) : _root_.Go.OpenSpec := { _root_.Go.OpenSpec.ofChange s with cond := some uptoSmall }

/-- 'anabranchlaw37.NetDoes', WHERE WHAT IT READS IS OF BULK AT MOST 1048576: true; the input reads as it did. -/
def netDoesUptoRow : OpenClaim := { program := "ytfdijoaclpnccaa", sum := "0d0ff68e85fcf6738ab1c8c0926c1f88b93d38c6496a25c10e2a87824fffd6b8", func := "anabranch/anabranchlaw37.NetDoes", spec := "netDoes", apart := false, narrowed := true }
def NetDoesUptoSaid : Prop := netDoesUptoRow.holds Try.pinned (OpenSpec.upto netDoesSpec)

/-- 'anabranchlaw37.NetTwice', WHERE WHAT IT READS IS OF BULK AT MOST 1048576: true; the input reads as it did. -/
def netTwiceUptoRow : OpenClaim := { program := "ytfdijoaclpnccaa", sum := "0d0ff68e85fcf6738ab1c8c0926c1f88b93d38c6496a25c10e2a87824fffd6b8", func := "anabranch/anabranchlaw37.NetTwice", spec := "netTwice", apart := false, narrowed := true }
def NetTwiceUptoSaid : Prop := netTwiceUptoRow.holds Try.pinned (OpenSpec.upto netTwiceSpec)

/-- 'anabranchlaw37.NetAll', WHERE WHAT IT READS IS OF BULK AT MOST 1048576: true; the input reads as it did. -/
def netAllUptoRow : OpenClaim := { program := "ytfdijoaclpnccaa", sum := "0d0ff68e85fcf6738ab1c8c0926c1f88b93d38c6496a25c10e2a87824fffd6b8", func := "anabranch/anabranchlaw37.NetAll", spec := "netAll", unfollowed := true, recurses := true, apart := false, narrowed := true }
def NetAllUptoSaid : Prop := netAllUptoRow.holds Try.pinned (OpenSpec.upto netAllSpec)

/-- 'anabranchlaw12.DockOrder', WHERE WHAT IT READS IS OF BULK AT MOST 1048576: true; the input reads as it did. -/
def dockOrderUptoRow : OpenClaim := { program := "ytfdijoaclpnccaa", sum := "0d0ff68e85fcf6738ab1c8c0926c1f88b93d38c6496a25c10e2a87824fffd6b8", func := "anabranch/anabranchlaw12.DockOrder", spec := "dockOrder", unfollowed := true, recurses := true, apart := false, narrowed := true }
def DockOrderUptoSaid : Prop := dockOrderUptoRow.holds Try.pinned (OpenSpec.upto dockOrderSpec)

/-- 'anabranchlaw19.HeardTells', WHERE WHAT IT READS IS OF BULK AT MOST 1048576: true; the input reads as it did. -/
def heardTellsUptoRow : OpenClaim := { program := "ytfdijoaclpnccaa", sum := "0d0ff68e85fcf6738ab1c8c0926c1f88b93d38c6496a25c10e2a87824fffd6b8", func := "anabranch/anabranchlaw19.HeardTells", spec := "heardTells", apart := false, narrowed := true }
def HeardTellsUptoSaid : Prop := heardTellsUptoRow.holds Try.pinned (OpenSpec.upto heardTellsSpec)

/-- 'anabranchlaw08.AvecOf', WHERE WHAT IT READS IS OF BULK AT MOST 1048576: true; the input reads as it did. -/
def avecOfUptoRow : OpenClaim := { program := "ytfdijoaclpnccaa", sum := "0d0ff68e85fcf6738ab1c8c0926c1f88b93d38c6496a25c10e2a87824fffd6b8", func := "anabranch/anabranchlaw08.AvecOf", spec := "avecOf", inPlace := ["internal/abi.NoEscape"], unfollowed := true, recurses := true, apart := false, narrowed := true }
def AvecOfUptoSaid : Prop := avecOfUptoRow.holds Try.pinned (OpenSpec.upto avecOfSpec)

/-- 'anabranchlaw08.AvecEach', WHERE WHAT IT READS IS OF BULK AT MOST 1048576: true; the input reads as it did. -/
def avecEachUptoRow : OpenClaim := { program := "ytfdijoaclpnccaa", sum := "0d0ff68e85fcf6738ab1c8c0926c1f88b93d38c6496a25c10e2a87824fffd6b8", func := "anabranch/anabranchlaw08.AvecEach", spec := "avecEach", inPlace := ["internal/abi.NoEscape"], unfollowed := true, recurses := true, apart := false, narrowed := true }
def AvecEachUptoSaid : Prop := avecEachUptoRow.holds Try.pinned (OpenSpec.upto avecEachSpec)

/-- 'anabranchlaw12.DockSweeps', WHERE WHAT IT READS IS OF BULK AT MOST 1048576: true; the input reads as it did. -/
def dockSweepsUptoRow : OpenClaim := { program := "ytfdijoaclpnccaa", sum := "0d0ff68e85fcf6738ab1c8c0926c1f88b93d38c6496a25c10e2a87824fffd6b8", func := "anabranch/anabranchlaw12.DockSweeps", spec := "dockSweeps", unfollowed := true, recurses := true, apart := false, narrowed := true }
def DockSweepsUptoSaid : Prop := dockSweepsUptoRow.holds Try.pinned (OpenSpec.upto dockSweepsSpec)

/-- 'anabranchlaw08.AvecCodes', WHERE WHAT IT READS IS OF BULK AT MOST 1048576: true; the input reads as it did. -/
def avecCodesUptoRow : OpenClaim := { program := "ytfdijoaclpnccaa", sum := "0d0ff68e85fcf6738ab1c8c0926c1f88b93d38c6496a25c10e2a87824fffd6b8", func := "anabranch/anabranchlaw08.AvecCodes", spec := "avecCodes", inPlace := ["internal/abi.NoEscape"], unfollowed := true, recurses := true, apart := false, narrowed := true }
def AvecCodesUptoSaid : Prop := avecCodesUptoRow.holds Try.pinned (OpenSpec.upto avecCodesSpec)

/-- 'anabranchlaw12.DockDoes', WHERE WHAT IT READS IS OF BULK AT MOST 1048576: true; the input reads as it did. -/
def dockDoesUptoRow : OpenClaim := { program := "ytfdijoaclpnccaa", sum := "0d0ff68e85fcf6738ab1c8c0926c1f88b93d38c6496a25c10e2a87824fffd6b8", func := "anabranch/anabranchlaw12.DockDoes", spec := "dockDoes", inPlace := ["slices.overlaps[int]"], unfollowed := true, recurses := true, apart := false, narrowed := true }
def DockDoesUptoSaid : Prop := dockDoesUptoRow.holds Try.pinned (OpenSpec.upto dockDoesSpec)

/-- 'anabranchlaw12.DockNone', WHERE WHAT IT READS IS OF BULK AT MOST 1048576: true; the input reads as it did. -/
def dockNoneUptoRow : OpenClaim := { program := "ytfdijoaclpnccaa", sum := "0d0ff68e85fcf6738ab1c8c0926c1f88b93d38c6496a25c10e2a87824fffd6b8", func := "anabranch/anabranchlaw12.DockNone", spec := "dockNone", inPlace := ["slices.overlaps[int]"], unfollowed := true, recurses := true, apart := false, narrowed := true }
def DockNoneUptoSaid : Prop := dockNoneUptoRow.holds Try.pinned (OpenSpec.upto dockNoneSpec)

end Rows
end Go.Proofs.Ytfdijoaclpnccaa
