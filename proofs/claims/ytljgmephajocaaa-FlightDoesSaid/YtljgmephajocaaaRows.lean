/-
  No cell of these rows narrows 'for every input' (looked for: loops, veiled, ifaces, maps, wideKeys, modest, calm, conditions, laid).
  DERIVED. THE GIVEN ROWS OF THIS SEAT. 12 by the template 'for every input the law returns true; each argument reads behind the call as it read before'; 0 by the template 'total and deterministic' (their statements: YtljgmephajocaaaTotals.lean).
  GIVEN WITH THE SEED: the statements are not yours to turn. If you find one false, say at which input.
  Laid BY PROGRAM, IN A SANDBOX (cutbox-rows.mjs): the forced cells as the released guide's own fill.sh prints them over the translation cabaca1d4c21ffa1… (all of the seat's roots in one cut). By AI agents, Wed Nov 11 2026. No macro, syntax, notation, axiom, sorry.
-/
import Derived.Test.YtljgmephajocaaaChecked
import GoSem.Claim
import GoSem.ClaimJoined
import GoSem.ClaimMapViews
import Derived.JoinedTies
import Derived.KernelRfl
namespace Go.Proofs.Ytljgmephajocaaa
/- THE CELL 'sum', in the pinned program and in every row, IS THE sha256 OF THE DUMP (.gsa) THAT YtljgmephajocaaaProg.lean LOADS. Nothing in Lean hashes anything: it is a label: what it is worth is what the hold of that sum in a sandbox is worth. -/
noncomputable def Try.pinned : Pinned := { name := "ytljgmephajocaaa", sum := "cabaca1d4c21ffa1720e2b1c0c754cf0421ad2c04c117d1e0dc506fb643bd3ba", checked := Try.checked }
namespace Rows
def none {H : Type} : Left H := { results := [], args := [] }

/-- 'anabranchlaw28.ControlDoes': WHATEVER THE INPUT: true; the input reads as it did. -/
def controlDoesSpec : ChangeSpec := { name := "controlDoes", fn := fun _ => fun
  | [d] => { results := [.lit (.bool true)], args := [d] }
  | _ => none }
def controlDoesRow : OpenClaim := { program := "ytljgmephajocaaa", sum := "cabaca1d4c21ffa1720e2b1c0c754cf0421ad2c04c117d1e0dc506fb643bd3ba", func := "anabranch/anabranchlaw28.ControlDoes", spec := "controlDoes", apart := false }
def ControlDoesSaid : Prop := controlDoesRow.holds Try.pinned (OpenSpec.ofChange controlDoesSpec)

/-- ITS FALSE NEIGHBOUR: 'it returns false'. Refute it at one input. -/
def controlDoesWrong : ChangeSpec := { name := "controlDoes", fn := fun _ => fun
  | [d] => { results := [.lit (.bool false)], args := [d] }
  | _ => none }
def ControlDoesWrongFalsely : Prop := controlDoesRow.holds Try.pinned (OpenSpec.ofChange controlDoesWrong)

/-- 'anabranchlaw28.ControlOnce': WHATEVER THE INPUT: true; the input reads as it did. -/
def controlOnceSpec : ChangeSpec := { name := "controlOnce", fn := fun _ => fun
  | [d] => { results := [.lit (.bool true)], args := [d] }
  | _ => none }
def controlOnceRow : OpenClaim := { program := "ytljgmephajocaaa", sum := "cabaca1d4c21ffa1720e2b1c0c754cf0421ad2c04c117d1e0dc506fb643bd3ba", func := "anabranch/anabranchlaw28.ControlOnce", spec := "controlOnce", apart := false }
def ControlOnceSaid : Prop := controlOnceRow.holds Try.pinned (OpenSpec.ofChange controlOnceSpec)

/-- ITS FALSE NEIGHBOUR: 'it returns false'. Refute it at one input. -/
def controlOnceWrong : ChangeSpec := { name := "controlOnce", fn := fun _ => fun
  | [d] => { results := [.lit (.bool false)], args := [d] }
  | _ => none }
def ControlOnceWrongFalsely : Prop := controlOnceRow.holds Try.pinned (OpenSpec.ofChange controlOnceWrong)

/-- 'anabranchlaw20.FlightOnce': WHATEVER THE INPUT: true; the input reads as it did. -/
def flightOnceSpec : ChangeSpec := { name := "flightOnce", fn := fun _ => fun
  | [d] => { results := [.lit (.bool true)], args := [d] }
  | _ => none }
def flightOnceRow : OpenClaim := { program := "ytljgmephajocaaa", sum := "cabaca1d4c21ffa1720e2b1c0c754cf0421ad2c04c117d1e0dc506fb643bd3ba", func := "anabranch/anabranchlaw20.FlightOnce", spec := "flightOnce", unfollowed := true, recurses := true, apart := false }
def FlightOnceSaid : Prop := flightOnceRow.holds Try.pinned (OpenSpec.ofChange flightOnceSpec)

/-- ITS FALSE NEIGHBOUR: 'it returns false'. Refute it at one input. -/
def flightOnceWrong : ChangeSpec := { name := "flightOnce", fn := fun _ => fun
  | [d] => { results := [.lit (.bool false)], args := [d] }
  | _ => none }
def FlightOnceWrongFalsely : Prop := flightOnceRow.holds Try.pinned (OpenSpec.ofChange flightOnceWrong)

/-- 'anabranchlaw07.OptsBack': WHATEVER THE INPUT: true; the input reads as it did. -/
def optsBackSpec : ChangeSpec := { name := "optsBack", fn := fun _ => fun
  | [d1, d2] => { results := [.lit (.bool true)], args := [d1, d2] }
  | _ => none }
def optsBackRow : OpenClaim := { program := "ytljgmephajocaaa", sum := "cabaca1d4c21ffa1720e2b1c0c754cf0421ad2c04c117d1e0dc506fb643bd3ba", func := "anabranch/anabranchlaw07.OptsBack", spec := "optsBack", inPlace := ["internal/abi.NoEscape"], unfollowed := true, recurses := true, apart := false }
def OptsBackSaid : Prop := optsBackRow.holds Try.pinned (OpenSpec.ofChange optsBackSpec)

/-- ITS FALSE NEIGHBOUR: 'it returns false'. Refute it at one input. -/
def optsBackWrong : ChangeSpec := { name := "optsBack", fn := fun _ => fun
  | [d1, d2] => { results := [.lit (.bool false)], args := [d1, d2] }
  | _ => none }
def OptsBackWrongFalsely : Prop := optsBackRow.holds Try.pinned (OpenSpec.ofChange optsBackWrong)

/-- 'anabranchlaw07.OptsGet': WHATEVER THE INPUT: true; the input reads as it did. -/
def optsGetSpec : ChangeSpec := { name := "optsGet", fn := fun _ => fun
  | [d1, d2] => { results := [.lit (.bool true)], args := [d1, d2] }
  | _ => none }
def optsGetRow : OpenClaim := { program := "ytljgmephajocaaa", sum := "cabaca1d4c21ffa1720e2b1c0c754cf0421ad2c04c117d1e0dc506fb643bd3ba", func := "anabranch/anabranchlaw07.OptsGet", spec := "optsGet", inPlace := ["internal/abi.NoEscape"], unfollowed := true, recurses := true, apart := false }
def OptsGetSaid : Prop := optsGetRow.holds Try.pinned (OpenSpec.ofChange optsGetSpec)

/-- ITS FALSE NEIGHBOUR: 'it returns false'. Refute it at one input. -/
def optsGetWrong : ChangeSpec := { name := "optsGet", fn := fun _ => fun
  | [d1, d2] => { results := [.lit (.bool false)], args := [d1, d2] }
  | _ => none }
def OptsGetWrongFalsely : Prop := optsGetRow.holds Try.pinned (OpenSpec.ofChange optsGetWrong)

/-- 'anabranchlaw20.FlightDoes': WHATEVER THE INPUT: true; the input reads as it did. -/
def flightDoesSpec : ChangeSpec := { name := "flightDoes", fn := fun _ => fun
  | [d] => { results := [.lit (.bool true)], args := [d] }
  | _ => none }
def flightDoesRow : OpenClaim := { program := "ytljgmephajocaaa", sum := "cabaca1d4c21ffa1720e2b1c0c754cf0421ad2c04c117d1e0dc506fb643bd3ba", func := "anabranch/anabranchlaw20.FlightDoes", spec := "flightDoes", unfollowed := true, recurses := true, apart := false }
def FlightDoesSaid : Prop := flightDoesRow.holds Try.pinned (OpenSpec.ofChange flightDoesSpec)

/-- ITS FALSE NEIGHBOUR: 'it returns false'. Refute it at one input. -/
def flightDoesWrong : ChangeSpec := { name := "flightDoes", fn := fun _ => fun
  | [d] => { results := [.lit (.bool false)], args := [d] }
  | _ => none }
def FlightDoesWrongFalsely : Prop := flightDoesRow.holds Try.pinned (OpenSpec.ofChange flightDoesWrong)

/-- 'anabranchlaw15.FeatCodes': WHATEVER THE INPUT: true; the input reads as it did. -/
def featCodesSpec : ChangeSpec := { name := "featCodes", fn := fun _ => fun
  | [d1, d2, d3, d4] => { results := [.lit (.bool true)], args := [d1, d2, d3, d4] }
  | _ => none }
def featCodesRow : OpenClaim := { program := "ytljgmephajocaaa", sum := "cabaca1d4c21ffa1720e2b1c0c754cf0421ad2c04c117d1e0dc506fb643bd3ba", func := "anabranch/anabranchlaw15.FeatCodes", spec := "featCodes", unfollowed := true, recurses := true, apart := false }
def FeatCodesSaid : Prop := featCodesRow.holds Try.pinned (OpenSpec.ofChange featCodesSpec)

/-- ITS FALSE NEIGHBOUR: 'it returns false'. Refute it at one input. -/
def featCodesWrong : ChangeSpec := { name := "featCodes", fn := fun _ => fun
  | [d1, d2, d3, d4] => { results := [.lit (.bool false)], args := [d1, d2, d3, d4] }
  | _ => none }
def FeatCodesWrongFalsely : Prop := featCodesRow.holds Try.pinned (OpenSpec.ofChange featCodesWrong)

/-- 'anabranchlaw15.FeatBoth': WHATEVER THE INPUT: true; the input reads as it did. -/
def featBothSpec : ChangeSpec := { name := "featBoth", fn := fun _ => fun
  | [d1, d2] => { results := [.lit (.bool true)], args := [d1, d2] }
  | _ => none }
def featBothRow : OpenClaim := { program := "ytljgmephajocaaa", sum := "cabaca1d4c21ffa1720e2b1c0c754cf0421ad2c04c117d1e0dc506fb643bd3ba", func := "anabranch/anabranchlaw15.FeatBoth", spec := "featBoth", unfollowed := true, recurses := true, apart := false }
def FeatBothSaid : Prop := featBothRow.holds Try.pinned (OpenSpec.ofChange featBothSpec)

/-- ITS FALSE NEIGHBOUR: 'it returns false'. Refute it at one input. -/
def featBothWrong : ChangeSpec := { name := "featBoth", fn := fun _ => fun
  | [d1, d2] => { results := [.lit (.bool false)], args := [d1, d2] }
  | _ => none }
def FeatBothWrongFalsely : Prop := featBothRow.holds Try.pinned (OpenSpec.ofChange featBothWrong)

/-- 'anabranchlaw07.OptsFinds': WHATEVER THE INPUT: true; the input reads as it did. -/
def optsFindsSpec : ChangeSpec := { name := "optsFinds", fn := fun _ => fun
  | [d1, d2] => { results := [.lit (.bool true)], args := [d1, d2] }
  | _ => none }
def optsFindsRow : OpenClaim := { program := "ytljgmephajocaaa", sum := "cabaca1d4c21ffa1720e2b1c0c754cf0421ad2c04c117d1e0dc506fb643bd3ba", func := "anabranch/anabranchlaw07.OptsFinds", spec := "optsFinds", inPlace := ["internal/abi.NoEscape"], unfollowed := true, recurses := true, apart := false }
def OptsFindsSaid : Prop := optsFindsRow.holds Try.pinned (OpenSpec.ofChange optsFindsSpec)

/-- ITS FALSE NEIGHBOUR: 'it returns false'. Refute it at one input. -/
def optsFindsWrong : ChangeSpec := { name := "optsFinds", fn := fun _ => fun
  | [d1, d2] => { results := [.lit (.bool false)], args := [d1, d2] }
  | _ => none }
def OptsFindsWrongFalsely : Prop := optsFindsRow.holds Try.pinned (OpenSpec.ofChange optsFindsWrong)

/-- 'anabranchlaw15.FeatMeet': WHATEVER THE INPUT: true; the input reads as it did. -/
def featMeetSpec : ChangeSpec := { name := "featMeet", fn := fun _ => fun
  | [d1, d2, d3] => { results := [.lit (.bool true)], args := [d1, d2, d3] }
  | _ => none }
def featMeetRow : OpenClaim := { program := "ytljgmephajocaaa", sum := "cabaca1d4c21ffa1720e2b1c0c754cf0421ad2c04c117d1e0dc506fb643bd3ba", func := "anabranch/anabranchlaw15.FeatMeet", spec := "featMeet", unfollowed := true, recurses := true, apart := false }
def FeatMeetSaid : Prop := featMeetRow.holds Try.pinned (OpenSpec.ofChange featMeetSpec)

/-- ITS FALSE NEIGHBOUR: 'it returns false'. Refute it at one input. -/
def featMeetWrong : ChangeSpec := { name := "featMeet", fn := fun _ => fun
  | [d1, d2, d3] => { results := [.lit (.bool false)], args := [d1, d2, d3] }
  | _ => none }
def FeatMeetWrongFalsely : Prop := featMeetRow.holds Try.pinned (OpenSpec.ofChange featMeetWrong)

/-- 'anabranchlaw11.MpoptPuts': WHATEVER THE INPUT: true; the input reads as it did. -/
def mpoptPutsSpec : ChangeSpec := { name := "mpoptPuts", fn := fun _ => fun
  | [d] => { results := [.lit (.bool true)], args := [d] }
  | _ => none }
def mpoptPutsRow : OpenClaim := { program := "ytljgmephajocaaa", sum := "cabaca1d4c21ffa1720e2b1c0c754cf0421ad2c04c117d1e0dc506fb643bd3ba", func := "anabranch/anabranchlaw11.MpoptPuts", spec := "mpoptPuts", unfollowed := true, recurses := true, apart := false }
def MpoptPutsSaid : Prop := mpoptPutsRow.holds Try.pinned (OpenSpec.ofChange mpoptPutsSpec)

/-- ITS FALSE NEIGHBOUR: 'it returns false'. Refute it at one input. -/
def mpoptPutsWrong : ChangeSpec := { name := "mpoptPuts", fn := fun _ => fun
  | [d] => { results := [.lit (.bool false)], args := [d] }
  | _ => none }
def MpoptPutsWrongFalsely : Prop := mpoptPutsRow.holds Try.pinned (OpenSpec.ofChange mpoptPutsWrong)

/-- 'anabranchlaw11.MpoptLists': WHATEVER THE INPUT: true; the input reads as it did. -/
def mpoptListsSpec : ChangeSpec := { name := "mpoptLists", fn := fun _ => fun
  | [d1, d2, d3] => { results := [.lit (.bool true)], args := [d1, d2, d3] }
  | _ => none }
def mpoptListsRow : OpenClaim := { program := "ytljgmephajocaaa", sum := "cabaca1d4c21ffa1720e2b1c0c754cf0421ad2c04c117d1e0dc506fb643bd3ba", func := "anabranch/anabranchlaw11.MpoptLists", spec := "mpoptLists", unfollowed := true, recurses := true, apart := false }
def MpoptListsSaid : Prop := mpoptListsRow.holds Try.pinned (OpenSpec.ofChange mpoptListsSpec)

/-- ITS FALSE NEIGHBOUR: 'it returns false'. Refute it at one input. -/
def mpoptListsWrong : ChangeSpec := { name := "mpoptLists", fn := fun _ => fun
  | [d1, d2, d3] => { results := [.lit (.bool false)], args := [d1, d2, d3] }
  | _ => none }
def MpoptListsWrongFalsely : Prop := mpoptListsRow.holds Try.pinned (OpenSpec.ofChange mpoptListsWrong)

/- THE SECOND FORM. 'bulk': how many values and letters a reading holds, each counted each time it is reached (what is shared counts as often as it is met; a slice's spare places count too). A statement '..UptoSaid' is the law's where the arguments, and the package variables that the reading takes, are together of bulk at most 1048576: NARROWER than '..Said'. Prove '..Said' where nothing that the law and all that it calls make is longer than what came in: it says more and counts as full. Else prove '..UptoSaid'. A law counts once. -/
mutual
def uptoBulk {H : Type} : DataW H → Nat
  | .lit (.string bytes) => bytes.length + 1
  | .lit _ => 1
  | .nil => 1
  | .ptr d => uptoBulk d + 1
  | .slice elems spare => uptoBulkAll elems + uptoBulkAll spare + 1
  | .agg parts => uptoBulkAll parts + 1
  | .iface _ d => uptoBulk d + 1
  | .map entries => uptoBulkEntries entries + 1
  | .held _ => 1
def uptoBulkAll {H : Type} : List (DataW H) → Nat
  | [] => 0
  | d :: r => uptoBulk d + uptoBulkAll r
def uptoBulkEntries {H : Type} : List (Lit × DataW H) → Nat
  | [] => 0
  | x :: r => uptoBulkEntry x + uptoBulkEntries r
def uptoBulkEntry {H : Type} : Lit × DataW H → Nat
  | (.string bytes, d) => bytes.length + uptoBulk d + 1
  | (_, d) => uptoBulk d + 1
 end
def uptoSmall : (H : Type) → List (DataW H) → Bool := fun _ ds => decide (uptoBulkAll ds ≤ 1048576)
def OpenSpec.upto (s : _root_.Go.ChangeSpec) : _root_.Go.OpenSpec := { _root_.Go.OpenSpec.ofChange s with cond := some uptoSmall }

/-- 'anabranchlaw28.ControlDoes', WHERE WHAT IT READS IS OF BULK AT MOST 1048576: true; the input reads as it did. -/
def controlDoesUptoRow : OpenClaim := { program := "ytljgmephajocaaa", sum := "cabaca1d4c21ffa1720e2b1c0c754cf0421ad2c04c117d1e0dc506fb643bd3ba", func := "anabranch/anabranchlaw28.ControlDoes", spec := "controlDoes", apart := false, narrowed := true }
def ControlDoesUptoSaid : Prop := controlDoesUptoRow.holds Try.pinned (OpenSpec.upto controlDoesSpec)

/-- 'anabranchlaw28.ControlOnce', WHERE WHAT IT READS IS OF BULK AT MOST 1048576: true; the input reads as it did. -/
def controlOnceUptoRow : OpenClaim := { program := "ytljgmephajocaaa", sum := "cabaca1d4c21ffa1720e2b1c0c754cf0421ad2c04c117d1e0dc506fb643bd3ba", func := "anabranch/anabranchlaw28.ControlOnce", spec := "controlOnce", apart := false, narrowed := true }
def ControlOnceUptoSaid : Prop := controlOnceUptoRow.holds Try.pinned (OpenSpec.upto controlOnceSpec)

/-- 'anabranchlaw20.FlightOnce', WHERE WHAT IT READS IS OF BULK AT MOST 1048576: true; the input reads as it did. -/
def flightOnceUptoRow : OpenClaim := { program := "ytljgmephajocaaa", sum := "cabaca1d4c21ffa1720e2b1c0c754cf0421ad2c04c117d1e0dc506fb643bd3ba", func := "anabranch/anabranchlaw20.FlightOnce", spec := "flightOnce", unfollowed := true, recurses := true, apart := false, narrowed := true }
def FlightOnceUptoSaid : Prop := flightOnceUptoRow.holds Try.pinned (OpenSpec.upto flightOnceSpec)

/-- 'anabranchlaw07.OptsBack', WHERE WHAT IT READS IS OF BULK AT MOST 1048576: true; the input reads as it did. -/
def optsBackUptoRow : OpenClaim := { program := "ytljgmephajocaaa", sum := "cabaca1d4c21ffa1720e2b1c0c754cf0421ad2c04c117d1e0dc506fb643bd3ba", func := "anabranch/anabranchlaw07.OptsBack", spec := "optsBack", inPlace := ["internal/abi.NoEscape"], unfollowed := true, recurses := true, apart := false, narrowed := true }
def OptsBackUptoSaid : Prop := optsBackUptoRow.holds Try.pinned (OpenSpec.upto optsBackSpec)

/-- 'anabranchlaw07.OptsGet', WHERE WHAT IT READS IS OF BULK AT MOST 1048576: true; the input reads as it did. -/
def optsGetUptoRow : OpenClaim := { program := "ytljgmephajocaaa", sum := "cabaca1d4c21ffa1720e2b1c0c754cf0421ad2c04c117d1e0dc506fb643bd3ba", func := "anabranch/anabranchlaw07.OptsGet", spec := "optsGet", inPlace := ["internal/abi.NoEscape"], unfollowed := true, recurses := true, apart := false, narrowed := true }
def OptsGetUptoSaid : Prop := optsGetUptoRow.holds Try.pinned (OpenSpec.upto optsGetSpec)

/-- 'anabranchlaw20.FlightDoes', WHERE WHAT IT READS IS OF BULK AT MOST 1048576: true; the input reads as it did. -/
def flightDoesUptoRow : OpenClaim := { program := "ytljgmephajocaaa", sum := "cabaca1d4c21ffa1720e2b1c0c754cf0421ad2c04c117d1e0dc506fb643bd3ba", func := "anabranch/anabranchlaw20.FlightDoes", spec := "flightDoes", unfollowed := true, recurses := true, apart := false, narrowed := true }
def FlightDoesUptoSaid : Prop := flightDoesUptoRow.holds Try.pinned (OpenSpec.upto flightDoesSpec)

/-- 'anabranchlaw15.FeatCodes', WHERE WHAT IT READS IS OF BULK AT MOST 1048576: true; the input reads as it did. -/
def featCodesUptoRow : OpenClaim := { program := "ytljgmephajocaaa", sum := "cabaca1d4c21ffa1720e2b1c0c754cf0421ad2c04c117d1e0dc506fb643bd3ba", func := "anabranch/anabranchlaw15.FeatCodes", spec := "featCodes", unfollowed := true, recurses := true, apart := false, narrowed := true }
def FeatCodesUptoSaid : Prop := featCodesUptoRow.holds Try.pinned (OpenSpec.upto featCodesSpec)

/-- 'anabranchlaw15.FeatBoth', WHERE WHAT IT READS IS OF BULK AT MOST 1048576: true; the input reads as it did. -/
def featBothUptoRow : OpenClaim := { program := "ytljgmephajocaaa", sum := "cabaca1d4c21ffa1720e2b1c0c754cf0421ad2c04c117d1e0dc506fb643bd3ba", func := "anabranch/anabranchlaw15.FeatBoth", spec := "featBoth", unfollowed := true, recurses := true, apart := false, narrowed := true }
def FeatBothUptoSaid : Prop := featBothUptoRow.holds Try.pinned (OpenSpec.upto featBothSpec)

/-- 'anabranchlaw07.OptsFinds', WHERE WHAT IT READS IS OF BULK AT MOST 1048576: true; the input reads as it did. -/
def optsFindsUptoRow : OpenClaim := { program := "ytljgmephajocaaa", sum := "cabaca1d4c21ffa1720e2b1c0c754cf0421ad2c04c117d1e0dc506fb643bd3ba", func := "anabranch/anabranchlaw07.OptsFinds", spec := "optsFinds", inPlace := ["internal/abi.NoEscape"], unfollowed := true, recurses := true, apart := false, narrowed := true }
def OptsFindsUptoSaid : Prop := optsFindsUptoRow.holds Try.pinned (OpenSpec.upto optsFindsSpec)

/-- 'anabranchlaw15.FeatMeet', WHERE WHAT IT READS IS OF BULK AT MOST 1048576: true; the input reads as it did. -/
def featMeetUptoRow : OpenClaim := { program := "ytljgmephajocaaa", sum := "cabaca1d4c21ffa1720e2b1c0c754cf0421ad2c04c117d1e0dc506fb643bd3ba", func := "anabranch/anabranchlaw15.FeatMeet", spec := "featMeet", unfollowed := true, recurses := true, apart := false, narrowed := true }
def FeatMeetUptoSaid : Prop := featMeetUptoRow.holds Try.pinned (OpenSpec.upto featMeetSpec)

/-- 'anabranchlaw11.MpoptPuts', WHERE WHAT IT READS IS OF BULK AT MOST 1048576: true; the input reads as it did. -/
def mpoptPutsUptoRow : OpenClaim := { program := "ytljgmephajocaaa", sum := "cabaca1d4c21ffa1720e2b1c0c754cf0421ad2c04c117d1e0dc506fb643bd3ba", func := "anabranch/anabranchlaw11.MpoptPuts", spec := "mpoptPuts", unfollowed := true, recurses := true, apart := false, narrowed := true }
def MpoptPutsUptoSaid : Prop := mpoptPutsUptoRow.holds Try.pinned (OpenSpec.upto mpoptPutsSpec)

/-- 'anabranchlaw11.MpoptLists', WHERE WHAT IT READS IS OF BULK AT MOST 1048576: true; the input reads as it did. -/
def mpoptListsUptoRow : OpenClaim := { program := "ytljgmephajocaaa", sum := "cabaca1d4c21ffa1720e2b1c0c754cf0421ad2c04c117d1e0dc506fb643bd3ba", func := "anabranch/anabranchlaw11.MpoptLists", spec := "mpoptLists", unfollowed := true, recurses := true, apart := false, narrowed := true }
def MpoptListsUptoSaid : Prop := mpoptListsUptoRow.holds Try.pinned (OpenSpec.upto mpoptListsSpec)

end Rows
end Go.Proofs.Ytljgmephajocaaa
