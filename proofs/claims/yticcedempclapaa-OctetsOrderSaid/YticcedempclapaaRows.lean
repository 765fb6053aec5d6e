/-
  No cell of these rows narrows 'for every input' (looked for: loops, veiled, ifaces, maps, wideKeys, modest, calm, conditions, laid).
  DERIVED. THE GIVEN ROWS OF THIS SEAT. 11 by the template 'for every input the law returns true; each argument reads behind the call as it read before'; 0 by the template 'total and deterministic' (their statements: YticcedempclapaaTotals.lean).
  GIVEN WITH THE SEED: the statements are not yours to turn. If you find one false, say at which input.
  Laid BY PROGRAM, IN A SANDBOX (cutbox-rows.mjs): the forced cells as the released guide's own fill.sh prints them over the translation 5fc630b21d192d8d… (all of the seat's roots in one cut). By AI agents, Wed Nov 11 2026. No macro, syntax, notation, axiom, sorry.
-/
import Derived.Test.YticcedempclapaaChecked
import GoSem.Claim
import GoSem.ClaimJoined
import GoSem.ClaimMapViews
import Derived.JoinedTies
import Derived.KernelRfl
namespace Go.Proofs.Yticcedempclapaa
/- THE CELL 'sum', in the pinned program and in every row, IS THE sha256 OF THE DUMP (.gsa) THAT YticcedempclapaaProg.lean LOADS. Nothing in Lean hashes anything: it is a label: what it is worth is what the hold of that sum in a sandbox is worth. -/
noncomputable def Try.pinned : Pinned := { name := "yticcedempclapaa", sum := "5fc630b21d192d8d0836c17bad955c364626832394048887f90f3f9bc4a41d64", checked := Try.checked }
namespace Rows
def none {H : Type} : Left H := { results := [], args := [] }

/-- 'anabranchlaw22.RatioDoes': WHATEVER THE INPUT: true; the input reads as it did. -/
def ratioDoesSpec : ChangeSpec := { name := "ratioDoes", fn := fun _ => fun
  | [d] => { results := [.lit (.bool true)], args := [d] }
  | _ => none }
def ratioDoesRow : OpenClaim := { program := "yticcedempclapaa", sum := "5fc630b21d192d8d0836c17bad955c364626832394048887f90f3f9bc4a41d64", func := "anabranch/anabranchlaw22.RatioDoes", spec := "ratioDoes", apart := false }
def RatioDoesSaid : Prop := ratioDoesRow.holds Try.pinned (OpenSpec.ofChange ratioDoesSpec)

/-- ITS FALSE NEIGHBOUR: 'it returns false'. Refute it at one input. -/
def ratioDoesWrong : ChangeSpec := { name := "ratioDoes", fn := fun _ => fun
  | [d] => { results := [.lit (.bool false)], args := [d] }
  | _ => none }
def RatioDoesWrongFalsely : Prop := ratioDoesRow.holds Try.pinned (OpenSpec.ofChange ratioDoesWrong)

/-- 'anabranchlaw22.RatioEnds': WHATEVER THE INPUT: true; the input reads as it did. -/
def ratioEndsSpec : ChangeSpec := { name := "ratioEnds", fn := fun _ => fun
  | [d1, d2] => { results := [.lit (.bool true)], args := [d1, d2] }
  | _ => none }
def ratioEndsRow : OpenClaim := { program := "yticcedempclapaa", sum := "5fc630b21d192d8d0836c17bad955c364626832394048887f90f3f9bc4a41d64", func := "anabranch/anabranchlaw22.RatioEnds", spec := "ratioEnds", apart := false }
def RatioEndsSaid : Prop := ratioEndsRow.holds Try.pinned (OpenSpec.ofChange ratioEndsSpec)

/-- ITS FALSE NEIGHBOUR: 'it returns false'. Refute it at one input. -/
def ratioEndsWrong : ChangeSpec := { name := "ratioEnds", fn := fun _ => fun
  | [d1, d2] => { results := [.lit (.bool false)], args := [d1, d2] }
  | _ => none }
def RatioEndsWrongFalsely : Prop := ratioEndsRow.holds Try.pinned (OpenSpec.ofChange ratioEndsWrong)

/-- 'anabranchlaw18.RttDoes': WHATEVER THE INPUT: true; the input reads as it did. -/
def rttDoesSpec : ChangeSpec := { name := "rttDoes", fn := fun _ => fun
  | [d] => { results := [.lit (.bool true)], args := [d] }
  | _ => none }
def rttDoesRow : OpenClaim := { program := "yticcedempclapaa", sum := "5fc630b21d192d8d0836c17bad955c364626832394048887f90f3f9bc4a41d64", func := "anabranch/anabranchlaw18.RttDoes", spec := "rttDoes", apart := false }
def RttDoesSaid : Prop := rttDoesRow.holds Try.pinned (OpenSpec.ofChange rttDoesSpec)

/-- ITS FALSE NEIGHBOUR: 'it returns false'. Refute it at one input. -/
def rttDoesWrong : ChangeSpec := { name := "rttDoes", fn := fun _ => fun
  | [d] => { results := [.lit (.bool false)], args := [d] }
  | _ => none }
def RttDoesWrongFalsely : Prop := rttDoesRow.holds Try.pinned (OpenSpec.ofChange rttDoesWrong)

/-- 'anabranchlaw18.RttBetween': WHATEVER THE INPUT: true; the input reads as it did. -/
def rttBetweenSpec : ChangeSpec := { name := "rttBetween", fn := fun _ => fun
  | [d] => { results := [.lit (.bool true)], args := [d] }
  | _ => none }
def rttBetweenRow : OpenClaim := { program := "yticcedempclapaa", sum := "5fc630b21d192d8d0836c17bad955c364626832394048887f90f3f9bc4a41d64", func := "anabranch/anabranchlaw18.RttBetween", spec := "rttBetween", apart := false }
def RttBetweenSaid : Prop := rttBetweenRow.holds Try.pinned (OpenSpec.ofChange rttBetweenSpec)

/-- ITS FALSE NEIGHBOUR: 'it returns false'. Refute it at one input. -/
def rttBetweenWrong : ChangeSpec := { name := "rttBetween", fn := fun _ => fun
  | [d] => { results := [.lit (.bool false)], args := [d] }
  | _ => none }
def RttBetweenWrongFalsely : Prop := rttBetweenRow.holds Try.pinned (OpenSpec.ofChange rttBetweenWrong)

/-- 'anabranchlaw18.RttSteady': WHATEVER THE INPUT: true; the input reads as it did. -/
def rttSteadySpec : ChangeSpec := { name := "rttSteady", fn := fun _ => fun
  | [d1, d2] => { results := [.lit (.bool true)], args := [d1, d2] }
  | _ => none }
def rttSteadyRow : OpenClaim := { program := "yticcedempclapaa", sum := "5fc630b21d192d8d0836c17bad955c364626832394048887f90f3f9bc4a41d64", func := "anabranch/anabranchlaw18.RttSteady", spec := "rttSteady", apart := false }
def RttSteadySaid : Prop := rttSteadyRow.holds Try.pinned (OpenSpec.ofChange rttSteadySpec)

/-- ITS FALSE NEIGHBOUR: 'it returns false'. Refute it at one input. -/
def rttSteadyWrong : ChangeSpec := { name := "rttSteady", fn := fun _ => fun
  | [d1, d2] => { results := [.lit (.bool false)], args := [d1, d2] }
  | _ => none }
def RttSteadyWrongFalsely : Prop := rttSteadyRow.holds Try.pinned (OpenSpec.ofChange rttSteadyWrong)

/-- 'anabranchlaw01.OctetsReads': WHATEVER THE INPUT: true; the input reads as it did. -/
def octetsReadsSpec : ChangeSpec := { name := "octetsReads", fn := fun _ => fun
  | [d1, d2] => { results := [.lit (.bool true)], args := [d1, d2] }
  | _ => none }
def octetsReadsRow : OpenClaim := { program := "yticcedempclapaa", sum := "5fc630b21d192d8d0836c17bad955c364626832394048887f90f3f9bc4a41d64", func := "anabranch/anabranchlaw01.OctetsReads", spec := "octetsReads", apart := false }
def OctetsReadsSaid : Prop := octetsReadsRow.holds Try.pinned (OpenSpec.ofChange octetsReadsSpec)

/-- ITS FALSE NEIGHBOUR: 'it returns false'. Refute it at one input. -/
def octetsReadsWrong : ChangeSpec := { name := "octetsReads", fn := fun _ => fun
  | [d1, d2] => { results := [.lit (.bool false)], args := [d1, d2] }
  | _ => none }
def OctetsReadsWrongFalsely : Prop := octetsReadsRow.holds Try.pinned (OpenSpec.ofChange octetsReadsWrong)

/-- 'anabranchlaw01.OctetsBack': WHATEVER THE INPUT: true; the input reads as it did. -/
def octetsBackSpec : ChangeSpec := { name := "octetsBack", fn := fun _ => fun
  | [d1, d2, d3, d4] => { results := [.lit (.bool true)], args := [d1, d2, d3, d4] }
  | _ => none }
def octetsBackRow : OpenClaim := { program := "yticcedempclapaa", sum := "5fc630b21d192d8d0836c17bad955c364626832394048887f90f3f9bc4a41d64", func := "anabranch/anabranchlaw01.OctetsBack", spec := "octetsBack", apart := false }
def OctetsBackSaid : Prop := octetsBackRow.holds Try.pinned (OpenSpec.ofChange octetsBackSpec)

/-- ITS FALSE NEIGHBOUR: 'it returns false'. Refute it at one input. -/
def octetsBackWrong : ChangeSpec := { name := "octetsBack", fn := fun _ => fun
  | [d1, d2, d3, d4] => { results := [.lit (.bool false)], args := [d1, d2, d3, d4] }
  | _ => none }
def OctetsBackWrongFalsely : Prop := octetsBackRow.holds Try.pinned (OpenSpec.ofChange octetsBackWrong)

/-- 'anabranchlaw01.OctetsOrder': WHATEVER THE INPUT: true; the input reads as it did. -/
def octetsOrderSpec : ChangeSpec := { name := "octetsOrder", fn := fun _ => fun
  | [d1, d2, d3] => { results := [.lit (.bool true)], args := [d1, d2, d3] }
  | _ => none }
def octetsOrderRow : OpenClaim := { program := "yticcedempclapaa", sum := "5fc630b21d192d8d0836c17bad955c364626832394048887f90f3f9bc4a41d64", func := "anabranch/anabranchlaw01.OctetsOrder", spec := "octetsOrder", apart := false }
def OctetsOrderSaid : Prop := octetsOrderRow.holds Try.pinned (OpenSpec.ofChange octetsOrderSpec)

/-- ITS FALSE NEIGHBOUR: 'it returns false'. Refute it at one input. -/
def octetsOrderWrong : ChangeSpec := { name := "octetsOrder", fn := fun _ => fun
  | [d1, d2, d3] => { results := [.lit (.bool false)], args := [d1, d2, d3] }
  | _ => none }
def OctetsOrderWrongFalsely : Prop := octetsOrderRow.holds Try.pinned (OpenSpec.ofChange octetsOrderWrong)

/-- 'anabranchlaw33.HoldTells': WHATEVER THE INPUT: true; the input reads as it did. -/
def holdTellsSpec : ChangeSpec := { name := "holdTells", fn := fun _ => fun
  | [d1, d2, d3] => { results := [.lit (.bool true)], args := [d1, d2, d3] }
  | _ => none }
def holdTellsRow : OpenClaim := { program := "yticcedempclapaa", sum := "5fc630b21d192d8d0836c17bad955c364626832394048887f90f3f9bc4a41d64", func := "anabranch/anabranchlaw33.HoldTells", spec := "holdTells", apart := false }
def HoldTellsSaid : Prop := holdTellsRow.holds Try.pinned (OpenSpec.ofChange holdTellsSpec)

/-- ITS FALSE NEIGHBOUR: 'it returns false'. Refute it at one input. -/
def holdTellsWrong : ChangeSpec := { name := "holdTells", fn := fun _ => fun
  | [d1, d2, d3] => { results := [.lit (.bool false)], args := [d1, d2, d3] }
  | _ => none }
def HoldTellsWrongFalsely : Prop := holdTellsRow.holds Try.pinned (OpenSpec.ofChange holdTellsWrong)

/-- 'anabranchlaw33.HoldBounds': WHATEVER THE INPUT: true; the input reads as it did. -/
def holdBoundsSpec : ChangeSpec := { name := "holdBounds", fn := fun _ => fun
  | [d1, d2, d3, d4] => { results := [.lit (.bool true)], args := [d1, d2, d3, d4] }
  | _ => none }
def holdBoundsRow : OpenClaim := { program := "yticcedempclapaa", sum := "5fc630b21d192d8d0836c17bad955c364626832394048887f90f3f9bc4a41d64", func := "anabranch/anabranchlaw33.HoldBounds", spec := "holdBounds", apart := false }
def HoldBoundsSaid : Prop := holdBoundsRow.holds Try.pinned (OpenSpec.ofChange holdBoundsSpec)

/-- ITS FALSE NEIGHBOUR: 'it returns false'. Refute it at one input. -/
def holdBoundsWrong : ChangeSpec := { name := "holdBounds", fn := fun _ => fun
  | [d1, d2, d3, d4] => { results := [.lit (.bool false)], args := [d1, d2, d3, d4] }
  | _ => none }
def HoldBoundsWrongFalsely : Prop := holdBoundsRow.holds Try.pinned (OpenSpec.ofChange holdBoundsWrong)

/-- 'anabranchlaw33.HoldOrder': WHATEVER THE INPUT: true; the input reads as it did. -/
def holdOrderSpec : ChangeSpec := { name := "holdOrder", fn := fun _ => fun
  | [d1, d2, d3, d4, d5] => { results := [.lit (.bool true)], args := [d1, d2, d3, d4, d5] }
  | _ => none }
def holdOrderRow : OpenClaim := { program := "yticcedempclapaa", sum := "5fc630b21d192d8d0836c17bad955c364626832394048887f90f3f9bc4a41d64", func := "anabranch/anabranchlaw33.HoldOrder", spec := "holdOrder", apart := false }
def HoldOrderSaid : Prop := holdOrderRow.holds Try.pinned (OpenSpec.ofChange holdOrderSpec)

/-- ITS FALSE NEIGHBOUR: 'it returns false'. Refute it at one input. -/
def holdOrderWrong : ChangeSpec := { name := "holdOrder", fn := fun _ => fun
  | [d1, d2, d3, d4, d5] => { results := [.lit (.bool false)], args := [d1, d2, d3, d4, d5] }
  | _ => none }
def HoldOrderWrongFalsely : Prop := holdOrderRow.holds Try.pinned (OpenSpec.ofChange holdOrderWrong)

/- THE SECOND FORM. 'bulk': how many values and letters a reading holds, each counted each time it is reached (what is shared counts as often as it is met; a slice's spare places count too). A statement '..UptoSaid' is the law's where the arguments, and the package variables that the reading takes, are together of bulk at most 1048576: NARROWER than '..Said'. Prove '..Said' where nothing that the law and all that it calls make is longer than what came in: it says more and counts as full. Else prove '..UptoSaid'. A law counts once. -/
mutual
def uptoBulk {H : Type} : DataW H → Nat
  | .lit (.string bytes) => bytes.length + 1
  | .lit _ => 1
  | .nil => 1
  | .ptr d => uptoBulk d + 1
  | .slice elems spare => uptoBulkAll elems + uptoBulkAll spare + 1
  | .agg parts => uptoBulkAll parts + 1
  | .iface _ d => uptoBulk d + 1
  | .map entries => uptoBulkEntries entries + 1
  | .held _ => 1
def uptoBulkAll {H : Type} : List (DataW H) → Nat
  | [] => 0
  | d :: r => uptoBulk d + uptoBulkAll r
def uptoBulkEntries {H : Type} : List (Lit × DataW H) → Nat
  | [] => 0
  | x :: r => uptoBulkEntry x + uptoBulkEntries r
def uptoBulkEntry {H : Type} : Lit × DataW H → Nat
  | (.string bytes, d) => bytes.length + uptoBulk d + 1
  | (_, d) => uptoBulk d + 1
 end
def uptoSmall : (H : Type) → List (DataW H) → Bool := fun _ ds => decide (uptoBulkAll ds ≤ 1048576)
def OpenSpec.upto (s : _root_.Go.ChangeSpec) : _root_.Go.OpenSpec := { _root_.Go.OpenSpec.ofChange s with cond := some uptoSmall }

/-- 'anabranchlaw22.RatioDoes', WHERE WHAT IT READS IS OF BULK AT MOST 1048576: true; the input reads as it did. -/
def ratioDoesUptoRow : OpenClaim := { program := "yticcedempclapaa", sum := "5fc630b21d192d8d0836c17bad955c364626832394048887f90f3f9bc4a41d64", func := "anabranch/anabranchlaw22.RatioDoes", spec := "ratioDoes", apart := false, narrowed := true }
def RatioDoesUptoSaid : Prop := ratioDoesUptoRow.holds Try.pinned (OpenSpec.upto ratioDoesSpec)

/-- 'anabranchlaw22.RatioEnds', WHERE WHAT IT READS IS OF BULK AT MOST 1048576: true; the input reads as it did. -/
def ratioEndsUptoRow : OpenClaim := { program := "yticcedempclapaa", sum := "5fc630b21d192d8d0836c17bad955c364626832394048887f90f3f9bc4a41d64", func := "anabranch/anabranchlaw22.RatioEnds", spec := "ratioEnds", apart := false, narrowed := true }
def RatioEndsUptoSaid : Prop := ratioEndsUptoRow.holds Try.pinned (OpenSpec.upto ratioEndsSpec)

/-- 'anabranchlaw18.RttDoes', WHERE WHAT IT READS IS OF BULK AT MOST 1048576: true; the input reads as it did. -/
def rttDoesUptoRow : OpenClaim := { program := "yticcedempclapaa", sum := "5fc630b21d192d8d0836c17bad955c364626832394048887f90f3f9bc4a41d64", func := "anabranch/anabranchlaw18.RttDoes", spec := "rttDoes", apart := false, narrowed := true }
def RttDoesUptoSaid : Prop := rttDoesUptoRow.holds Try.pinned (OpenSpec.upto rttDoesSpec)

/-- 'anabranchlaw18.RttBetween', WHERE WHAT IT READS IS OF BULK AT MOST 1048576: true; the input reads as it did. -/
def rttBetweenUptoRow : OpenClaim := { program := "yticcedempclapaa", sum := "5fc630b21d192d8d0836c17bad955c364626832394048887f90f3f9bc4a41d64", func := "anabranch/anabranchlaw18.RttBetween", spec := "rttBetween", apart := false, narrowed := true }
def RttBetweenUptoSaid : Prop := rttBetweenUptoRow.holds Try.pinned (OpenSpec.upto rttBetweenSpec)

/-- 'anabranchlaw18.RttSteady', WHERE WHAT IT READS IS OF BULK AT MOST 1048576: true; the input reads as it did. -/
def rttSteadyUptoRow : OpenClaim := { program := "yticcedempclapaa", sum := "5fc630b21d192d8d0836c17bad955c364626832394048887f90f3f9bc4a41d64", func := "anabranch/anabranchlaw18.RttSteady", spec := "rttSteady", apart := false, narrowed := true }
def RttSteadyUptoSaid : Prop := rttSteadyUptoRow.holds Try.pinned (OpenSpec.upto rttSteadySpec)

/-- 'anabranchlaw01.OctetsReads', WHERE WHAT IT READS IS OF BULK AT MOST 1048576: true; the input reads as it did. -/
def octetsReadsUptoRow : OpenClaim := { program := "yticcedempclapaa", sum := "5fc630b21d192d8d0836c17bad955c364626832394048887f90f3f9bc4a41d64", func := "anabranch/anabranchlaw01.OctetsReads", spec := "octetsReads", apart := false, narrowed := true }
def OctetsReadsUptoSaid : Prop := octetsReadsUptoRow.holds Try.pinned (OpenSpec.upto octetsReadsSpec)

/-- 'anabranchlaw01.OctetsBack', WHERE WHAT IT READS IS OF BULK AT MOST 1048576: true; the input reads as it did. -/
def octetsBackUptoRow : OpenClaim := { program := "yticcedempclapaa", sum := "5fc630b21d192d8d0836c17bad955c364626832394048887f90f3f9bc4a41d64", func := "anabranch/anabranchlaw01.OctetsBack", spec := "octetsBack", apart := false, narrowed := true }
def OctetsBackUptoSaid : Prop := octetsBackUptoRow.holds Try.pinned (OpenSpec.upto octetsBackSpec)

/-- 'anabranchlaw01.OctetsOrder', WHERE WHAT IT READS IS OF BULK AT MOST 1048576: true; the input reads as it did. -/
def octetsOrderUptoRow : OpenClaim := { program := "yticcedempclapaa", sum := "5fc630b21d192d8d0836c17bad955c364626832394048887f90f3f9bc4a41d64", func := "anabranch/anabranchlaw01.OctetsOrder", spec := "octetsOrder", apart := false, narrowed := true }
def OctetsOrderUptoSaid : Prop := octetsOrderUptoRow.holds Try.pinned (OpenSpec.upto octetsOrderSpec)

/-- 'anabranchlaw33.HoldTells', WHERE WHAT IT READS IS OF BULK AT MOST 1048576: true; the input reads as it did. -/
def holdTellsUptoRow : OpenClaim := { program := "yticcedempclapaa", sum := "5fc630b21d192d8d0836c17bad955c364626832394048887f90f3f9bc4a41d64", func := "anabranch/anabranchlaw33.HoldTells", spec := "holdTells", apart := false, narrowed := true }
def HoldTellsUptoSaid : Prop := holdTellsUptoRow.holds Try.pinned (OpenSpec.upto holdTellsSpec)

/-- 'anabranchlaw33.HoldBounds', WHERE WHAT IT READS IS OF BULK AT MOST 1048576: true; the input reads as it did. -/
def holdBoundsUptoRow : OpenClaim := { program := "yticcedempclapaa", sum := "5fc630b21d192d8d0836c17bad955c364626832394048887f90f3f9bc4a41d64", func := "anabranch/anabranchlaw33.HoldBounds", spec := "holdBounds", apart := false, narrowed := true }
def HoldBoundsUptoSaid : Prop := holdBoundsUptoRow.holds Try.pinned (OpenSpec.upto holdBoundsSpec)

/-- 'anabranchlaw33.HoldOrder', WHERE WHAT IT READS IS OF BULK AT MOST 1048576: true; the input reads as it did. -/
def holdOrderUptoRow : OpenClaim := { program := "yticcedempclapaa", sum := "5fc630b21d192d8d0836c17bad955c364626832394048887f90f3f9bc4a41d64", func := "anabranch/anabranchlaw33.HoldOrder", spec := "holdOrder", apart := false, narrowed := true }
def HoldOrderUptoSaid : Prop := holdOrderUptoRow.holds Try.pinned (OpenSpec.upto holdOrderSpec)

end Rows
end Go.Proofs.Yticcedempclapaa
