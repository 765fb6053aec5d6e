/-
  No cell of these rows narrows 'for every input' (looked for: loops, veiled, ifaces, maps, wideKeys, modest, calm, conditions, laid).
  DERIVED. THE GIVEN ROWS OF THIS SEAT. 12 by the template 'for every input the law returns true; each argument reads behind the call as it read before'; 0 by the template 'total and deterministic' (their statements: YthodfihdmhkgeaaTotals.lean).
  GIVEN WITH THE SEED: the statements are not yours to turn. If you find one false, say at which input.
  Laid BY PROGRAM, IN A SANDBOX (cutbox-rows.mjs): the forced cells as the released guide's own fill.sh prints them over the translation 3a3260b07067a411… (all of the seat's roots in one cut). By AI agents, Wed Nov 11 2026. No macro, syntax, notation, axiom, sorry.
-/
import Derived.Test.YthodfihdmhkgeaaChecked
import GoSem.Claim
import GoSem.ClaimJoined
import GoSem.ClaimMapViews
import Derived.JoinedTies
import Derived.KernelRfl
namespace Go.Proofs.Ythodfihdmhkgeaa
/- THE CELL 'sum', in the pinned program and in every row, IS THE sha256 OF THE DUMP (.gsa) THAT YthodfihdmhkgeaaProg.lean LOADS. Nothing in Lean hashes anything: it is a label: what it is worth is what the hold of that sum in a sandbox is worth. -/
noncomputable def Try.pinned : Pinned := { name := "ythodfihdmhkgeaa", sum := "3a3260b07067a411676746064e74cd12b2391144341f2a9bfcaa818f26964cc6", checked := Try.checked }
namespace Rows
def none {H : Type} : Left H := { results := [], args := [] }

/-- 'anabranchlaw39.ChannelTells': WHATEVER THE INPUT: true; the input reads as it did. -/
def channelTellsSpec : ChangeSpec := { name := "channelTells", fn := fun _ => fun
  | [d1, d2] => { results := [.lit (.bool true)], args := [d1, d2] }
  | _ => none }
def channelTellsRow : OpenClaim := { program := "ythodfihdmhkgeaa", sum := "3a3260b07067a411676746064e74cd12b2391144341f2a9bfcaa818f26964cc6", func := "anabranch/anabranchlaw39.ChannelTells", spec := "channelTells", unfollowed := true, recurses := true, apart := false }
def ChannelTellsSaid : Prop := channelTellsRow.holds Try.pinned (OpenSpec.ofChange channelTellsSpec)

/-- ITS FALSE NEIGHBOUR: 'it returns false'. Refute it at one input. -/
def channelTellsWrong : ChangeSpec := { name := "channelTells", fn := fun _ => fun
  | [d1, d2] => { results := [.lit (.bool false)], args := [d1, d2] }
  | _ => none }
def ChannelTellsWrongFalsely : Prop := channelTellsRow.holds Try.pinned (OpenSpec.ofChange channelTellsWrong)

/-- 'anabranchlaw39.ChannelParts': WHATEVER THE INPUT: true; the input reads as it did. -/
def channelPartsSpec : ChangeSpec := { name := "channelParts", fn := fun _ => fun
  | [d1, d2] => { results := [.lit (.bool true)], args := [d1, d2] }
  | _ => none }
def channelPartsRow : OpenClaim := { program := "ythodfihdmhkgeaa", sum := "3a3260b07067a411676746064e74cd12b2391144341f2a9bfcaa818f26964cc6", func := "anabranch/anabranchlaw39.ChannelParts", spec := "channelParts", unfollowed := true, recurses := true, apart := false }
def ChannelPartsSaid : Prop := channelPartsRow.holds Try.pinned (OpenSpec.ofChange channelPartsSpec)

/-- ITS FALSE NEIGHBOUR: 'it returns false'. Refute it at one input. -/
def channelPartsWrong : ChangeSpec := { name := "channelParts", fn := fun _ => fun
  | [d1, d2] => { results := [.lit (.bool false)], args := [d1, d2] }
  | _ => none }
def ChannelPartsWrongFalsely : Prop := channelPartsRow.holds Try.pinned (OpenSpec.ofChange channelPartsWrong)

/-- 'anabranchlaw21.CwndDoes': WHATEVER THE INPUT: true; the input reads as it did. -/
def cwndDoesSpec : ChangeSpec := { name := "cwndDoes", fn := fun _ => fun
  | [d] => { results := [.lit (.bool true)], args := [d] }
  | _ => none }
def cwndDoesRow : OpenClaim := { program := "ythodfihdmhkgeaa", sum := "3a3260b07067a411676746064e74cd12b2391144341f2a9bfcaa818f26964cc6", func := "anabranch/anabranchlaw21.CwndDoes", spec := "cwndDoes", apart := false }
def CwndDoesSaid : Prop := cwndDoesRow.holds Try.pinned (OpenSpec.ofChange cwndDoesSpec)

/-- ITS FALSE NEIGHBOUR: 'it returns false'. Refute it at one input. -/
def cwndDoesWrong : ChangeSpec := { name := "cwndDoes", fn := fun _ => fun
  | [d] => { results := [.lit (.bool false)], args := [d] }
  | _ => none }
def CwndDoesWrongFalsely : Prop := cwndDoesRow.holds Try.pinned (OpenSpec.ofChange cwndDoesWrong)

/-- 'anabranchlaw21.CwndOnce': WHATEVER THE INPUT: true; the input reads as it did. -/
def cwndOnceSpec : ChangeSpec := { name := "cwndOnce", fn := fun _ => fun
  | [d1, d2, d3, d4] => { results := [.lit (.bool true)], args := [d1, d2, d3, d4] }
  | _ => none }
def cwndOnceRow : OpenClaim := { program := "ythodfihdmhkgeaa", sum := "3a3260b07067a411676746064e74cd12b2391144341f2a9bfcaa818f26964cc6", func := "anabranch/anabranchlaw21.CwndOnce", spec := "cwndOnce", apart := false }
def CwndOnceSaid : Prop := cwndOnceRow.holds Try.pinned (OpenSpec.ofChange cwndOnceSpec)

/-- ITS FALSE NEIGHBOUR: 'it returns false'. Refute it at one input. -/
def cwndOnceWrong : ChangeSpec := { name := "cwndOnce", fn := fun _ => fun
  | [d1, d2, d3, d4] => { results := [.lit (.bool false)], args := [d1, d2, d3, d4] }
  | _ => none }
def CwndOnceWrongFalsely : Prop := cwndOnceRow.holds Try.pinned (OpenSpec.ofChange cwndOnceWrong)

/-- 'anabranchlaw21.CwndPieces': WHATEVER THE INPUT: true; the input reads as it did. -/
def cwndPiecesSpec : ChangeSpec := { name := "cwndPieces", fn := fun _ => fun
  | [d1, d2, d3] => { results := [.lit (.bool true)], args := [d1, d2, d3] }
  | _ => none }
def cwndPiecesRow : OpenClaim := { program := "ythodfihdmhkgeaa", sum := "3a3260b07067a411676746064e74cd12b2391144341f2a9bfcaa818f26964cc6", func := "anabranch/anabranchlaw21.CwndPieces", spec := "cwndPieces", apart := false }
def CwndPiecesSaid : Prop := cwndPiecesRow.holds Try.pinned (OpenSpec.ofChange cwndPiecesSpec)

/-- ITS FALSE NEIGHBOUR: 'it returns false'. Refute it at one input. -/
def cwndPiecesWrong : ChangeSpec := { name := "cwndPieces", fn := fun _ => fun
  | [d1, d2, d3] => { results := [.lit (.bool false)], args := [d1, d2, d3] }
  | _ => none }
def CwndPiecesWrongFalsely : Prop := cwndPiecesRow.holds Try.pinned (OpenSpec.ofChange cwndPiecesWrong)

/-- 'anabranchlaw04.InetOrder': WHATEVER THE INPUT: true; the input reads as it did. -/
def inetOrderSpec : ChangeSpec := { name := "inetOrder", fn := fun _ => fun
  | [d1, d2, d3] => { results := [.lit (.bool true)], args := [d1, d2, d3] }
  | _ => none }
def inetOrderRow : OpenClaim := { program := "ythodfihdmhkgeaa", sum := "3a3260b07067a411676746064e74cd12b2391144341f2a9bfcaa818f26964cc6", func := "anabranch/anabranchlaw04.InetOrder", spec := "inetOrder", apart := false }
def InetOrderSaid : Prop := inetOrderRow.holds Try.pinned (OpenSpec.ofChange inetOrderSpec)

/-- ITS FALSE NEIGHBOUR: 'it returns false'. Refute it at one input. -/
def inetOrderWrong : ChangeSpec := { name := "inetOrder", fn := fun _ => fun
  | [d1, d2, d3] => { results := [.lit (.bool false)], args := [d1, d2, d3] }
  | _ => none }
def InetOrderWrongFalsely : Prop := inetOrderRow.holds Try.pinned (OpenSpec.ofChange inetOrderWrong)

/-- 'anabranchlaw04.InetPatched': WHATEVER THE INPUT: true; the input reads as it did. -/
def inetPatchedSpec : ChangeSpec := { name := "inetPatched", fn := fun _ => fun
  | [d1, d2, d3] => { results := [.lit (.bool true)], args := [d1, d2, d3] }
  | _ => none }
def inetPatchedRow : OpenClaim := { program := "ythodfihdmhkgeaa", sum := "3a3260b07067a411676746064e74cd12b2391144341f2a9bfcaa818f26964cc6", func := "anabranch/anabranchlaw04.InetPatched", spec := "inetPatched", apart := false }
def InetPatchedSaid : Prop := inetPatchedRow.holds Try.pinned (OpenSpec.ofChange inetPatchedSpec)

/-- ITS FALSE NEIGHBOUR: 'it returns false'. Refute it at one input. -/
def inetPatchedWrong : ChangeSpec := { name := "inetPatched", fn := fun _ => fun
  | [d1, d2, d3] => { results := [.lit (.bool false)], args := [d1, d2, d3] }
  | _ => none }
def InetPatchedWrongFalsely : Prop := inetPatchedRow.holds Try.pinned (OpenSpec.ofChange inetPatchedWrong)

/-- 'anabranchlaw39.ChannelJust': WHATEVER THE INPUT: true; the input reads as it did. -/
def channelJustSpec : ChangeSpec := { name := "channelJust", fn := fun _ => fun
  | [d1, d2] => { results := [.lit (.bool true)], args := [d1, d2] }
  | _ => none }
def channelJustRow : OpenClaim := { program := "ythodfihdmhkgeaa", sum := "3a3260b07067a411676746064e74cd12b2391144341f2a9bfcaa818f26964cc6", func := "anabranch/anabranchlaw39.ChannelJust", spec := "channelJust", unfollowed := true, recurses := true, apart := false }
def ChannelJustSaid : Prop := channelJustRow.holds Try.pinned (OpenSpec.ofChange channelJustSpec)

/-- ITS FALSE NEIGHBOUR: 'it returns false'. Refute it at one input. -/
def channelJustWrong : ChangeSpec := { name := "channelJust", fn := fun _ => fun
  | [d1, d2] => { results := [.lit (.bool false)], args := [d1, d2] }
  | _ => none }
def ChannelJustWrongFalsely : Prop := channelJustRow.holds Try.pinned (OpenSpec.ofChange channelJustWrong)

/-- 'anabranchlaw32.QueueNumbers': WHATEVER THE INPUT: true; the input reads as it did. -/
def queueNumbersSpec : ChangeSpec := { name := "queueNumbers", fn := fun _ => fun
  | [d] => { results := [.lit (.bool true)], args := [d] }
  | _ => none }
def queueNumbersRow : OpenClaim := { program := "ythodfihdmhkgeaa", sum := "3a3260b07067a411676746064e74cd12b2391144341f2a9bfcaa818f26964cc6", func := "anabranch/anabranchlaw32.QueueNumbers", spec := "queueNumbers", apart := false }
def QueueNumbersSaid : Prop := queueNumbersRow.holds Try.pinned (OpenSpec.ofChange queueNumbersSpec)

/-- ITS FALSE NEIGHBOUR: 'it returns false'. Refute it at one input. -/
def queueNumbersWrong : ChangeSpec := { name := "queueNumbers", fn := fun _ => fun
  | [d] => { results := [.lit (.bool false)], args := [d] }
  | _ => none }
def QueueNumbersWrongFalsely : Prop := queueNumbersRow.holds Try.pinned (OpenSpec.ofChange queueNumbersWrong)

/-- 'anabranchlaw04.InetTells': WHATEVER THE INPUT: true; the input reads as it did. -/
def inetTellsSpec : ChangeSpec := { name := "inetTells", fn := fun _ => fun
  | [d1, d2, d3, d4] => { results := [.lit (.bool true)], args := [d1, d2, d3, d4] }
  | _ => none }
def inetTellsRow : OpenClaim := { program := "ythodfihdmhkgeaa", sum := "3a3260b07067a411676746064e74cd12b2391144341f2a9bfcaa818f26964cc6", func := "anabranch/anabranchlaw04.InetTells", spec := "inetTells", apart := false }
def InetTellsSaid : Prop := inetTellsRow.holds Try.pinned (OpenSpec.ofChange inetTellsSpec)

/-- ITS FALSE NEIGHBOUR: 'it returns false'. Refute it at one input. -/
def inetTellsWrong : ChangeSpec := { name := "inetTells", fn := fun _ => fun
  | [d1, d2, d3, d4] => { results := [.lit (.bool false)], args := [d1, d2, d3, d4] }
  | _ => none }
def InetTellsWrongFalsely : Prop := inetTellsRow.holds Try.pinned (OpenSpec.ofChange inetTellsWrong)

/-- 'anabranchlaw39.ChannelDoes': WHATEVER THE INPUT: true; the input reads as it did. -/
def channelDoesSpec : ChangeSpec := { name := "channelDoes", fn := fun _ => fun
  | [d] => { results := [.lit (.bool true)], args := [d] }
  | _ => none }
def channelDoesRow : OpenClaim := { program := "ythodfihdmhkgeaa", sum := "3a3260b07067a411676746064e74cd12b2391144341f2a9bfcaa818f26964cc6", func := "anabranch/anabranchlaw39.ChannelDoes", spec := "channelDoes", unfollowed := true, recurses := true, apart := false }
def ChannelDoesSaid : Prop := channelDoesRow.holds Try.pinned (OpenSpec.ofChange channelDoesSpec)

/-- ITS FALSE NEIGHBOUR: 'it returns false'. Refute it at one input. -/
def channelDoesWrong : ChangeSpec := { name := "channelDoes", fn := fun _ => fun
  | [d] => { results := [.lit (.bool false)], args := [d] }
  | _ => none }
def ChannelDoesWrongFalsely : Prop := channelDoesRow.holds Try.pinned (OpenSpec.ofChange channelDoesWrong)

/-- 'anabranchlaw32.QueueDoes': WHATEVER THE INPUT: true; the input reads as it did. -/
def queueDoesSpec : ChangeSpec := { name := "queueDoes", fn := fun _ => fun
  | [d] => { results := [.lit (.bool true)], args := [d] }
  | _ => none }
def queueDoesRow : OpenClaim := { program := "ythodfihdmhkgeaa", sum := "3a3260b07067a411676746064e74cd12b2391144341f2a9bfcaa818f26964cc6", func := "anabranch/anabranchlaw32.QueueDoes", spec := "queueDoes", apart := false }
def QueueDoesSaid : Prop := queueDoesRow.holds Try.pinned (OpenSpec.ofChange queueDoesSpec)

/-- ITS FALSE NEIGHBOUR: 'it returns false'. Refute it at one input. -/
def queueDoesWrong : ChangeSpec := { name := "queueDoes", fn := fun _ => fun
  | [d] => { results := [.lit (.bool false)], args := [d] }
  | _ => none }
def QueueDoesWrongFalsely : Prop := queueDoesRow.holds Try.pinned (OpenSpec.ofChange queueDoesWrong)

/- THE SECOND FORM. 'bulk': how many values and letters a reading holds, each counted each time it is reached (what is shared counts as often as it is met; a slice's spare places count too). A statement '..UptoSaid' is the law's where the arguments, and the package variables that the reading takes, are together of bulk at most 1048576: NARROWER than '..Said'. Prove '..Said' where nothing that the law and all that it calls make is longer than what came in: it says more and counts as full. Else prove '..UptoSaid'. A law counts once. -/
mutual
def uptoBulk {H : Type} : DataW H → Nat
  | .lit (.string bytes) => bytes.length + 1
  | .lit _ => 1
  | .nil => 1
  | .ptr d => uptoBulk d + 1
  | .slice elems spare => uptoBulkAll elems + uptoBulkAll spare + 1
  | .agg parts => uptoBulkAll parts + 1
  | .iface _ d => uptoBulk d + 1
  | .map entries => uptoBulkEntries entries + 1
  | .held _ => 1
def uptoBulkAll {H : Type} : List (DataW H) → Nat
  | [] => 0
  | d :: r => uptoBulk d + uptoBulkAll r
def uptoBulkEntries {H : Type} : List (Lit × DataW H) → Nat
  | [] => 0
  | x :: r => uptoBulkEntry x + uptoBulkEntries r
def uptoBulkEntry {H : Type} : Lit × DataW H → Nat
  | (.string bytes, d) => bytes.length + uptoBulk d + 1
  | (_, d) => uptoBulk d + 1
 end
def uptoSmall : (H : Type) → List (DataW H) → Bool := fun _ ds => decide (uptoBulkAll ds ≤ 1048576)
def OpenSpec.upto (s : _root_.Go.ChangeSpec) : _root_.Go.OpenSpec := { _root_.Go.OpenSpec.ofChange s with cond := some uptoSmall }

/-- 'anabranchlaw39.ChannelTells', WHERE WHAT IT READS IS OF BULK AT MOST 1048576: true; the input reads as it did. -/
def channelTellsUptoRow : OpenClaim := { program := "ythodfihdmhkgeaa", sum := "3a3260b07067a411676746064e74cd12b2391144341f2a9bfcaa818f26964cc6", func := "anabranch/anabranchlaw39.ChannelTells", spec := "channelTells", unfollowed := true, recurses := true, apart := false, narrowed := true }
def ChannelTellsUptoSaid : Prop := channelTellsUptoRow.holds Try.pinned (OpenSpec.upto channelTellsSpec)

/-- 'anabranchlaw39.ChannelParts', WHERE WHAT IT READS IS OF BULK AT MOST 1048576: true; the input reads as it did. -/
def channelPartsUptoRow : OpenClaim := { program := "ythodfihdmhkgeaa", sum := "3a3260b07067a411676746064e74cd12b2391144341f2a9bfcaa818f26964cc6", func := "anabranch/anabranchlaw39.ChannelParts", spec := "channelParts", unfollowed := true, recurses := true, apart := false, narrowed := true }
def ChannelPartsUptoSaid : Prop := channelPartsUptoRow.holds Try.pinned (OpenSpec.upto channelPartsSpec)

/-- 'anabranchlaw21.CwndDoes', WHERE WHAT IT READS IS OF BULK AT MOST 1048576: true; the input reads as it did. -/
def cwndDoesUptoRow : OpenClaim := { program := "ythodfihdmhkgeaa", sum := "3a3260b07067a411676746064e74cd12b2391144341f2a9bfcaa818f26964cc6", func := "anabranch/anabranchlaw21.CwndDoes", spec := "cwndDoes", apart := false, narrowed := true }
def CwndDoesUptoSaid : Prop := cwndDoesUptoRow.holds Try.pinned (OpenSpec.upto cwndDoesSpec)

/-- 'anabranchlaw21.CwndOnce', WHERE WHAT IT READS IS OF BULK AT MOST 1048576: true; the input reads as it did. -/
def cwndOnceUptoRow : OpenClaim := { program := "ythodfihdmhkgeaa", sum := "3a3260b07067a411676746064e74cd12b2391144341f2a9bfcaa818f26964cc6", func := "anabranch/anabranchlaw21.CwndOnce", spec := "cwndOnce", apart := false, narrowed := true }
def CwndOnceUptoSaid : Prop := cwndOnceUptoRow.holds Try.pinned (OpenSpec.upto cwndOnceSpec)

/-- 'anabranchlaw21.CwndPieces', WHERE WHAT IT READS IS OF BULK AT MOST 1048576: true; the input reads as it did. -/
def cwndPiecesUptoRow : OpenClaim := { program := "ythodfihdmhkgeaa", sum := "3a3260b07067a411676746064e74cd12b2391144341f2a9bfcaa818f26964cc6", func := "anabranch/anabranchlaw21.CwndPieces", spec := "cwndPieces", apart := false, narrowed := true }
def CwndPiecesUptoSaid : Prop := cwndPiecesUptoRow.holds Try.pinned (OpenSpec.upto cwndPiecesSpec)

/-- 'anabranchlaw04.InetOrder', WHERE WHAT IT READS IS OF BULK AT MOST 1048576: true; the input reads as it did. -/
def inetOrderUptoRow : OpenClaim := { program := "ythodfihdmhkgeaa", sum := "3a3260b07067a411676746064e74cd12b2391144341f2a9bfcaa818f26964cc6", func := "anabranch/anabranchlaw04.InetOrder", spec := "inetOrder", apart := false, narrowed := true }
def InetOrderUptoSaid : Prop := inetOrderUptoRow.holds Try.pinned (OpenSpec.upto inetOrderSpec)

/-- 'anabranchlaw04.InetPatched', WHERE WHAT IT READS IS OF BULK AT MOST 1048576: true; the input reads as it did. -/
def inetPatchedUptoRow : OpenClaim := { program := "ythodfihdmhkgeaa", sum := "3a3260b07067a411676746064e74cd12b2391144341f2a9bfcaa818f26964cc6", func := "anabranch/anabranchlaw04.InetPatched", spec := "inetPatched", apart := false, narrowed := true }
def InetPatchedUptoSaid : Prop := inetPatchedUptoRow.holds Try.pinned (OpenSpec.upto inetPatchedSpec)

/-- 'anabranchlaw39.ChannelJust', WHERE WHAT IT READS IS OF BULK AT MOST 1048576: true; the input reads as it did. -/
def channelJustUptoRow : OpenClaim := { program := "ythodfihdmhkgeaa", sum := "3a3260b07067a411676746064e74cd12b2391144341f2a9bfcaa818f26964cc6", func := "anabranch/anabranchlaw39.ChannelJust", spec := "channelJust", unfollowed := true, recurses := true, apart := false, narrowed := true }
def ChannelJustUptoSaid : Prop := channelJustUptoRow.holds Try.pinned (OpenSpec.upto channelJustSpec)

/-- 'anabranchlaw32.QueueNumbers', WHERE WHAT IT READS IS OF BULK AT MOST 1048576: true; the input reads as it did. -/
def queueNumbersUptoRow : OpenClaim := { program := "ythodfihdmhkgeaa", sum := "3a3260b07067a411676746064e74cd12b2391144341f2a9bfcaa818f26964cc6", func := "anabranch/anabranchlaw32.QueueNumbers", spec := "queueNumbers", apart := false, narrowed := true }
def QueueNumbersUptoSaid : Prop := queueNumbersUptoRow.holds Try.pinned (OpenSpec.upto queueNumbersSpec)

/-- 'anabranchlaw04.InetTells', WHERE WHAT IT READS IS OF BULK AT MOST 1048576: true; the input reads as it did. -/
def inetTellsUptoRow : OpenClaim := { program := "ythodfihdmhkgeaa", sum := "3a3260b07067a411676746064e74cd12b2391144341f2a9bfcaa818f26964cc6", func := "anabranch/anabranchlaw04.InetTells", spec := "inetTells", apart := false, narrowed := true }
def InetTellsUptoSaid : Prop := inetTellsUptoRow.holds Try.pinned (OpenSpec.upto inetTellsSpec)

/-- 'anabranchlaw39.ChannelDoes', WHERE WHAT IT READS IS OF BULK AT MOST 1048576: true; the input reads as it did. -/
def channelDoesUptoRow : OpenClaim := { program := "ythodfihdmhkgeaa", sum := "3a3260b07067a411676746064e74cd12b2391144341f2a9bfcaa818f26964cc6", func := "anabranch/anabranchlaw39.ChannelDoes", spec := "channelDoes", unfollowed := true, recurses := true, apart := false, narrowed := true }
def ChannelDoesUptoSaid : Prop := channelDoesUptoRow.holds Try.pinned (OpenSpec.upto channelDoesSpec)

/-- 'anabranchlaw32.QueueDoes', WHERE WHAT IT READS IS OF BULK AT MOST 1048576: true; the input reads as it did. -/
def queueDoesUptoRow : OpenClaim := { program := "ythodfihdmhkgeaa", sum := "3a3260b07067a411676746064e74cd12b2391144341f2a9bfcaa818f26964cc6", func := "anabranch/anabranchlaw32.QueueDoes", spec := "queueDoes", apart := false, narrowed := true }
def QueueDoesUptoSaid : Prop := queueDoesUptoRow.holds Try.pinned (OpenSpec.upto queueDoesSpec)

end Rows
end Go.Proofs.Ythodfihdmhkgeaa
