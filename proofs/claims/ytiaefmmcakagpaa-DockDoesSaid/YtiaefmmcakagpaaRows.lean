/-
  No cell of these rows narrows 'for every input' (looked for: loops, veiled, ifaces, maps, wideKeys, modest, calm, conditions, laid).
  DERIVED. THE GIVEN ROWS OF THIS SEAT. 8 by the template 'for every input the law returns true; each argument reads behind the call as it read before'; 0 by the template 'total and deterministic' (their statements: YtiaefmmcakagpaaTotals.lean).
  GIVEN WITH THE SEED: the statements are not yours to turn. If you find one false, say at which input.
  Laid BY PROGRAM, IN A SANDBOX (cutbox-rows.mjs): the forced cells as the released guide's own fill.sh prints them over the translation 49ba9a825bf4afdc… (all of the seat's roots in one cut). By AI agents, Wed Nov 11 2026. No macro, syntax, notation, axiom, sorry.
-/
import Derived.Test.YtiaefmmcakagpaaChecked
import GoSem.Claim
import GoSem.ClaimJoined
import GoSem.ClaimMapViews
import Derived.JoinedTies
import Derived.KernelRfl
namespace Go.Proofs.Ytiaefmmcakagpaa
/- THE CELL 'sum', in the pinned program and in every row, IS THE sha256 OF THE DUMP (.gsa) THAT YtiaefmmcakagpaaProg.lean LOADS. Nothing in Lean hashes anything: it is a label: what it is worth is what the hold of that sum in a sandbox is worth. -/
noncomputable def Try.pinned : Pinned := { name := "ytiaefmmcakagpaa", sum := "49ba9a825bf4afdc7fc54a93df400a91bb7ddcea753e7daa804e7c22446ae537", checked := Try.checked }
namespace Rows
def none {H : Type} : Left H := { results := [], args := [] }

/-- 'anabranchlaw12.DockDoes': WHATEVER THE INPUT: true; the input reads as it did. -/
def dockDoesSpec : ChangeSpec := { name := "dockDoes", fn := fun _ => fun
  | [d1, d2, d3] => { results := [.lit (.bool true)], args := [d1, d2, d3] }
  | _ => none }
def dockDoesRow : OpenClaim := { program := "ytiaefmmcakagpaa", sum := "49ba9a825bf4afdc7fc54a93df400a91bb7ddcea753e7daa804e7c22446ae537", func := "anabranch/anabranchlaw12.DockDoes", spec := "dockDoes", inPlace := ["slices.overlaps[int]"], unfollowed := true, recurses := true, apart := false }
def DockDoesSaid : Prop := dockDoesRow.holds Try.pinned (OpenSpec.ofChange dockDoesSpec)

/-- ITS FALSE NEIGHBOUR: 'it returns false'. Refute it at one input. -/
def dockDoesWrong : ChangeSpec := { name := "dockDoes", fn := fun _ => fun
  | [d1, d2, d3] => { results := [.lit (.bool false)], args := [d1, d2, d3] }
  | _ => none }
def DockDoesWrongFalsely : Prop := dockDoesRow.holds Try.pinned (OpenSpec.ofChange dockDoesWrong)

/-- 'anabranchlaw34.SiftRises': WHATEVER THE INPUT: true; the input reads as it did. -/
def siftRisesSpec : ChangeSpec := { name := "siftRises", fn := fun _ => fun
  | [d] => { results := [.lit (.bool true)], args := [d] }
  | _ => none }
def siftRisesRow : OpenClaim := { program := "ytiaefmmcakagpaa", sum := "49ba9a825bf4afdc7fc54a93df400a91bb7ddcea753e7daa804e7c22446ae537", func := "anabranch/anabranchlaw34.SiftRises", spec := "siftRises", inPlace := ["slices.overlaps[anabranch/sift.waiting]"], unfollowed := true, recurses := true, apart := false }
def SiftRisesSaid : Prop := siftRisesRow.holds Try.pinned (OpenSpec.ofChange siftRisesSpec)

/-- ITS FALSE NEIGHBOUR: 'it returns false'. Refute it at one input. -/
def siftRisesWrong : ChangeSpec := { name := "siftRises", fn := fun _ => fun
  | [d] => { results := [.lit (.bool false)], args := [d] }
  | _ => none }
def SiftRisesWrongFalsely : Prop := siftRisesRow.holds Try.pinned (OpenSpec.ofChange siftRisesWrong)

/-- 'anabranchlaw34.SiftDoes': WHATEVER THE INPUT: true; the input reads as it did. -/
def siftDoesSpec : ChangeSpec := { name := "siftDoes", fn := fun _ => fun
  | [d] => { results := [.lit (.bool true)], args := [d] }
  | _ => none }
def siftDoesRow : OpenClaim := { program := "ytiaefmmcakagpaa", sum := "49ba9a825bf4afdc7fc54a93df400a91bb7ddcea753e7daa804e7c22446ae537", func := "anabranch/anabranchlaw34.SiftDoes", spec := "siftDoes", inPlace := ["slices.overlaps[anabranch/sift.waiting]"], unfollowed := true, recurses := true, apart := false }
def SiftDoesSaid : Prop := siftDoesRow.holds Try.pinned (OpenSpec.ofChange siftDoesSpec)

/-- ITS FALSE NEIGHBOUR: 'it returns false'. Refute it at one input. -/
def siftDoesWrong : ChangeSpec := { name := "siftDoes", fn := fun _ => fun
  | [d] => { results := [.lit (.bool false)], args := [d] }
  | _ => none }
def SiftDoesWrongFalsely : Prop := siftDoesRow.holds Try.pinned (OpenSpec.ofChange siftDoesWrong)

/-- 'anabranchlaw35.OrderStraight': WHATEVER THE INPUT: true; the input reads as it did. -/
def orderStraightSpec : ChangeSpec := { name := "orderStraight", fn := fun _ => fun
  | [d] => { results := [.lit (.bool true)], args := [d] }
  | _ => none }
def orderStraightRow : OpenClaim := { program := "ytiaefmmcakagpaa", sum := "49ba9a825bf4afdc7fc54a93df400a91bb7ddcea753e7daa804e7c22446ae537", func := "anabranch/anabranchlaw35.OrderStraight", spec := "orderStraight", inPlace := ["slices.overlaps[anabranch/sift.waiting]"], unfollowed := true, recurses := true, apart := false }
def OrderStraightSaid : Prop := orderStraightRow.holds Try.pinned (OpenSpec.ofChange orderStraightSpec)

/-- ITS FALSE NEIGHBOUR: 'it returns false'. Refute it at one input. -/
def orderStraightWrong : ChangeSpec := { name := "orderStraight", fn := fun _ => fun
  | [d] => { results := [.lit (.bool false)], args := [d] }
  | _ => none }
def OrderStraightWrongFalsely : Prop := orderStraightRow.holds Try.pinned (OpenSpec.ofChange orderStraightWrong)

/-- 'anabranchlaw35.OrderCounts': WHATEVER THE INPUT: true; the input reads as it did. -/
def orderCountsSpec : ChangeSpec := { name := "orderCounts", fn := fun _ => fun
  | [d1, d2] => { results := [.lit (.bool true)], args := [d1, d2] }
  | _ => none }
def orderCountsRow : OpenClaim := { program := "ytiaefmmcakagpaa", sum := "49ba9a825bf4afdc7fc54a93df400a91bb7ddcea753e7daa804e7c22446ae537", func := "anabranch/anabranchlaw35.OrderCounts", spec := "orderCounts", inPlace := ["slices.overlaps[anabranch/sift.waiting]"], unfollowed := true, recurses := true, apart := false }
def OrderCountsSaid : Prop := orderCountsRow.holds Try.pinned (OpenSpec.ofChange orderCountsSpec)

/-- ITS FALSE NEIGHBOUR: 'it returns false'. Refute it at one input. -/
def orderCountsWrong : ChangeSpec := { name := "orderCounts", fn := fun _ => fun
  | [d1, d2] => { results := [.lit (.bool false)], args := [d1, d2] }
  | _ => none }
def OrderCountsWrongFalsely : Prop := orderCountsRow.holds Try.pinned (OpenSpec.ofChange orderCountsWrong)

/-- 'anabranchlaw35.OrderDoes': WHATEVER THE INPUT: true; the input reads as it did. -/
def orderDoesSpec : ChangeSpec := { name := "orderDoes", fn := fun _ => fun
  | [d1, d2] => { results := [.lit (.bool true)], args := [d1, d2] }
  | _ => none }
def orderDoesRow : OpenClaim := { program := "ytiaefmmcakagpaa", sum := "49ba9a825bf4afdc7fc54a93df400a91bb7ddcea753e7daa804e7c22446ae537", func := "anabranch/anabranchlaw35.OrderDoes", spec := "orderDoes", inPlace := ["slices.overlaps[anabranch/sift.waiting]"], unfollowed := true, recurses := true, apart := false }
def OrderDoesSaid : Prop := orderDoesRow.holds Try.pinned (OpenSpec.ofChange orderDoesSpec)

/-- ITS FALSE NEIGHBOUR: 'it returns false'. Refute it at one input. -/
def orderDoesWrong : ChangeSpec := { name := "orderDoes", fn := fun _ => fun
  | [d1, d2] => { results := [.lit (.bool false)], args := [d1, d2] }
  | _ => none }
def OrderDoesWrongFalsely : Prop := orderDoesRow.holds Try.pinned (OpenSpec.ofChange orderDoesWrong)

/-- 'anabranchlaw35.OrderHeld': WHATEVER THE INPUT: true; the input reads as it did. -/
def orderHeldSpec : ChangeSpec := { name := "orderHeld", fn := fun _ => fun
  | [d1, d2, d3] => { results := [.lit (.bool true)], args := [d1, d2, d3] }
  | _ => none }
def orderHeldRow : OpenClaim := { program := "ytiaefmmcakagpaa", sum := "49ba9a825bf4afdc7fc54a93df400a91bb7ddcea753e7daa804e7c22446ae537", func := "anabranch/anabranchlaw35.OrderHeld", spec := "orderHeld", inPlace := ["slices.overlaps[anabranch/sift.waiting]"], unfollowed := true, recurses := true, apart := false }
def OrderHeldSaid : Prop := orderHeldRow.holds Try.pinned (OpenSpec.ofChange orderHeldSpec)

/-- ITS FALSE NEIGHBOUR: 'it returns false'. Refute it at one input. -/
def orderHeldWrong : ChangeSpec := { name := "orderHeld", fn := fun _ => fun
  | [d1, d2, d3] => { results := [.lit (.bool false)], args := [d1, d2, d3] }
  | _ => none }
def OrderHeldWrongFalsely : Prop := orderHeldRow.holds Try.pinned (OpenSpec.ofChange orderHeldWrong)

/-- 'anabranchlaw35.OrderDeadline': WHATEVER THE INPUT: true; the input reads as it did. -/
def orderDeadlineSpec : ChangeSpec := { name := "orderDeadline", fn := fun _ => fun
  | [d1, d2] => { results := [.lit (.bool true)], args := [d1, d2] }
  | _ => none }
def orderDeadlineRow : OpenClaim := { program := "ytiaefmmcakagpaa", sum := "49ba9a825bf4afdc7fc54a93df400a91bb7ddcea753e7daa804e7c22446ae537", func := "anabranch/anabranchlaw35.OrderDeadline", spec := "orderDeadline", inPlace := ["slices.overlaps[anabranch/sift.waiting]"], unfollowed := true, recurses := true, apart := false }
def OrderDeadlineSaid : Prop := orderDeadlineRow.holds Try.pinned (OpenSpec.ofChange orderDeadlineSpec)

/-- ITS FALSE NEIGHBOUR: 'it returns false'. Refute it at one input. -/
def orderDeadlineWrong : ChangeSpec := { name := "orderDeadline", fn := fun _ => fun
  | [d1, d2] => { results := [.lit (.bool false)], args := [d1, d2] }
  | _ => none }
def OrderDeadlineWrongFalsely : Prop := orderDeadlineRow.holds Try.pinned (OpenSpec.ofChange orderDeadlineWrong)

/- THE SECOND FORM. 'bulk': how many values and letters a reading holds, each counted each time it is reached (what is shared counts as often as it is met; a slice's spare places count too). A statement '..UptoSaid' is the law's where the arguments, and the package variables that the reading takes, are together of bulk at most 1048576: NARROWER than '..Said'. Prove '..Said' where nothing that the law and all that it calls make is longer than what came in: it says more and counts as full. Else prove '..UptoSaid'. A law counts once. -/
mutual
def uptoBulk {H : Type} : DataW H → Nat
  | .lit (.string bytes) => bytes.length + 1
  | .lit _ => 1
  | .nil => 1
  | .ptr d => uptoBulk d + 1
  | .slice elems spare => uptoBulkAll elems + uptoBulkAll spare + 1
  | .agg parts => uptoBulkAll parts + 1
  | .iface _ d => uptoBulk d + 1
  | .map entries => uptoBulkEntries entries + 1
  | .held _ => 1
def uptoBulkAll {H : Type} : List (DataW H) → Nat
  | [] => 0
  | d :: r => uptoBulk d + uptoBulkAll r
def uptoBulkEntries {H : Type} : List (Lit × DataW H) → Nat
  | [] => 0
  | x :: r => uptoBulkEntry x + uptoBulkEntries r
def uptoBulkEntry {H : Type} : Lit × DataW H → Nat
  | (.string bytes, d) => bytes.length + uptoBulk d + 1
  | (_, d) => uptoBulk d + 1
 end
def uptoSmall : (H : Type) → List (DataW H) → Bool := fun _ ds => decide (uptoBulkAll ds ≤ 1048576)
def OpenSpec.upto (s : _root_.Go.ChangeSpec) : _root_.Go.OpenSpec := { _root_.Go.OpenSpec.ofChange s with cond := some uptoSmall }

/-- 'anabranchlaw12.DockDoes', WHERE WHAT IT READS IS OF BULK AT MOST 1048576: true; the input reads as it did. -/
def dockDoesUptoRow : OpenClaim := { program := "ytiaefmmcakagpaa", sum := "49ba9a825bf4afdc7fc54a93df400a91bb7ddcea753e7daa804e7c22446ae537", func := "anabranch/anabranchlaw12.DockDoes", spec := "dockDoes", inPlace := ["slices.overlaps[int]"], unfollowed := true, recurses := true, apart := false, narrowed := true }
def DockDoesUptoSaid : Prop := dockDoesUptoRow.holds Try.pinned (OpenSpec.upto dockDoesSpec)

/-- 'anabranchlaw34.SiftRises', WHERE WHAT IT READS IS OF BULK AT MOST 1048576: true; the input reads as it did. -/
def siftRisesUptoRow : OpenClaim := { program := "ytiaefmmcakagpaa", sum := "49ba9a825bf4afdc7fc54a93df400a91bb7ddcea753e7daa804e7c22446ae537", func := "anabranch/anabranchlaw34.SiftRises", spec := "siftRises", inPlace := ["slices.overlaps[anabranch/sift.waiting]"], unfollowed := true, recurses := true, apart := false, narrowed := true }
def SiftRisesUptoSaid : Prop := siftRisesUptoRow.holds Try.pinned (OpenSpec.upto siftRisesSpec)

/-- 'anabranchlaw34.SiftDoes', WHERE WHAT IT READS IS OF BULK AT MOST 1048576: true; the input reads as it did. -/
def siftDoesUptoRow : OpenClaim := { program := "ytiaefmmcakagpaa", sum := "49ba9a825bf4afdc7fc54a93df400a91bb7ddcea753e7daa804e7c22446ae537", func := "anabranch/anabranchlaw34.SiftDoes", spec := "siftDoes", inPlace := ["slices.overlaps[anabranch/sift.waiting]"], unfollowed := true, recurses := true, apart := false, narrowed := true }
def SiftDoesUptoSaid : Prop := siftDoesUptoRow.holds Try.pinned (OpenSpec.upto siftDoesSpec)

/-- 'anabranchlaw35.OrderStraight', WHERE WHAT IT READS IS OF BULK AT MOST 1048576: true; the input reads as it did. -/
def orderStraightUptoRow : OpenClaim := { program := "ytiaefmmcakagpaa", sum := "49ba9a825bf4afdc7fc54a93df400a91bb7ddcea753e7daa804e7c22446ae537", func := "anabranch/anabranchlaw35.OrderStraight", spec := "orderStraight", inPlace := ["slices.overlaps[anabranch/sift.waiting]"], unfollowed := true, recurses := true, apart := false, narrowed := true }
def OrderStraightUptoSaid : Prop := orderStraightUptoRow.holds Try.pinned (OpenSpec.upto orderStraightSpec)

/-- 'anabranchlaw35.OrderCounts', WHERE WHAT IT READS IS OF BULK AT MOST 1048576: true; the input reads as it did. -/
def orderCountsUptoRow : OpenClaim := { program := "ytiaefmmcakagpaa", sum := "49ba9a825bf4afdc7fc54a93df400a91bb7ddcea753e7daa804e7c22446ae537", func := "anabranch/anabranchlaw35.OrderCounts", spec := "orderCounts", inPlace := ["slices.overlaps[anabranch/sift.waiting]"], unfollowed := true, recurses := true, apart := false, narrowed := true }
def OrderCountsUptoSaid : Prop := orderCountsUptoRow.holds Try.pinned (OpenSpec.upto orderCountsSpec)

/-- 'anabranchlaw35.OrderDoes', WHERE WHAT IT READS IS OF BULK AT MOST 1048576: true; the input reads as it did. -/
def orderDoesUptoRow : OpenClaim := { program := "ytiaefmmcakagpaa", sum := "49ba9a825bf4afdc7fc54a93df400a91bb7ddcea753e7daa804e7c22446ae537", func := "anabranch/anabranchlaw35.OrderDoes", spec := "orderDoes", inPlace := ["slices.overlaps[anabranch/sift.waiting]"], unfollowed := true, recurses := true, apart := false, narrowed := true }
def OrderDoesUptoSaid : Prop := orderDoesUptoRow.holds Try.pinned (OpenSpec.upto orderDoesSpec)

/-- 'anabranchlaw35.OrderHeld', WHERE WHAT IT READS IS OF BULK AT MOST 1048576: true; the input reads as it did. -/
def orderHeldUptoRow : OpenClaim := { program := "ytiaefmmcakagpaa", sum := "49ba9a825bf4afdc7fc54a93df400a91bb7ddcea753e7daa804e7c22446ae537", func := "anabranch/anabranchlaw35.OrderHeld", spec := "orderHeld", inPlace := ["slices.overlaps[anabranch/sift.waiting]"], unfollowed := true, recurses := true, apart := false, narrowed := true }
def OrderHeldUptoSaid : Prop := orderHeldUptoRow.holds Try.pinned (OpenSpec.upto orderHeldSpec)

/-- 'anabranchlaw35.OrderDeadline', WHERE WHAT IT READS IS OF BULK AT MOST 1048576: true; the input reads as it did. -/
def orderDeadlineUptoRow : OpenClaim := { program := "ytiaefmmcakagpaa", sum := "49ba9a825bf4afdc7fc54a93df400a91bb7ddcea753e7daa804e7c22446ae537", func := "anabranch/anabranchlaw35.OrderDeadline", spec := "orderDeadline", inPlace := ["slices.overlaps[anabranch/sift.waiting]"], unfollowed := true, recurses := true, apart := false, narrowed := true }
def OrderDeadlineUptoSaid : Prop := orderDeadlineUptoRow.holds Try.pinned (OpenSpec.upto orderDeadlineSpec)

end Rows
end Go.Proofs.Ytiaefmmcakagpaa
