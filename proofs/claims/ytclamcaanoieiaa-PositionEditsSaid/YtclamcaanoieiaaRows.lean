/-
  No cell of these rows narrows 'for every input' (looked for: loops, veiled, ifaces, maps, wideKeys, modest, calm, conditions, laid).
  DERIVED. THE GIVEN ROWS OF THIS SEAT. 9 by the template 'for every input the law returns true; each argument reads behind the call as it read before'; 0 by the template 'total and deterministic' (their statements: YtclamcaanoieiaaTotals.lean).
  GIVEN WITH THE SEED: the statements are not yours to turn. If you find one false, say at which input.
  Laid BY PROGRAM, IN A SANDBOX (cutbox-rows.mjs): the forced cells as the released guide's own fill.sh prints them over the translation e8a548a55bbd2c8a… (all of the seat's roots in one cut). By AI agents, Wed Nov 11 2026. No macro, syntax, notation, axiom, sorry.
-/
import Derived.Test.YtclamcaanoieiaaChecked
import GoSem.Claim
import GoSem.ClaimJoined
import GoSem.ClaimMapViews
import Derived.JoinedTies
import Derived.KernelRfl
namespace Go.Proofs.Ytclamcaanoieiaa
/- THE CELL 'sum', in the pinned program and in every row, IS THE sha256 OF THE DUMP (.gsa) THAT YtclamcaanoieiaaProg.lean LOADS. Nothing in Lean hashes anything: it is a label: what it is worth is what the hold of that sum in a sandbox is worth. -/
noncomputable def Try.pinned : Pinned := { name := "ytclamcaanoieiaa", sum := "e8a548a55bbd2c8aee7d8f14e5222f5b0df6f08b897e658a62f14b7d3e6bf6c8", checked := Try.checked }
namespace Rows
def none {H : Type} : Left H := { results := [], args := [] }

/-- 'schemalenslaw03.PositionUnits': WHATEVER THE INPUT: true; the input reads as it did. -/
def positionUnitsSpec : ChangeSpec := { name := "positionUnits", fn := fun _ => fun
  | [d1, d2] => { results := [.lit (.bool true)], args := [d1, d2] }
  | _ => none }
def positionUnitsRow : OpenClaim := { program := "ytclamcaanoieiaa", sum := "e8a548a55bbd2c8aee7d8f14e5222f5b0df6f08b897e658a62f14b7d3e6bf6c8", func := "schemalens/schemalenslaw03.PositionUnits", spec := "positionUnits", unfollowed := true, recurses := true, apart := false }
def PositionUnitsSaid : Prop := positionUnitsRow.holds Try.pinned (OpenSpec.ofChange positionUnitsSpec)

/-- ITS FALSE NEIGHBOUR: 'it returns false'. Refute it at one input. -/
def positionUnitsWrong : ChangeSpec := { name := "positionUnits", fn := fun _ => fun
  | [d1, d2] => { results := [.lit (.bool false)], args := [d1, d2] }
  | _ => none }
def PositionUnitsWrongFalsely : Prop := positionUnitsRow.holds Try.pinned (OpenSpec.ofChange positionUnitsWrong)

/-- 'schemalenslaw03.PositionOffset': WHATEVER THE INPUT: true; the input reads as it did. -/
def positionOffsetSpec : ChangeSpec := { name := "positionOffset", fn := fun _ => fun
  | [d1, d2, d3] => { results := [.lit (.bool true)], args := [d1, d2, d3] }
  | _ => none }
def positionOffsetRow : OpenClaim := { program := "ytclamcaanoieiaa", sum := "e8a548a55bbd2c8aee7d8f14e5222f5b0df6f08b897e658a62f14b7d3e6bf6c8", func := "schemalens/schemalenslaw03.PositionOffset", spec := "positionOffset", unfollowed := true, recurses := true, apart := false }
def PositionOffsetSaid : Prop := positionOffsetRow.holds Try.pinned (OpenSpec.ofChange positionOffsetSpec)

/-- ITS FALSE NEIGHBOUR: 'it returns false'. Refute it at one input. -/
def positionOffsetWrong : ChangeSpec := { name := "positionOffset", fn := fun _ => fun
  | [d1, d2, d3] => { results := [.lit (.bool false)], args := [d1, d2, d3] }
  | _ => none }
def PositionOffsetWrongFalsely : Prop := positionOffsetRow.holds Try.pinned (OpenSpec.ofChange positionOffsetWrong)

/-- 'schemalenslaw03.PositionAt': WHATEVER THE INPUT: true; the input reads as it did. -/
def positionAtSpec : ChangeSpec := { name := "positionAt", fn := fun _ => fun
  | [d1, d2, d3] => { results := [.lit (.bool true)], args := [d1, d2, d3] }
  | _ => none }
def positionAtRow : OpenClaim := { program := "ytclamcaanoieiaa", sum := "e8a548a55bbd2c8aee7d8f14e5222f5b0df6f08b897e658a62f14b7d3e6bf6c8", func := "schemalens/schemalenslaw03.PositionAt", spec := "positionAt", unfollowed := true, recurses := true, apart := false }
def PositionAtSaid : Prop := positionAtRow.holds Try.pinned (OpenSpec.ofChange positionAtSpec)

/-- ITS FALSE NEIGHBOUR: 'it returns false'. Refute it at one input. -/
def positionAtWrong : ChangeSpec := { name := "positionAt", fn := fun _ => fun
  | [d1, d2, d3] => { results := [.lit (.bool false)], args := [d1, d2, d3] }
  | _ => none }
def PositionAtWrongFalsely : Prop := positionAtRow.holds Try.pinned (OpenSpec.ofChange positionAtWrong)

/-- 'schemalenslaw03.PositionRound': WHATEVER THE INPUT: true; the input reads as it did. -/
def positionRoundSpec : ChangeSpec := { name := "positionRound", fn := fun _ => fun
  | [d1, d2] => { results := [.lit (.bool true)], args := [d1, d2] }
  | _ => none }
def positionRoundRow : OpenClaim := { program := "ytclamcaanoieiaa", sum := "e8a548a55bbd2c8aee7d8f14e5222f5b0df6f08b897e658a62f14b7d3e6bf6c8", func := "schemalens/schemalenslaw03.PositionRound", spec := "positionRound", unfollowed := true, recurses := true, apart := false }
def PositionRoundSaid : Prop := positionRoundRow.holds Try.pinned (OpenSpec.ofChange positionRoundSpec)

/-- ITS FALSE NEIGHBOUR: 'it returns false'. Refute it at one input. -/
def positionRoundWrong : ChangeSpec := { name := "positionRound", fn := fun _ => fun
  | [d1, d2] => { results := [.lit (.bool false)], args := [d1, d2] }
  | _ => none }
def PositionRoundWrongFalsely : Prop := positionRoundRow.holds Try.pinned (OpenSpec.ofChange positionRoundWrong)

/-- 'schemalenslaw03.PositionOrder': WHATEVER THE INPUT: true; the input reads as it did. -/
def positionOrderSpec : ChangeSpec := { name := "positionOrder", fn := fun _ => fun
  | [d1, d2, d3, d4] => { results := [.lit (.bool true)], args := [d1, d2, d3, d4] }
  | _ => none }
def positionOrderRow : OpenClaim := { program := "ytclamcaanoieiaa", sum := "e8a548a55bbd2c8aee7d8f14e5222f5b0df6f08b897e658a62f14b7d3e6bf6c8", func := "schemalens/schemalenslaw03.PositionOrder", spec := "positionOrder", unfollowed := true, recurses := true, apart := false }
def PositionOrderSaid : Prop := positionOrderRow.holds Try.pinned (OpenSpec.ofChange positionOrderSpec)

/-- ITS FALSE NEIGHBOUR: 'it returns false'. Refute it at one input. -/
def positionOrderWrong : ChangeSpec := { name := "positionOrder", fn := fun _ => fun
  | [d1, d2, d3, d4] => { results := [.lit (.bool false)], args := [d1, d2, d3, d4] }
  | _ => none }
def PositionOrderWrongFalsely : Prop := positionOrderRow.holds Try.pinned (OpenSpec.ofChange positionOrderWrong)

/-- 'schemalenslaw03.PositionParts': WHATEVER THE INPUT: true; the input reads as it did. -/
def positionPartsSpec : ChangeSpec := { name := "positionParts", fn := fun _ => fun
  | [d1, d2, d3] => { results := [.lit (.bool true)], args := [d1, d2, d3] }
  | _ => none }
def positionPartsRow : OpenClaim := { program := "ytclamcaanoieiaa", sum := "e8a548a55bbd2c8aee7d8f14e5222f5b0df6f08b897e658a62f14b7d3e6bf6c8", func := "schemalens/schemalenslaw03.PositionParts", spec := "positionParts", unfollowed := true, recurses := true, apart := false }
def PositionPartsSaid : Prop := positionPartsRow.holds Try.pinned (OpenSpec.ofChange positionPartsSpec)

/-- ITS FALSE NEIGHBOUR: 'it returns false'. Refute it at one input. -/
def positionPartsWrong : ChangeSpec := { name := "positionParts", fn := fun _ => fun
  | [d1, d2, d3] => { results := [.lit (.bool false)], args := [d1, d2, d3] }
  | _ => none }
def PositionPartsWrongFalsely : Prop := positionPartsRow.holds Try.pinned (OpenSpec.ofChange positionPartsWrong)

/-- 'schemalenslaw03.PositionBytes': WHATEVER THE INPUT: true; the input reads as it did. -/
def positionBytesSpec : ChangeSpec := { name := "positionBytes", fn := fun _ => fun
  | [d1, d2, d3] => { results := [.lit (.bool true)], args := [d1, d2, d3] }
  | _ => none }
def positionBytesRow : OpenClaim := { program := "ytclamcaanoieiaa", sum := "e8a548a55bbd2c8aee7d8f14e5222f5b0df6f08b897e658a62f14b7d3e6bf6c8", func := "schemalens/schemalenslaw03.PositionBytes", spec := "positionBytes", unfollowed := true, recurses := true, apart := false }
def PositionBytesSaid : Prop := positionBytesRow.holds Try.pinned (OpenSpec.ofChange positionBytesSpec)

/-- ITS FALSE NEIGHBOUR: 'it returns false'. Refute it at one input. -/
def positionBytesWrong : ChangeSpec := { name := "positionBytes", fn := fun _ => fun
  | [d1, d2, d3] => { results := [.lit (.bool false)], args := [d1, d2, d3] }
  | _ => none }
def PositionBytesWrongFalsely : Prop := positionBytesRow.holds Try.pinned (OpenSpec.ofChange positionBytesWrong)

/-- 'schemalenslaw03.PositionEdits': WHATEVER THE INPUT: true; the input reads as it did. -/
def positionEditsSpec : ChangeSpec := { name := "positionEdits", fn := fun _ => fun
  | [d1, d2, d3, d4] => { results := [.lit (.bool true)], args := [d1, d2, d3, d4] }
  | _ => none }
def positionEditsRow : OpenClaim := { program := "ytclamcaanoieiaa", sum := "e8a548a55bbd2c8aee7d8f14e5222f5b0df6f08b897e658a62f14b7d3e6bf6c8", func := "schemalens/schemalenslaw03.PositionEdits", spec := "positionEdits", unfollowed := true, recurses := true, apart := false }
def PositionEditsSaid : Prop := positionEditsRow.holds Try.pinned (OpenSpec.ofChange positionEditsSpec)

/-- ITS FALSE NEIGHBOUR: 'it returns false'. Refute it at one input. -/
def positionEditsWrong : ChangeSpec := { name := "positionEdits", fn := fun _ => fun
  | [d1, d2, d3, d4] => { results := [.lit (.bool false)], args := [d1, d2, d3, d4] }
  | _ => none }
def PositionEditsWrongFalsely : Prop := positionEditsRow.holds Try.pinned (OpenSpec.ofChange positionEditsWrong)

/-- 'schemalenslaw03.PositionKept': WHATEVER THE INPUT: true; the input reads as it did. -/
def positionKeptSpec : ChangeSpec := { name := "positionKept", fn := fun _ => fun
  | [d1, d2] => { results := [.lit (.bool true)], args := [d1, d2] }
  | _ => none }
def positionKeptRow : OpenClaim := { program := "ytclamcaanoieiaa", sum := "e8a548a55bbd2c8aee7d8f14e5222f5b0df6f08b897e658a62f14b7d3e6bf6c8", func := "schemalens/schemalenslaw03.PositionKept", spec := "positionKept", unfollowed := true, recurses := true, apart := false }
def PositionKeptSaid : Prop := positionKeptRow.holds Try.pinned (OpenSpec.ofChange positionKeptSpec)

/-- ITS FALSE NEIGHBOUR: 'it returns false'. Refute it at one input. -/
def positionKeptWrong : ChangeSpec := { name := "positionKept", fn := fun _ => fun
  | [d1, d2] => { results := [.lit (.bool false)], args := [d1, d2] }
  | _ => none }
def PositionKeptWrongFalsely : Prop := positionKeptRow.holds Try.pinned (OpenSpec.ofChange positionKeptWrong)

/- THE SECOND FORM. 'bulk': how many values and letters a reading holds, each counted each time it is reached (what is shared counts as often as it is met; a slice's spare places count too). A statement '..UptoSaid' is the law's where the arguments, and the package variables that the reading takes, are together of bulk at most 1048576: NARROWER than '..Said'. Prove '..Said' where nothing that the law and all that it calls make is longer than what came in: it says more and counts as full. Else prove '..UptoSaid'. A law counts once. -/
mutual
def uptoBulk {H : Type} : DataW H → Nat
  | .lit (.string bytes) => bytes.length + 1
  | .lit _ => 1
  | .nil => 1
  | .ptr d => uptoBulk d + 1
  | .slice elems spare => uptoBulkAll elems + uptoBulkAll spare + 1
  | .agg parts => uptoBulkAll parts + 1
  | .iface _ d => uptoBulk d + 1
  | .map entries => uptoBulkEntries entries + 1
  | .held _ => 1
def uptoBulkAll {H : Type} : List (DataW H) → Nat
  | [] => 0
  | d :: r => uptoBulk d + uptoBulkAll r
def uptoBulkEntries {H : Type} : List (Lit × DataW H) → Nat
  | [] => 0
  | x :: r => uptoBulkEntry x + uptoBulkEntries r
def uptoBulkEntry {H : Type} : Lit × DataW H → Nat
  | (.string bytes, d) => bytes.length + uptoBulk d + 1
  | (_, d) => uptoBulk d + 1
 end
def uptoSmall : (H : Type) → List (DataW H) → Bool := fun _ ds => decide (uptoBulkAll ds ≤ 1048576)
def OpenSpec.upto (s : _root_.Go.ChangeSpec) : _root_.Go.OpenSpec := { _root_.Go.OpenSpec.ofChange s with cond := some uptoSmall }

/-- 'schemalenslaw03.PositionUnits', WHERE WHAT IT READS IS OF BULK AT MOST 1048576: true; the input reads as it did. -/
def positionUnitsUptoRow : OpenClaim := { program := "ytclamcaanoieiaa", sum := "e8a548a55bbd2c8aee7d8f14e5222f5b0df6f08b897e658a62f14b7d3e6bf6c8", func := "schemalens/schemalenslaw03.PositionUnits", spec := "positionUnits", unfollowed := true, recurses := true, apart := false, narrowed := true }
def PositionUnitsUptoSaid : Prop := positionUnitsUptoRow.holds Try.pinned (OpenSpec.upto positionUnitsSpec)

/-- 'schemalenslaw03.PositionOffset', WHERE WHAT IT READS IS OF BULK AT MOST 1048576: true; the input reads as it did. -/
def positionOffsetUptoRow : OpenClaim := { program := "ytclamcaanoieiaa", sum := "e8a548a55bbd2c8aee7d8f14e5222f5b0df6f08b897e658a62f14b7d3e6bf6c8", func := "schemalens/schemalenslaw03.PositionOffset", spec := "positionOffset", unfollowed := true, recurses := true, apart := false, narrowed := true }
def PositionOffsetUptoSaid : Prop := positionOffsetUptoRow.holds Try.pinned (OpenSpec.upto positionOffsetSpec)

/-- 'schemalenslaw03.PositionAt', WHERE WHAT IT READS IS OF BULK AT MOST 1048576: true; the input reads as it did. -/
def positionAtUptoRow : OpenClaim := { program := "ytclamcaanoieiaa", sum := "e8a548a55bbd2c8aee7d8f14e5222f5b0df6f08b897e658a62f14b7d3e6bf6c8", func := "schemalens/schemalenslaw03.PositionAt", spec := "positionAt", unfollowed := true, recurses := true, apart := false, narrowed := true }
def PositionAtUptoSaid : Prop := positionAtUptoRow.holds Try.pinned (OpenSpec.upto positionAtSpec)

/-- 'schemalenslaw03.PositionRound', WHERE WHAT IT READS IS OF BULK AT MOST 1048576: true; the input reads as it did. -/
def positionRoundUptoRow : OpenClaim := { program := "ytclamcaanoieiaa", sum := "e8a548a55bbd2c8aee7d8f14e5222f5b0df6f08b897e658a62f14b7d3e6bf6c8", func := "schemalens/schemalenslaw03.PositionRound", spec := "positionRound", unfollowed := true, recurses := true, apart := false, narrowed := true }
def PositionRoundUptoSaid : Prop := positionRoundUptoRow.holds Try.pinned (OpenSpec.upto positionRoundSpec)

/-- 'schemalenslaw03.PositionOrder', WHERE WHAT IT READS IS OF BULK AT MOST 1048576: true; the input reads as it did. -/
def positionOrderUptoRow : OpenClaim := { program := "ytclamcaanoieiaa", sum := "e8a548a55bbd2c8aee7d8f14e5222f5b0df6f08b897e658a62f14b7d3e6bf6c8", func := "schemalens/schemalenslaw03.PositionOrder", spec := "positionOrder", unfollowed := true, recurses := true, apart := false, narrowed := true }
def PositionOrderUptoSaid : Prop := positionOrderUptoRow.holds Try.pinned (OpenSpec.upto positionOrderSpec)

/-- 'schemalenslaw03.PositionParts', WHERE WHAT IT READS IS OF BULK AT MOST 1048576: true; the input reads as it did. -/
def positionPartsUptoRow : OpenClaim := { program := "ytclamcaanoieiaa", sum := "e8a548a55bbd2c8aee7d8f14e5222f5b0df6f08b897e658a62f14b7d3e6bf6c8", func := "schemalens/schemalenslaw03.PositionParts", spec := "positionParts", unfollowed := true, recurses := true, apart := false, narrowed := true }
def PositionPartsUptoSaid : Prop := positionPartsUptoRow.holds Try.pinned (OpenSpec.upto positionPartsSpec)

/-- 'schemalenslaw03.PositionBytes', WHERE WHAT IT READS IS OF BULK AT MOST 1048576: true; the input reads as it did. -/
def positionBytesUptoRow : OpenClaim := { program := "ytclamcaanoieiaa", sum := "e8a548a55bbd2c8aee7d8f14e5222f5b0df6f08b897e658a62f14b7d3e6bf6c8", func := "schemalens/schemalenslaw03.PositionBytes", spec := "positionBytes", unfollowed := true, recurses := true, apart := false, narrowed := true }
def PositionBytesUptoSaid : Prop := positionBytesUptoRow.holds Try.pinned (OpenSpec.upto positionBytesSpec)

/-- 'schemalenslaw03.PositionEdits', WHERE WHAT IT READS IS OF BULK AT MOST 1048576: true; the input reads as it did. -/
def positionEditsUptoRow : OpenClaim := { program := "ytclamcaanoieiaa", sum := "e8a548a55bbd2c8aee7d8f14e5222f5b0df6f08b897e658a62f14b7d3e6bf6c8", func := "schemalens/schemalenslaw03.PositionEdits", spec := "positionEdits", unfollowed := true, recurses := true, apart := false, narrowed := true }
def PositionEditsUptoSaid : Prop := positionEditsUptoRow.holds Try.pinned (OpenSpec.upto positionEditsSpec)

/-- 'schemalenslaw03.PositionKept', WHERE WHAT IT READS IS OF BULK AT MOST 1048576: true; the input reads as it did. -/
def positionKeptUptoRow : OpenClaim := { program := "ytclamcaanoieiaa", sum := "e8a548a55bbd2c8aee7d8f14e5222f5b0df6f08b897e658a62f14b7d3e6bf6c8", func := "schemalens/schemalenslaw03.PositionKept", spec := "positionKept", unfollowed := true, recurses := true, apart := false, narrowed := true }
def PositionKeptUptoSaid : Prop := positionKeptUptoRow.holds Try.pinned (OpenSpec.upto positionKeptSpec)

end Rows
end Go.Proofs.Ytclamcaanoieiaa
