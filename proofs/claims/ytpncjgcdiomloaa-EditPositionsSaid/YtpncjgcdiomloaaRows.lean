/-
  No cell of these rows narrows 'for every input' (looked for: loops, veiled, ifaces, maps, wideKeys, modest, calm, conditions, laid).
  DERIVED. THE GIVEN ROWS OF THIS SEAT. 10 by the template 'for every input the law returns true; each argument reads behind the call as it read before'; 0 by the template 'total and deterministic' (their statements: YtpncjgcdiomloaaTotals.lean).
  GIVEN WITH THE SEED: the statements are not yours to turn. If you find one false, say at which input.
  Laid BY PROGRAM, IN A SANDBOX (cutbox-rows.mjs): the forced cells as the released guide's own fill.sh prints them over the translation 766b7b73b1aa9952… (all of the seat's roots in one cut). By AI agents, Wed Nov 11 2026. No macro, syntax, notation, axiom, sorry.
-/
import Derived.Test.YtpncjgcdiomloaaChecked
import GoSem.Claim
import GoSem.ClaimJoined
import GoSem.ClaimMapViews
import Derived.JoinedTies
import Derived.KernelRfl
namespace Go.Proofs.Ytpncjgcdiomloaa
/- THE CELL 'sum', in the pinned program and in every row, IS THE sha256 OF THE DUMP (.gsa) THAT YtpncjgcdiomloaaProg.lean LOADS. Nothing in Lean hashes anything: it is a label: what it is worth is what the hold of that sum in a sandbox is worth. -/
noncomputable def Try.pinned : Pinned := { name := "ytpncjgcdiomloaa", sum := "766b7b73b1aa995283d35a7007abb4d8ec6cb829d3fc0b6dbb6bf77499f148e4", checked := Try.checked }
namespace Rows
def none {H : Type} : Left H := { results := [], args := [] }

/-- 'schemalenslaw04.EditApply': WHATEVER THE INPUT: true; the input reads as it did. -/
def editApplySpec : ChangeSpec := { name := "editApply", fn := fun _ => fun
  | [d1, d2, d3] => { results := [.lit (.bool true)], args := [d1, d2, d3] }
  | _ => none }
def editApplyRow : OpenClaim := { program := "ytpncjgcdiomloaa", sum := "766b7b73b1aa995283d35a7007abb4d8ec6cb829d3fc0b6dbb6bf77499f148e4", func := "schemalens/schemalenslaw04.EditApply", spec := "editApply", inPlace := ["internal/abi.NoEscape"], apart := false }
def EditApplySaid : Prop := editApplyRow.holds Try.pinned (OpenSpec.ofChange editApplySpec)

/-- ITS FALSE NEIGHBOUR: 'it returns false'. Refute it at one input. -/
def editApplyWrong : ChangeSpec := { name := "editApply", fn := fun _ => fun
  | [d1, d2, d3] => { results := [.lit (.bool false)], args := [d1, d2, d3] }
  | _ => none }
def EditApplyWrongFalsely : Prop := editApplyRow.holds Try.pinned (OpenSpec.ofChange editApplyWrong)

/-- 'schemalenslaw04.EditInvert': WHATEVER THE INPUT: true; the input reads as it did. -/
def editInvertSpec : ChangeSpec := { name := "editInvert", fn := fun _ => fun
  | [d1, d2, d3] => { results := [.lit (.bool true)], args := [d1, d2, d3] }
  | _ => none }
def editInvertRow : OpenClaim := { program := "ytpncjgcdiomloaa", sum := "766b7b73b1aa995283d35a7007abb4d8ec6cb829d3fc0b6dbb6bf77499f148e4", func := "schemalens/schemalenslaw04.EditInvert", spec := "editInvert", inPlace := ["internal/abi.NoEscape"], apart := false }
def EditInvertSaid : Prop := editInvertRow.holds Try.pinned (OpenSpec.ofChange editInvertSpec)

/-- ITS FALSE NEIGHBOUR: 'it returns false'. Refute it at one input. -/
def editInvertWrong : ChangeSpec := { name := "editInvert", fn := fun _ => fun
  | [d1, d2, d3] => { results := [.lit (.bool false)], args := [d1, d2, d3] }
  | _ => none }
def EditInvertWrongFalsely : Prop := editInvertRow.holds Try.pinned (OpenSpec.ofChange editInvertWrong)

/-- 'schemalenslaw04.EditMap': WHATEVER THE INPUT: true; the input reads as it did. -/
def editMapSpec : ChangeSpec := { name := "editMap", fn := fun _ => fun
  | [d1, d2, d3, d4, d5] => { results := [.lit (.bool true)], args := [d1, d2, d3, d4, d5] }
  | _ => none }
def editMapRow : OpenClaim := { program := "ytpncjgcdiomloaa", sum := "766b7b73b1aa995283d35a7007abb4d8ec6cb829d3fc0b6dbb6bf77499f148e4", func := "schemalens/schemalenslaw04.EditMap", spec := "editMap", inPlace := ["internal/abi.NoEscape"], apart := false }
def EditMapSaid : Prop := editMapRow.holds Try.pinned (OpenSpec.ofChange editMapSpec)

/-- ITS FALSE NEIGHBOUR: 'it returns false'. Refute it at one input. -/
def editMapWrong : ChangeSpec := { name := "editMap", fn := fun _ => fun
  | [d1, d2, d3, d4, d5] => { results := [.lit (.bool false)], args := [d1, d2, d3, d4, d5] }
  | _ => none }
def EditMapWrongFalsely : Prop := editMapRow.holds Try.pinned (OpenSpec.ofChange editMapWrong)

/-- 'schemalenslaw04.EditOrder': WHATEVER THE INPUT: true; the input reads as it did. -/
def editOrderSpec : ChangeSpec := { name := "editOrder", fn := fun _ => fun
  | [d1, d2] => { results := [.lit (.bool true)], args := [d1, d2] }
  | _ => none }
def editOrderRow : OpenClaim := { program := "ytpncjgcdiomloaa", sum := "766b7b73b1aa995283d35a7007abb4d8ec6cb829d3fc0b6dbb6bf77499f148e4", func := "schemalens/schemalenslaw04.EditOrder", spec := "editOrder", inPlace := ["internal/abi.NoEscape"], apart := false }
def EditOrderSaid : Prop := editOrderRow.holds Try.pinned (OpenSpec.ofChange editOrderSpec)

/-- ITS FALSE NEIGHBOUR: 'it returns false'. Refute it at one input. -/
def editOrderWrong : ChangeSpec := { name := "editOrder", fn := fun _ => fun
  | [d1, d2] => { results := [.lit (.bool false)], args := [d1, d2] }
  | _ => none }
def EditOrderWrongFalsely : Prop := editOrderRow.holds Try.pinned (OpenSpec.ofChange editOrderWrong)

/-- 'schemalenslaw04.EditDiff': WHATEVER THE INPUT: true; the input reads as it did. -/
def editDiffSpec : ChangeSpec := { name := "editDiff", fn := fun _ => fun
  | [d1, d2, d3] => { results := [.lit (.bool true)], args := [d1, d2, d3] }
  | _ => none }
def editDiffRow : OpenClaim := { program := "ytpncjgcdiomloaa", sum := "766b7b73b1aa995283d35a7007abb4d8ec6cb829d3fc0b6dbb6bf77499f148e4", func := "schemalens/schemalenslaw04.EditDiff", spec := "editDiff", inPlace := ["internal/abi.NoEscape"], apart := false }
def EditDiffSaid : Prop := editDiffRow.holds Try.pinned (OpenSpec.ofChange editDiffSpec)

/-- ITS FALSE NEIGHBOUR: 'it returns false'. Refute it at one input. -/
def editDiffWrong : ChangeSpec := { name := "editDiff", fn := fun _ => fun
  | [d1, d2, d3] => { results := [.lit (.bool false)], args := [d1, d2, d3] }
  | _ => none }
def EditDiffWrongFalsely : Prop := editDiffRow.holds Try.pinned (OpenSpec.ofChange editDiffWrong)

/-- 'schemalenslaw04.EditNormal': WHATEVER THE INPUT: true; the input reads as it did. -/
def editNormalSpec : ChangeSpec := { name := "editNormal", fn := fun _ => fun
  | [d1, d2, d3] => { results := [.lit (.bool true)], args := [d1, d2, d3] }
  | _ => none }
def editNormalRow : OpenClaim := { program := "ytpncjgcdiomloaa", sum := "766b7b73b1aa995283d35a7007abb4d8ec6cb829d3fc0b6dbb6bf77499f148e4", func := "schemalens/schemalenslaw04.EditNormal", spec := "editNormal", inPlace := ["internal/abi.NoEscape"], apart := false }
def EditNormalSaid : Prop := editNormalRow.holds Try.pinned (OpenSpec.ofChange editNormalSpec)

/-- ITS FALSE NEIGHBOUR: 'it returns false'. Refute it at one input. -/
def editNormalWrong : ChangeSpec := { name := "editNormal", fn := fun _ => fun
  | [d1, d2, d3] => { results := [.lit (.bool false)], args := [d1, d2, d3] }
  | _ => none }
def EditNormalWrongFalsely : Prop := editNormalRow.holds Try.pinned (OpenSpec.ofChange editNormalWrong)

/-- 'schemalenslaw04.EditLimits': WHATEVER THE INPUT: true; the input reads as it did. -/
def editLimitsSpec : ChangeSpec := { name := "editLimits", fn := fun _ => fun
  | [d1, d2, d3] => { results := [.lit (.bool true)], args := [d1, d2, d3] }
  | _ => none }
def editLimitsRow : OpenClaim := { program := "ytpncjgcdiomloaa", sum := "766b7b73b1aa995283d35a7007abb4d8ec6cb829d3fc0b6dbb6bf77499f148e4", func := "schemalens/schemalenslaw04.EditLimits", spec := "editLimits", inPlace := ["internal/abi.NoEscape"], unfollowed := true, recurses := true, apart := false }
def EditLimitsSaid : Prop := editLimitsRow.holds Try.pinned (OpenSpec.ofChange editLimitsSpec)

/-- ITS FALSE NEIGHBOUR: 'it returns false'. Refute it at one input. -/
def editLimitsWrong : ChangeSpec := { name := "editLimits", fn := fun _ => fun
  | [d1, d2, d3] => { results := [.lit (.bool false)], args := [d1, d2, d3] }
  | _ => none }
def EditLimitsWrongFalsely : Prop := editLimitsRow.holds Try.pinned (OpenSpec.ofChange editLimitsWrong)

/-- 'schemalenslaw04.EditCompose': WHATEVER THE INPUT: true; the input reads as it did. -/
def editComposeSpec : ChangeSpec := { name := "editCompose", fn := fun _ => fun
  | [d1, d2, d3, d4] => { results := [.lit (.bool true)], args := [d1, d2, d3, d4] }
  | _ => none }
def editComposeRow : OpenClaim := { program := "ytpncjgcdiomloaa", sum := "766b7b73b1aa995283d35a7007abb4d8ec6cb829d3fc0b6dbb6bf77499f148e4", func := "schemalens/schemalenslaw04.EditCompose", spec := "editCompose", inPlace := ["internal/abi.NoEscape"], unfollowed := true, recurses := true, apart := false }
def EditComposeSaid : Prop := editComposeRow.holds Try.pinned (OpenSpec.ofChange editComposeSpec)

/-- ITS FALSE NEIGHBOUR: 'it returns false'. Refute it at one input. -/
def editComposeWrong : ChangeSpec := { name := "editCompose", fn := fun _ => fun
  | [d1, d2, d3, d4] => { results := [.lit (.bool false)], args := [d1, d2, d3, d4] }
  | _ => none }
def EditComposeWrongFalsely : Prop := editComposeRow.holds Try.pinned (OpenSpec.ofChange editComposeWrong)

/-- 'schemalenslaw04.EditNests': WHATEVER THE INPUT: true; the input reads as it did. -/
def editNestsSpec : ChangeSpec := { name := "editNests", fn := fun _ => fun
  | [d1, d2, d3, d4] => { results := [.lit (.bool true)], args := [d1, d2, d3, d4] }
  | _ => none }
def editNestsRow : OpenClaim := { program := "ytpncjgcdiomloaa", sum := "766b7b73b1aa995283d35a7007abb4d8ec6cb829d3fc0b6dbb6bf77499f148e4", func := "schemalens/schemalenslaw04.EditNests", spec := "editNests", inPlace := ["internal/abi.NoEscape"], unfollowed := true, recurses := true, apart := false }
def EditNestsSaid : Prop := editNestsRow.holds Try.pinned (OpenSpec.ofChange editNestsSpec)

/-- ITS FALSE NEIGHBOUR: 'it returns false'. Refute it at one input. -/
def editNestsWrong : ChangeSpec := { name := "editNests", fn := fun _ => fun
  | [d1, d2, d3, d4] => { results := [.lit (.bool false)], args := [d1, d2, d3, d4] }
  | _ => none }
def EditNestsWrongFalsely : Prop := editNestsRow.holds Try.pinned (OpenSpec.ofChange editNestsWrong)

/-- 'schemalenslaw04.EditPositions': WHATEVER THE INPUT: true; the input reads as it did. -/
def editPositionsSpec : ChangeSpec := { name := "editPositions", fn := fun _ => fun
  | [d1, d2] => { results := [.lit (.bool true)], args := [d1, d2] }
  | _ => none }
def editPositionsRow : OpenClaim := { program := "ytpncjgcdiomloaa", sum := "766b7b73b1aa995283d35a7007abb4d8ec6cb829d3fc0b6dbb6bf77499f148e4", func := "schemalens/schemalenslaw04.EditPositions", spec := "editPositions", inPlace := ["internal/abi.NoEscape"], unfollowed := true, recurses := true, apart := false }
def EditPositionsSaid : Prop := editPositionsRow.holds Try.pinned (OpenSpec.ofChange editPositionsSpec)

/-- ITS FALSE NEIGHBOUR: 'it returns false'. Refute it at one input. -/
def editPositionsWrong : ChangeSpec := { name := "editPositions", fn := fun _ => fun
  | [d1, d2] => { results := [.lit (.bool false)], args := [d1, d2] }
  | _ => none }
def EditPositionsWrongFalsely : Prop := editPositionsRow.holds Try.pinned (OpenSpec.ofChange editPositionsWrong)

/- THE SECOND FORM. 'bulk': how many values and letters a reading holds, each counted each time it is reached (what is shared counts as often as it is met; a slice's spare places count too). A statement '..UptoSaid' is the law's where the arguments, and the package variables that the reading takes, are together of bulk at most 1048576: NARROWER than '..Said'. Prove '..Said' where nothing that the law and all that it calls make is longer than what came in: it says more and counts as full. Else prove '..UptoSaid'. A law counts once. -/
mutual
def uptoBulk {H : Type} : DataW H → Nat
  | .lit (.string bytes) => bytes.length + 1
  | .lit _ => 1
  | .nil => 1
  | .ptr d => uptoBulk d + 1
  | .slice elems spare => uptoBulkAll elems + uptoBulkAll spare + 1
  | .agg parts => uptoBulkAll parts + 1
  | .iface _ d => uptoBulk d + 1
  | .map entries => uptoBulkEntries entries + 1
  | .held _ => 1
def uptoBulkAll {H : Type} : List (DataW H) → Nat
  | [] => 0
  | d :: r => uptoBulk d + uptoBulkAll r
def uptoBulkEntries {H : Type} : List (Lit × DataW H) → Nat
  | [] => 0
  | x :: r => uptoBulkEntry x + uptoBulkEntries r
def uptoBulkEntry {H : Type} : Lit × DataW H → Nat
  | (.string bytes, d) => bytes.length + uptoBulk d + 1
  | (_, d) => uptoBulk d + 1
 end
def uptoSmall : (H : Type) → List (DataW H) → Bool := fun _ ds => decide (uptoBulkAll ds ≤ 1048576)
def OpenSpec.upto (s : _root_.Go.ChangeSpec) : _root_.Go.OpenSpec := { _root_.Go.OpenSpec.ofChange s with cond := some uptoSmall }

/-- 'schemalenslaw04.EditApply', WHERE WHAT IT READS IS OF BULK AT MOST 1048576: true; the input reads as it did. -/
def editApplyUptoRow : OpenClaim := { program := "ytpncjgcdiomloaa", sum := "766b7b73b1aa995283d35a7007abb4d8ec6cb829d3fc0b6dbb6bf77499f148e4", func := "schemalens/schemalenslaw04.EditApply", spec := "editApply", inPlace := ["internal/abi.NoEscape"], apart := false, narrowed := true }
def EditApplyUptoSaid : Prop := editApplyUptoRow.holds Try.pinned (OpenSpec.upto editApplySpec)

/-- 'schemalenslaw04.EditInvert', WHERE WHAT IT READS IS OF BULK AT MOST 1048576: true; the input reads as it did. -/
def editInvertUptoRow : OpenClaim := { program := "ytpncjgcdiomloaa", sum := "766b7b73b1aa995283d35a7007abb4d8ec6cb829d3fc0b6dbb6bf77499f148e4", func := "schemalens/schemalenslaw04.EditInvert", spec := "editInvert", inPlace := ["internal/abi.NoEscape"], apart := false, narrowed := true }
def EditInvertUptoSaid : Prop := editInvertUptoRow.holds Try.pinned (OpenSpec.upto editInvertSpec)

/-- 'schemalenslaw04.EditMap', WHERE WHAT IT READS IS OF BULK AT MOST 1048576: true; the input reads as it did. -/
def editMapUptoRow : OpenClaim := { program := "ytpncjgcdiomloaa", sum := "766b7b73b1aa995283d35a7007abb4d8ec6cb829d3fc0b6dbb6bf77499f148e4", func := "schemalens/schemalenslaw04.EditMap", spec := "editMap", inPlace := ["internal/abi.NoEscape"], apart := false, narrowed := true }
def EditMapUptoSaid : Prop := editMapUptoRow.holds Try.pinned (OpenSpec.upto editMapSpec)

/-- 'schemalenslaw04.EditOrder', WHERE WHAT IT READS IS OF BULK AT MOST 1048576: true; the input reads as it did. -/
def editOrderUptoRow : OpenClaim := { program := "ytpncjgcdiomloaa", sum := "766b7b73b1aa995283d35a7007abb4d8ec6cb829d3fc0b6dbb6bf77499f148e4", func := "schemalens/schemalenslaw04.EditOrder", spec := "editOrder", inPlace := ["internal/abi.NoEscape"], apart := false, narrowed := true }
def EditOrderUptoSaid : Prop := editOrderUptoRow.holds Try.pinned (OpenSpec.upto editOrderSpec)

/-- 'schemalenslaw04.EditDiff', WHERE WHAT IT READS IS OF BULK AT MOST 1048576: true; the input reads as it did. -/
def editDiffUptoRow : OpenClaim := { program := "ytpncjgcdiomloaa", sum := "766b7b73b1aa995283d35a7007abb4d8ec6cb829d3fc0b6dbb6bf77499f148e4", func := "schemalens/schemalenslaw04.EditDiff", spec := "editDiff", inPlace := ["internal/abi.NoEscape"], apart := false, narrowed := true }
def EditDiffUptoSaid : Prop := editDiffUptoRow.holds Try.pinned (OpenSpec.upto editDiffSpec)

/-- 'schemalenslaw04.EditNormal', WHERE WHAT IT READS IS OF BULK AT MOST 1048576: true; the input reads as it did. -/
def editNormalUptoRow : OpenClaim := { program := "ytpncjgcdiomloaa", sum := "766b7b73b1aa995283d35a7007abb4d8ec6cb829d3fc0b6dbb6bf77499f148e4", func := "schemalens/schemalenslaw04.EditNormal", spec := "editNormal", inPlace := ["internal/abi.NoEscape"], apart := false, narrowed := true }
def EditNormalUptoSaid : Prop := editNormalUptoRow.holds Try.pinned (OpenSpec.upto editNormalSpec)

/-- 'schemalenslaw04.EditLimits', WHERE WHAT IT READS IS OF BULK AT MOST 1048576: true; the input reads as it did. -/
def editLimitsUptoRow : OpenClaim := { program := "ytpncjgcdiomloaa", sum := "766b7b73b1aa995283d35a7007abb4d8ec6cb829d3fc0b6dbb6bf77499f148e4", func := "schemalens/schemalenslaw04.EditLimits", spec := "editLimits", inPlace := ["internal/abi.NoEscape"], unfollowed := true, recurses := true, apart := false, narrowed := true }
def EditLimitsUptoSaid : Prop := editLimitsUptoRow.holds Try.pinned (OpenSpec.upto editLimitsSpec)

/-- 'schemalenslaw04.EditCompose', WHERE WHAT IT READS IS OF BULK AT MOST 1048576: true; the input reads as it did. -/
def editComposeUptoRow : OpenClaim := { program := "ytpncjgcdiomloaa", sum := "766b7b73b1aa995283d35a7007abb4d8ec6cb829d3fc0b6dbb6bf77499f148e4", func := "schemalens/schemalenslaw04.EditCompose", spec := "editCompose", inPlace := ["internal/abi.NoEscape"], unfollowed := true, recurses := true, apart := false, narrowed := true }
def EditComposeUptoSaid : Prop := editComposeUptoRow.holds Try.pinned (OpenSpec.upto editComposeSpec)

/-- 'schemalenslaw04.EditNests', WHERE WHAT IT READS IS OF BULK AT MOST 1048576: true; the input reads as it did. -/
def editNestsUptoRow : OpenClaim := { program := "ytpncjgcdiomloaa", sum := "766b7b73b1aa995283d35a7007abb4d8ec6cb829d3fc0b6dbb6bf77499f148e4", func := "schemalens/schemalenslaw04.EditNests", spec := "editNests", inPlace := ["internal/abi.NoEscape"], unfollowed := true, recurses := true, apart := false, narrowed := true }
def EditNestsUptoSaid : Prop := editNestsUptoRow.holds Try.pinned (OpenSpec.upto editNestsSpec)

/-- 'schemalenslaw04.EditPositions', WHERE WHAT IT READS IS OF BULK AT MOST 1048576: true; the input reads as it did. -/
def editPositionsUptoRow : OpenClaim := { program := "ytpncjgcdiomloaa", sum := "766b7b73b1aa995283d35a7007abb4d8ec6cb829d3fc0b6dbb6bf77499f148e4", func := "schemalens/schemalenslaw04.EditPositions", spec := "editPositions", inPlace := ["internal/abi.NoEscape"], unfollowed := true, recurses := true, apart := false, narrowed := true }
def EditPositionsUptoSaid : Prop := editPositionsUptoRow.holds Try.pinned (OpenSpec.upto editPositionsSpec)

end Rows
end Go.Proofs.Ytpncjgcdiomloaa
