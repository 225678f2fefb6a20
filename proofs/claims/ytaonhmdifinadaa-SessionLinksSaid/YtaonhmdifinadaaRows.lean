/-
  No cell of these rows narrows 'for every input' (looked for: loops, veiled, ifaces, maps, wideKeys, modest, calm, conditions, laid).
  DERIVED. THE GIVEN ROWS OF THIS SEAT. 8 by the template 'for every input the law returns true; each argument reads behind the call as it read before'; 0 by the template 'total and deterministic' (their statements: YtaonhmdifinadaaTotals.lean).
  GIVEN WITH THE SEED: the statements are not yours to turn. If you find one false, say at which input.
  Laid BY PROGRAM, IN A SANDBOX (cutbox-rows.mjs): the forced cells as the released guide's own fill.sh prints them over the translation 23d91c678a9c02c8… (all of the seat's roots in one cut). By AI agents, Wed Nov 11 2026. No macro, syntax, notation, axiom, sorry.
-/
import Derived.Test.YtaonhmdifinadaaChecked
import GoSem.Claim
import GoSem.ClaimJoined
import GoSem.ClaimMapViews
import Derived.JoinedTies
import Derived.KernelRfl
namespace Go.Proofs.Ytaonhmdifinadaa
/- THE CELL 'sum', in the pinned program and in every row, IS THE sha256 OF THE DUMP (.gsa) THAT YtaonhmdifinadaaProg.lean LOADS. Nothing in Lean hashes anything: it is a label: what it is worth is what the hold of that sum in a sandbox is worth. -/
noncomputable def Try.pinned : Pinned := { name := "ytaonhmdifinadaa", sum := "23d91c678a9c02c8718c744d60cb7421db192762d69bb2be4cbb88d8bfac5696", checked := Try.checked }
namespace Rows
def none {H : Type} : Left H := { results := [], args := [] }

/-- 'schemalenslaw37.SessionTexts': WHATEVER THE INPUT: true; the input reads as it did. -/
def sessionTextsSpec : ChangeSpec := { name := "sessionTexts", fn := fun _ => fun
  | [d1, d2] => { results := [.lit (.bool true)], args := [d1, d2] }
  | _ => none }
def sessionTextsRow : OpenClaim := { program := "ytaonhmdifinadaa", sum := "23d91c678a9c02c8718c744d60cb7421db192762d69bb2be4cbb88d8bfac5696", func := "schemalens/schemalenslaw37.SessionTexts", spec := "sessionTexts", inPlace := ["internal/abi.NoEscape"], unfollowed := true, recurses := true, apart := false }
def SessionTextsSaid : Prop := sessionTextsRow.holds Try.pinned (OpenSpec.ofChange sessionTextsSpec)

/-- ITS FALSE NEIGHBOUR: 'it returns false'. Refute it at one input. -/
def sessionTextsWrong : ChangeSpec := { name := "sessionTexts", fn := fun _ => fun
  | [d1, d2] => { results := [.lit (.bool false)], args := [d1, d2] }
  | _ => none }
def SessionTextsWrongFalsely : Prop := sessionTextsRow.holds Try.pinned (OpenSpec.ofChange sessionTextsWrong)

/-- 'schemalenslaw37.SessionOrder': WHATEVER THE INPUT: true; the input reads as it did. -/
def sessionOrderSpec : ChangeSpec := { name := "sessionOrder", fn := fun _ => fun
  | [d] => { results := [.lit (.bool true)], args := [d] }
  | _ => none }
def sessionOrderRow : OpenClaim := { program := "ytaonhmdifinadaa", sum := "23d91c678a9c02c8718c744d60cb7421db192762d69bb2be4cbb88d8bfac5696", func := "schemalens/schemalenslaw37.SessionOrder", spec := "sessionOrder", unfollowed := true, recurses := true, apart := false }
def SessionOrderSaid : Prop := sessionOrderRow.holds Try.pinned (OpenSpec.ofChange sessionOrderSpec)

/-- ITS FALSE NEIGHBOUR: 'it returns false'. Refute it at one input. -/
def sessionOrderWrong : ChangeSpec := { name := "sessionOrder", fn := fun _ => fun
  | [d] => { results := [.lit (.bool false)], args := [d] }
  | _ => none }
def SessionOrderWrongFalsely : Prop := sessionOrderRow.holds Try.pinned (OpenSpec.ofChange sessionOrderWrong)

/-- 'schemalenslaw37.SessionRuns': WHATEVER THE INPUT: true; the input reads as it did. -/
def sessionRunsSpec : ChangeSpec := { name := "sessionRuns", fn := fun _ => fun
  | [d] => { results := [.lit (.bool true)], args := [d] }
  | _ => none }
def sessionRunsRow : OpenClaim := { program := "ytaonhmdifinadaa", sum := "23d91c678a9c02c8718c744d60cb7421db192762d69bb2be4cbb88d8bfac5696", func := "schemalens/schemalenslaw37.SessionRuns", spec := "sessionRuns", unfollowed := true, recurses := true, apart := false }
def SessionRunsSaid : Prop := sessionRunsRow.holds Try.pinned (OpenSpec.ofChange sessionRunsSpec)

/-- ITS FALSE NEIGHBOUR: 'it returns false'. Refute it at one input. -/
def sessionRunsWrong : ChangeSpec := { name := "sessionRuns", fn := fun _ => fun
  | [d] => { results := [.lit (.bool false)], args := [d] }
  | _ => none }
def SessionRunsWrongFalsely : Prop := sessionRunsRow.holds Try.pinned (OpenSpec.ofChange sessionRunsWrong)

/-- 'schemalenslaw37.SessionArguments': WHATEVER THE INPUT: true; the input reads as it did. -/
def sessionArgumentsSpec : ChangeSpec := { name := "sessionArguments", fn := fun _ => fun
  | [d1, d2, d3, d4] => { results := [.lit (.bool true)], args := [d1, d2, d3, d4] }
  | _ => none }
def sessionArgumentsRow : OpenClaim := { program := "ytaonhmdifinadaa", sum := "23d91c678a9c02c8718c744d60cb7421db192762d69bb2be4cbb88d8bfac5696", func := "schemalens/schemalenslaw37.SessionArguments", spec := "sessionArguments", unfollowed := true, recurses := true, apart := false }
def SessionArgumentsSaid : Prop := sessionArgumentsRow.holds Try.pinned (OpenSpec.ofChange sessionArgumentsSpec)

/-- ITS FALSE NEIGHBOUR: 'it returns false'. Refute it at one input. -/
def sessionArgumentsWrong : ChangeSpec := { name := "sessionArguments", fn := fun _ => fun
  | [d1, d2, d3, d4] => { results := [.lit (.bool false)], args := [d1, d2, d3, d4] }
  | _ => none }
def SessionArgumentsWrongFalsely : Prop := sessionArgumentsRow.holds Try.pinned (OpenSpec.ofChange sessionArgumentsWrong)

/-- 'schemalenslaw37.SessionOnce': WHATEVER THE INPUT: true; the input reads as it did. -/
def sessionOnceSpec : ChangeSpec := { name := "sessionOnce", fn := fun _ => fun
  | [d] => { results := [.lit (.bool true)], args := [d] }
  | _ => none }
def sessionOnceRow : OpenClaim := { program := "ytaonhmdifinadaa", sum := "23d91c678a9c02c8718c744d60cb7421db192762d69bb2be4cbb88d8bfac5696", func := "schemalens/schemalenslaw37.SessionOnce", spec := "sessionOnce", unfollowed := true, recurses := true, apart := false }
def SessionOnceSaid : Prop := sessionOnceRow.holds Try.pinned (OpenSpec.ofChange sessionOnceSpec)

/-- ITS FALSE NEIGHBOUR: 'it returns false'. Refute it at one input. -/
def sessionOnceWrong : ChangeSpec := { name := "sessionOnce", fn := fun _ => fun
  | [d] => { results := [.lit (.bool false)], args := [d] }
  | _ => none }
def SessionOnceWrongFalsely : Prop := sessionOnceRow.holds Try.pinned (OpenSpec.ofChange sessionOnceWrong)

/-- 'schemalenslaw37.SessionCopies': WHATEVER THE INPUT: true; the input reads as it did. -/
def sessionCopiesSpec : ChangeSpec := { name := "sessionCopies", fn := fun _ => fun
  | [d1, d2] => { results := [.lit (.bool true)], args := [d1, d2] }
  | _ => none }
def sessionCopiesRow : OpenClaim := { program := "ytaonhmdifinadaa", sum := "23d91c678a9c02c8718c744d60cb7421db192762d69bb2be4cbb88d8bfac5696", func := "schemalens/schemalenslaw37.SessionCopies", spec := "sessionCopies", unfollowed := true, recurses := true, apart := false }
def SessionCopiesSaid : Prop := sessionCopiesRow.holds Try.pinned (OpenSpec.ofChange sessionCopiesSpec)

/-- ITS FALSE NEIGHBOUR: 'it returns false'. Refute it at one input. -/
def sessionCopiesWrong : ChangeSpec := { name := "sessionCopies", fn := fun _ => fun
  | [d1, d2] => { results := [.lit (.bool false)], args := [d1, d2] }
  | _ => none }
def SessionCopiesWrongFalsely : Prop := sessionCopiesRow.holds Try.pinned (OpenSpec.ofChange sessionCopiesWrong)

/-- 'schemalenslaw37.SessionCodes': WHATEVER THE INPUT: true; the input reads as it did. -/
def sessionCodesSpec : ChangeSpec := { name := "sessionCodes", fn := fun _ => fun
  | [d1, d2, d3, d4, d5, d6] => { results := [.lit (.bool true)], args := [d1, d2, d3, d4, d5, d6] }
  | _ => none }
def sessionCodesRow : OpenClaim := { program := "ytaonhmdifinadaa", sum := "23d91c678a9c02c8718c744d60cb7421db192762d69bb2be4cbb88d8bfac5696", func := "schemalens/schemalenslaw37.SessionCodes", spec := "sessionCodes", unfollowed := true, recurses := true, apart := false }
def SessionCodesSaid : Prop := sessionCodesRow.holds Try.pinned (OpenSpec.ofChange sessionCodesSpec)

/-- ITS FALSE NEIGHBOUR: 'it returns false'. Refute it at one input. -/
def sessionCodesWrong : ChangeSpec := { name := "sessionCodes", fn := fun _ => fun
  | [d1, d2, d3, d4, d5, d6] => { results := [.lit (.bool false)], args := [d1, d2, d3, d4, d5, d6] }
  | _ => none }
def SessionCodesWrongFalsely : Prop := sessionCodesRow.holds Try.pinned (OpenSpec.ofChange sessionCodesWrong)

/-- 'schemalenslaw37.SessionLinks': WHATEVER THE INPUT: true; the input reads as it did. -/
def sessionLinksSpec : ChangeSpec := { name := "sessionLinks", fn := fun _ => fun
  | [d1, d2, d3] => { results := [.lit (.bool true)], args := [d1, d2, d3] }
  | _ => none }
def sessionLinksRow : OpenClaim := { program := "ytaonhmdifinadaa", sum := "23d91c678a9c02c8718c744d60cb7421db192762d69bb2be4cbb88d8bfac5696", func := "schemalens/schemalenslaw37.SessionLinks", spec := "sessionLinks", unfollowed := true, recurses := true, apart := false }
def SessionLinksSaid : Prop := sessionLinksRow.holds Try.pinned (OpenSpec.ofChange sessionLinksSpec)

/-- ITS FALSE NEIGHBOUR: 'it returns false'. Refute it at one input. -/
def sessionLinksWrong : ChangeSpec := { name := "sessionLinks", fn := fun _ => fun
  | [d1, d2, d3] => { results := [.lit (.bool false)], args := [d1, d2, d3] }
  | _ => none }
def SessionLinksWrongFalsely : Prop := sessionLinksRow.holds Try.pinned (OpenSpec.ofChange sessionLinksWrong)

/- THE SECOND FORM. 'bulk': how many values and letters a reading holds, each counted each time it is reached (what is shared counts as often as it is met; a slice's spare places count too). A statement '..UptoSaid' is the law's where the arguments, and the package variables that the reading takes, are together of bulk at most 1048576: NARROWER than '..Said'. Prove '..Said' where nothing that the law and all that it calls make is longer than what came in: it says more and counts as full. Else prove '..UptoSaid'. A law counts once. -/
mutual
def uptoBulk {H : Type} : DataW H → Nat
  | .lit (.string bytes) => bytes.length + 1
  | .lit _ => 1
  | .nil => 1
  | .ptr d => uptoBulk d + 1
  | .slice elems spare => uptoBulkAll elems + uptoBulkAll spare + 1
  | .agg parts => uptoBulkAll parts + 1
  | .iface _ d => uptoBulk d + 1
  | .map entries => uptoBulkEntries entries + 1
  | .held _ => 1
def uptoBulkAll {H : Type} : List (DataW H) → Nat
  | [] => 0
  | d :: r => uptoBulk d + uptoBulkAll r
def uptoBulkEntries {H : Type} : List (Lit × DataW H) → Nat
  | [] => 0
  | x :: r => uptoBulkEntry x + uptoBulkEntries r
def uptoBulkEntry {H : Type} : Lit × DataW H → Nat
  | (.string bytes, d) => bytes.length + uptoBulk d + 1
  | (_, d) => uptoBulk d + 1
 end
def uptoSmall : (H : Type) → List (DataW H) → Bool := fun _ ds => decide (uptoBulkAll ds ≤ 1048576)
def OpenSpec.upto (s : _root_.Go.ChangeSpec) : _root_.Go.OpenSpec := { _root_.Go.OpenSpec.ofChange s with cond := some uptoSmall }

/-- 'schemalenslaw37.SessionTexts', WHERE WHAT IT READS IS OF BULK AT MOST 1048576: true; the input reads as it did. -/
def sessionTextsUptoRow : OpenClaim := { program := "ytaonhmdifinadaa", sum := "23d91c678a9c02c8718c744d60cb7421db192762d69bb2be4cbb88d8bfac5696", func := "schemalens/schemalenslaw37.SessionTexts", spec := "sessionTexts", inPlace := ["internal/abi.NoEscape"], unfollowed := true, recurses := true, apart := false, narrowed := true }
def SessionTextsUptoSaid : Prop := sessionTextsUptoRow.holds Try.pinned (OpenSpec.upto sessionTextsSpec)

/-- 'schemalenslaw37.SessionOrder', WHERE WHAT IT READS IS OF BULK AT MOST 1048576: true; the input reads as it did. -/
def sessionOrderUptoRow : OpenClaim := { program := "ytaonhmdifinadaa", sum := "23d91c678a9c02c8718c744d60cb7421db192762d69bb2be4cbb88d8bfac5696", func := "schemalens/schemalenslaw37.SessionOrder", spec := "sessionOrder", unfollowed := true, recurses := true, apart := false, narrowed := true }
def SessionOrderUptoSaid : Prop := sessionOrderUptoRow.holds Try.pinned (OpenSpec.upto sessionOrderSpec)

/-- 'schemalenslaw37.SessionRuns', WHERE WHAT IT READS IS OF BULK AT MOST 1048576: true; the input reads as it did. -/
def sessionRunsUptoRow : OpenClaim := { program := "ytaonhmdifinadaa", sum := "23d91c678a9c02c8718c744d60cb7421db192762d69bb2be4cbb88d8bfac5696", func := "schemalens/schemalenslaw37.SessionRuns", spec := "sessionRuns", unfollowed := true, recurses := true, apart := false, narrowed := true }
def SessionRunsUptoSaid : Prop := sessionRunsUptoRow.holds Try.pinned (OpenSpec.upto sessionRunsSpec)

/-- 'schemalenslaw37.SessionArguments', WHERE WHAT IT READS IS OF BULK AT MOST 1048576: true; the input reads as it did. -/
def sessionArgumentsUptoRow : OpenClaim := { program := "ytaonhmdifinadaa", sum := "23d91c678a9c02c8718c744d60cb7421db192762d69bb2be4cbb88d8bfac5696", func := "schemalens/schemalenslaw37.SessionArguments", spec := "sessionArguments", unfollowed := true, recurses := true, apart := false, narrowed := true }
def SessionArgumentsUptoSaid : Prop := sessionArgumentsUptoRow.holds Try.pinned (OpenSpec.upto sessionArgumentsSpec)

/-- 'schemalenslaw37.SessionOnce', WHERE WHAT IT READS IS OF BULK AT MOST 1048576: true; the input reads as it did. -/
def sessionOnceUptoRow : OpenClaim := { program := "ytaonhmdifinadaa", sum := "23d91c678a9c02c8718c744d60cb7421db192762d69bb2be4cbb88d8bfac5696", func := "schemalens/schemalenslaw37.SessionOnce", spec := "sessionOnce", unfollowed := true, recurses := true, apart := false, narrowed := true }
def SessionOnceUptoSaid : Prop := sessionOnceUptoRow.holds Try.pinned (OpenSpec.upto sessionOnceSpec)

/-- 'schemalenslaw37.SessionCopies', WHERE WHAT IT READS IS OF BULK AT MOST 1048576: true; the input reads as it did. -/
def sessionCopiesUptoRow : OpenClaim := { program := "ytaonhmdifinadaa", sum := "23d91c678a9c02c8718c744d60cb7421db192762d69bb2be4cbb88d8bfac5696", func := "schemalens/schemalenslaw37.SessionCopies", spec := "sessionCopies", unfollowed := true, recurses := true, apart := false, narrowed := true }
def SessionCopiesUptoSaid : Prop := sessionCopiesUptoRow.holds Try.pinned (OpenSpec.upto sessionCopiesSpec)

/-- 'schemalenslaw37.SessionCodes', WHERE WHAT IT READS IS OF BULK AT MOST 1048576: true; the input reads as it did. -/
def sessionCodesUptoRow : OpenClaim := { program := "ytaonhmdifinadaa", sum := "23d91c678a9c02c8718c744d60cb7421db192762d69bb2be4cbb88d8bfac5696", func := "schemalens/schemalenslaw37.SessionCodes", spec := "sessionCodes", unfollowed := true, recurses := true, apart := false, narrowed := true }
def SessionCodesUptoSaid : Prop := sessionCodesUptoRow.holds Try.pinned (OpenSpec.upto sessionCodesSpec)

/-- 'schemalenslaw37.SessionLinks', WHERE WHAT IT READS IS OF BULK AT MOST 1048576: true; the input reads as it did. -/
def sessionLinksUptoRow : OpenClaim := { program := "ytaonhmdifinadaa", sum := "23d91c678a9c02c8718c744d60cb7421db192762d69bb2be4cbb88d8bfac5696", func := "schemalens/schemalenslaw37.SessionLinks", spec := "sessionLinks", unfollowed := true, recurses := true, apart := false, narrowed := true }
def SessionLinksUptoSaid : Prop := sessionLinksUptoRow.holds Try.pinned (OpenSpec.upto sessionLinksSpec)

end Rows
end Go.Proofs.Ytaonhmdifinadaa
