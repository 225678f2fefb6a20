/-
  The documented example of a channel, which every law ends with.
-/
import Derived.Test.YtaonhmdifinadaaChanF
import Derived.Lib.SlBytesConst
namespace Go.Proofs.Ytaonhmdifinadaa
open Go Go.Proofs
open Go.RowKit
set_option linter.unusedVariables false
set_option linter.unusedSimpArgs false

theorem new_two (i : Nat) (w : World) (o : Nat → Nat) (hi : 1 ≤ i) :
    Calls Try.prog 55 #[.int .i64 2] w fun e w' => ∃ b, e = .returned (.tuple #[.pointer (some ⟨b, 0, none⟩), .int .i64 0]) ∧ ∃ o', Step (Own i) w o w' o' ∧ EndAt w' o' i b (newE 2) :=
  new_yes 2 i w o (by omega) (by omega) hi

def aE : EndS := ⟨2, [[97], [98], [99]], 0, 0, [], false⟩
def bE1 : EndS := ⟨2, [], 0, 0, [(2, [98])], true⟩
def bE2 : EndS := ⟨2, [], 0, 2, [], true⟩
def bE3 : EndS := ⟨2, [], 0, 2, [], false⟩
def aE2 : EndS := ⟨2, [[99]], 2, 0, [], false⟩
theorem ex1 : sendE (sendE (sendE (newE 2) [97]) [98]) [99] = aE := rfl
theorem ex2 : outP aE = [⟨1, 0, [97]⟩, ⟨2, 0, [98]⟩] := rfl
theorem ex3 : outE aE = aE := rfl
theorem ex4 : inE (newE 2) ⟨2, 0, [98]⟩ = bE1 := rfl
theorem ex5 : inO (newE 2) ⟨2, 0, [98]⟩ = [] := rfl
theorem ex6 : inE bE1 ⟨1, 0, [97]⟩ = bE2 := rfl
theorem ex7 : inO bE1 ⟨1, 0, [97]⟩ = [[97], [98]] := rfl
theorem ex8 : outP bE2 = [⟨0, 2, []⟩] := rfl
theorem ex9 : outE bE2 = bE3 := rfl
theorem ex10 : inE aE ⟨0, 2, []⟩ = aE2 := rfl
theorem ex11 : outP aE2 = [⟨3, 0, [99]⟩] := rfl
theorem ex12 : outE aE2 = aE2 := rfl

theorem lit_mark (w : World) (c : UInt8) (e : Nat) : SliceAt (w.alloc (.cells #[.int .u8 c.toNat] e (1, 2))) (some ⟨w.heap.size, 0, none⟩) 1 ([c].map byteV) := by
  refine ⟨by simp, by omega, by simp, fun _ => ⟨w.heap.size, 0, rfl, fun i v hi => ?_⟩⟩
  rw [Nat.zero_add]
  refine (World.cell?_alloc_mark w #[.int .u8 c.toNat] e (1, 2) i).trans ?_
  cases i with
  | zero => simpa [byteV] using hi
  | succ i => simp at hi
theorem fitA : Fit aE 0 := ((((Fit.new (k := 2) (by omega) (by omega)).send [97]).send [98]).send [99])
theorem fitB1 : Fit bE1 1000 := (Fit.new (k := 2) (by omega) (by omega)).inn ⟨2, 0, [98]⟩
theorem fitB2 : Fit bE2 2000 := fitB1.inn ⟨1, 0, [97]⟩
theorem fitA2 : Fit aE2 1000 := fitA.inn ⟨0, 2, []⟩

end Go.Proofs.Ytaonhmdifinadaa
