/-
  Raw and Ints of the writer.
-/
import Derived.Test.YtmonpnikdheokaaWireA
namespace Go.Proofs.Ytmonpnikdheokaa
open Go Go.Proofs
open Go.RowKit
set_option linter.unusedVariables false
set_option linter.unusedSimpArgs false

theorem raw_any (i b : Nat) (a : Option Addr) (c : Nat) (xs bs : List UInt8) (w : World) (o : Nat → Nat) (hi : 1 ≤ i) (hW : WrAt w o i b bs) (hl : bs.length ≤ 35184372088832) (hx : SliceAt w a c (xs.map byteV)) (hs : xs.length ≤ 35184372088832) :
    Calls Try.prog 68 #[.pointer (some ⟨b, 0, none⟩), .slice a xs.length c] w fun e w' => e = .returned (.tuple #[]) ∧ ∃ o', Step (Own i) w o w' o' ∧ WrAt w' o' i b (bs ++ encR xs) := by
  have HW := Lib.hid hW
  have hcv := run_string_of (P := Try.prog) w Try.underlying31 Try.underlying5 Try.underlying9 a c xs hx
  have HX := Lib.hid hx
  clear hW hx
  go_enter Try.func68, Try.ntmps68
  go_wp2_with fail
  refine (wtext_any i b ⟨xs.toArray⟩ bs w o hi HW.out hl (by simpa [ByteArray.size] using hs)).mono ?_
  rintro e w1 ⟨rfl, o1, hs1, hw1⟩
  go_wp2_with fail
  go_end0
  exact ⟨rfl, o1, hs1, by simpa using hw1⟩
end Go.Proofs.Ytmonpnikdheokaa
