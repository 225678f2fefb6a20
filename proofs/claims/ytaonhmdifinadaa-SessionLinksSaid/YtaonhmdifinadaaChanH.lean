/-
  The two ends of the laws.
-/
import Derived.Test.YtaonhmdifinadaaChanG
namespace Go.Proofs.Ytaonhmdifinadaa
open Go Go.Proofs
open Go.RowKit
set_option linter.unusedVariables false
set_option linter.unusedSimpArgs false

theorem tdiv_in (n : Int) (k : Int) (hk : 1 ≤ k) (h1 : -9223372036854775808 ≤ n) (h2 : n ≤ 9223372036854775807) : -9223372036854775808 ≤ n.tdiv k ∧ n.tdiv k ≤ 9223372036854775807 := by
  rcases Int.le_total 0 n with h | h
  · rw [Int.tdiv_eq_ediv_of_nonneg h]
    have := Int.ediv_le_self (a := n) k h
    have := Int.ediv_nonneg h (show (0 : Int) ≤ k by omega)
    omega
  · obtain ⟨m, rfl⟩ : ∃ m, n = -m := ⟨-n, by omega⟩
    rw [Int.neg_tdiv, Int.tdiv_eq_ediv_of_nonneg (by omega)]
    have := Int.ediv_le_self (a := m) k (by omega)
    have := Int.ediv_nonneg (show 0 ≤ m by omega) (show (0 : Int) ≤ k by omega)
    omega
/-- The window of a law's end. -/
def winN (n : Int) : Nat := (1 + aroundI n 16).toNat
theorem winN_eq (n : Int) : ((winN n : Nat) : Int) = 1 + aroundI n 16 := by
  unfold winN
  have := aroundI_lo n 16 (by omega)
  omega
theorem winN_lo (n : Int) : 1 ≤ winN n := by
  have := winN_eq n
  have := aroundI_lo n 16 (by omega)
  omega
theorem winN_hi (n : Int) : winN n ≤ 16 := by
  have := winN_eq n
  have := aroundI_hi n 16 (by omega)
  omega
theorem new_win (n : Int) (i : Nat) (w : World) (o : Nat → Nat) (hi : 1 ≤ i) :
    Calls Try.prog 55 #[.int .i64 (1 + aroundI n 16)] w fun e w' => ∃ b, e = .returned (.tuple #[.pointer (some ⟨b, 0, none⟩), .int .i64 0]) ∧ ∃ o', Step (Own i) w o w' o' ∧ EndAt w' o' i b (newE (winN n)) := by
  rw [← winN_eq]
  exact new_yes (winN n) i w o (winN_lo n) (winN_hi n) hi

end Go.Proofs.Ytaonhmdifinadaa
