/-
  The two ends of the laws.
-/
import Derived.Test.YtmonpnikdheokaaChanG
namespace Go.Proofs.Ytmonpnikdheokaa
open Go Go.Proofs
open Go.RowKit
set_option linter.unusedVariables false
set_option linter.unusedSimpArgs false

theorem tdiv_in (n : Int) (k : Int) (hk : 1 ≤ k) (h1 : -9223372036854775808 ≤ n) (h2 : n ≤ 9223372036854775807) : -9223372036854775808 ≤ n.tdiv k ∧ n.tdiv k ≤ 9223372036854775807 := by
  rcases Int.le_total 0 n with h | h
  · rw [Int.tdiv_eq_ediv_of_nonneg h]
    have := Int.ediv_le_self (a := n) k h
    have := Int.ediv_nonneg h (show (0 : Int) ≤ k by omega)
    omega
  · obtain ⟨m, rfl⟩ : ∃ m, n = -m := ⟨-n, by omega⟩
    rw [Int.neg_tdiv, Int.tdiv_eq_ediv_of_nonneg (by omega)]
    have := Int.ediv_le_self (a := m) k (by omega)
    have := Int.ediv_nonneg (show 0 ≤ m by omega) (show (0 : Int) ≤ k by omega)
    omega
/-- The window of a law's end. -/
def winN (n : Int) : Nat := (1 + aroundI n 16).toNat
theorem winN_eq (n : Int) : ((winN n : Nat) : Int) = 1 + aroundI n 16 := by
  unfold winN
  have := aroundI_lo n 16 (by omega)
  omega
theorem winN_lo (n : Int) : 1 ≤ winN n := by
  have := winN_eq n
  have := aroundI_lo n 16 (by omega)
  omega
theorem winN_hi (n : Int) : winN n ≤ 16 := by
  have := winN_eq n
  have := aroundI_hi n 16 (by omega)
  omega
theorem new_win (n : Int) (i : Nat) (w : World) (o : Nat → Nat) (hi : 1 ≤ i) :
    Calls Try.prog 26 #[.int .i64 (1 + aroundI n 16)] w fun e w' => ∃ b, e = .returned (.tuple #[.pointer (some ⟨b, 0, none⟩), .int .i64 0]) ∧ ∃ o', Step (Own i) w o w' o' ∧ EndAt w' o' i b (newE (winN n)) := by
  rw [← winN_eq]
  exact new_yes (winN n) i w o (winN_lo n) (winN_hi n) hi

set_option maxHeartbeats 1000000 in
theorem ends_any (n : Int) (w : World) (h1 : -9223372036854775808 ≤ n) (h2 : n ≤ 9223372036854775807) :
    Calls Try.prog 11 #[.int .i64 n] w fun e w' => ∃ g b1 b2 o', e = .returned (.slice (some ⟨g, 0, none⟩) 2 2) ∧ Two w w' o' (pr b1 b2) (pr (newE (winN n)) (newE (winN (n.tdiv 16)))) ∧ Blk w' o' 0 g [.pointer (some ⟨b1, 0, none⟩), .pointer (some ⟨b2, 0, none⟩)] := by
  have l1 := aroundI_lo n 16 (by omega)
  have u1 := aroundI_hi n 16 (by omega)
  have l2 := aroundI_lo (n.tdiv 16) 16 (by omega)
  have u2 := aroundI_hi (n.tdiv 16) 16 (by omega)
  go_enter Try.func11, Try.ntmps11
  go_wp2_with fail
  refine (around_any n 16 _ (by omega) (by omega) h1 h2).mono ?_
  rintro e w1 ⟨rfl, rfl⟩
  go_wp2_with fail
  refine (new_win n 1 w (fun _ => 0) (by omega)).mono ?_
  rintro e w1 ⟨b1, rfl, o1, hs1, hA1⟩
  have HS1 := Lib.hid hs1
  have HA1 := Lib.hid hA1
  clear hs1 hA1
  go_wp2_with fail
  refine (around_any (n.tdiv 16) 16 _ (by omega) (by omega) (tdiv_in n 16 (by omega) h1 h2).1 (tdiv_in n 16 (by omega) h1 h2).2).mono ?_
  rintro e w2 ⟨rfl, rfl⟩
  go_wp2_with fail
  refine (new_win (n.tdiv 16) 2 w1 o1 (by omega)).mono ?_
  rintro e w2 ⟨b2, rfl, o2, hs2, hB2⟩
  have T2 := Lib.hid (Two.made HS1.out HA1.out hs2 hB2)
  clear hs2 hB2 HA1 HS1
  go_wp2_with fail
  go_ret
  have hs3 : Step (fun _ => False) w2 o2 (w2.alloc (.cells #[.pointer (some ⟨b1, 0, none⟩), .pointer (some ⟨b2, 0, none⟩)] 33)) (newLab w2 o2 0) := Step.below ((Below.refl _ _).alloc (Nat.le_refl _) _) fun k hk => newLab_old _ _ _ hk
  exact ⟨_, b1, b2, newLab w2 o2 0, rfl, T2.out.step hs3 (fun _ _ h => h), ⟨_, heap_alloc_new _ _, newLab_new _ _ _ (Nat.le_refl _)⟩⟩
end Go.Proofs.Ytmonpnikdheokaa
