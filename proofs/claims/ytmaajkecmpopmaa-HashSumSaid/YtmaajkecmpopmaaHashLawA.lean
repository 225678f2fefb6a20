/-
  The walks of the laws HashSum and HashBytes.
-/
import Derived.Test.YtmaajkecmpopmaaHashLives
namespace Go.Proofs.Ytmaajkecmpopmaa
open Go Go.Proofs
open Go.RowKit
set_option linter.unusedVariables false

theorem hashSum_walk (s : ByteArray) (a : Option Addr) (c : Nat) (xs : List Int) (w : World) (hs : s.size ≤ 9223372036854775807) (hx : SliceAt w a c (xs.map intV)) (hxb : ∀ n ∈ xs, -9223372036854775808 ≤ n ∧ n ≤ 9223372036854775807) :
    Calls Try.prog 3 #[.string s, .slice a xs.length c] w fun e w' => e = .returned (.bool true) ∧ Below w.heap.size w w' := by
  go_enter Try.func3, Try.ntmps3
  go_wp2_with fail
  refine (short_any s 40 w hs (by decide)).mono ?_
  rintro e w0 ⟨rfl, rfl⟩
  have ht := size_extract0 s 40
  generalize s.extract 0 40 = t at *
  go_wp2_with fail
  refine (ints_any a c xs 12 w hx (by decide)).mono ?_
  rintro e w1 ⟨v, rfl, hown, hb1⟩
  obtain ⟨a1, c1, rfl, hs1⟩ := ownsRow_sliceMap hown
  generalize xs.take 12 = ys at *
  clear hown
  go_wp2_with fail
  refine (sum_any t a1 c1 ys w1 (by omega) hs1).mono ?_
  rintro e w2 ⟨rfl, hb2⟩
  have hs2 := hs1.below hb2
  go_wp2_with fail
  refine (rsum_any t a1 c1 ys w2 (by omega) hs2).mono ?_
  rintro e w3 ⟨rfl, hb3⟩
  go_wp2_with fail
  refine (sum_any t none 0 [] w3 (by omega) (slice_nil _ _)).mono ?_
  rintro e w4 ⟨rfl, hb4⟩
  go_wp2_with fail
  refine (rsum_any t none 0 [] w4 (by omega) (slice_nil _ _)).mono ?_
  rintro e w5 ⟨rfl, hb5⟩
  go_wp2_with fail
  refine (lives_any w5).mono ?_
  rintro e w6 ⟨rfl, hb6⟩
  go_wp2_with fail
  go_ret
  exact ⟨rfl, Below.step (Below.step (Below.step (Below.step (Below.step hb1 hb2) hb3) hb4) hb5) hb6⟩
end Go.Proofs.Ytmaajkecmpopmaa
