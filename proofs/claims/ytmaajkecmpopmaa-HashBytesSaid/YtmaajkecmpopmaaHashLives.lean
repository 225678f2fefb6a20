/-
  The examples of the chapter on the hash hold.
-/
import Derived.Test.YtmaajkecmpopmaaHashRef
namespace Go.Proofs.Ytmaajkecmpopmaa
open Go Go.Proofs
open Go.RowKit
set_option linter.unusedVariables false

theorem lives_facts : (sumI [97] [5] != sumI [97] [6]) = true ∧ (bytesI [97] [1, 2] == sumI [97] [513, 2]) = true ∧ (pairI 1 2 != pairI 1 3) = true := by decide +kernel

theorem sum_new (s : ByteArray) (xs : List Int) (r : Int) (w : World) (hs : s.size ≤ 140737488351232) (hl : xs.length ≤ 9223372036854775807) (hr : sumI s.data.toList xs = r) :
    Calls Try.prog 13 #[.string s, .slice (some ⟨w.heap.size, 0, none⟩) xs.length xs.length] (w.alloc (.cells (xs.map intV).toArray 3)) fun e w' => e = .returned (.int .u64 r) ∧ Below w.heap.size w w' := by
  refine (sum_any s _ _ xs _ hs (slice_new hl)).mono ?_
  rintro e w' ⟨rfl, hb⟩
  exact ⟨by rw [hr], ((Below.refl _ w).alloc (Nat.le_refl _) _).trans (hb.mono (by simp))⟩
theorem bytes_new (s : ByteArray) (xs : List UInt8) (r : Int) (w : World) (hs : s.size ≤ 140737488351232) (hl : xs.length ≤ 1000000000) (hr : bytesI s.data.toList xs = r) :
    Calls Try.prog 17 #[.string s, .slice (some ⟨w.heap.size, 0, none⟩) xs.length xs.length] (w.alloc (.cells (xs.map byteV).toArray 5)) fun e w' => e = .returned (.int .u64 r) ∧ Below w.heap.size w w' := by
  refine (bytes_any s _ _ xs _ hs (slice_new (by omega)) hl).mono ?_
  rintro e w' ⟨rfl, hb⟩
  exact ⟨by rw [hr], ((Below.refl _ w).alloc (Nat.le_refl _) _).trans (hb.mono (by simp))⟩
theorem pair_eq (x y r : Int) (w : World) (hr : pairI x y = r) : Calls Try.prog 19 #[.int .u64 x, .int .u64 y] w fun e w' => e = .returned (.int .u64 r) ∧ Below w.heap.size w w' := by
  rw [← hr]; exact pair_any x y w

theorem lives_any (w : World) : Calls Try.prog 15 #[] w fun e w' => e = .returned (.bool true) ∧ Below w.heap.size w w' := by
  obtain ⟨f1, f2, f3⟩ := lives_facts
  generalize e1 : sumI [97] [5] = s1 at *
  generalize e2 : sumI [97] [6] = s2 at *
  generalize e3 : bytesI [97] [1, 2] = s3 at *
  generalize e4 : sumI [97] [513, 2] = s4 at *
  generalize e5 : pairI 1 2 = s5 at *
  generalize e6 : pairI 1 3 = s6 at *
  have E1 := Lib.hid e1
  have E2 := Lib.hid e2
  have E3 := Lib.hid e3
  have E4 := Lib.hid e4
  have E5 := Lib.hid e5
  have E6 := Lib.hid e6
  clear e1 e2 e3 e4 e5 e6
  go_enter Try.func15, Try.ntmps15
  go_wp2_with fail
  refine (sum_new ⟨#[97]⟩ [5] s1 w (by decide) (by decide) E1.out).mono ?_
  rintro e w1 ⟨rfl, hb1⟩
  go_wp2_with fail
  refine (sum_new ⟨#[97]⟩ [6] s2 w1 (by decide) (by decide) E2.out).mono ?_
  rintro e w2 ⟨rfl, hb2⟩
  go_wp2_with fail
  refine (bytes_new ⟨#[97]⟩ [1, 2] s3 w2 (by decide) (by decide) E3.out).mono ?_
  rintro e w3 ⟨rfl, hb3⟩
  go_wp2_with fail
  refine (sum_new ⟨#[97]⟩ [513, 2] s4 w3 (by decide) (by decide) E4.out).mono ?_
  rintro e w4 ⟨rfl, hb4⟩
  go_wp2_with fail
  refine (pair_eq 1 2 s5 w4 E5.out).mono ?_
  rintro e w5 ⟨rfl, hb5⟩
  go_wp2_with fail
  refine (pair_eq 1 3 s6 w5 E6.out).mono ?_
  rintro e w6 ⟨rfl, hb6⟩
  go_wp2_with fail
  go_ret
  exact ⟨rfl, hb1.trans ((hb2.trans ((hb3.trans ((hb4.trans ((hb5.trans (hb6.mono hb5.size)).mono hb4.size)).mono hb3.size)).mono hb2.size)).mono hb1.size)⟩
end Go.Proofs.Ytmaajkecmpopmaa
