/-
  The walks of the laws HashSum, HashBytes, HashPairs, HashArguments.
-/
import Derived.Test.YtmaajkecmpopmaaHashLives
import Derived.Test.YtmaajkecmpopmaaHashInj
namespace Go.Proofs.Ytmaajkecmpopmaa
open Go Go.Proofs
open Go.RowKit
set_option linter.unusedVariables false

theorem hashSum_walk (s : ByteArray) (a : Option Addr) (c : Nat) (xs : List Int) (w : World) (hs : s.size ≤ 9223372036854775807) (hx : SliceAt w a c (xs.map intV)) (hxb : ∀ n ∈ xs, -9223372036854775808 ≤ n ∧ n ≤ 9223372036854775807) :
    Calls Try.prog 3 #[.string s, .slice a xs.length c] w fun e w' => e = .returned (.bool true) ∧ Below w.heap.size w w' := by
  go_enter Try.func3, Try.ntmps3
  go_wp2_with fail
  refine (short_any s 40 w hs (by decide)).mono ?_
  rintro e w0 ⟨rfl, rfl⟩
  have ht := size_extract0 s 40
  generalize s.extract 0 40 = t at *
  go_wp2_with fail
  refine (ints_any a c xs 12 w hx (by decide)).mono ?_
  rintro e w1 ⟨v, rfl, hown, hb1⟩
  obtain ⟨a1, c1, rfl, hs1⟩ := ownsRow_sliceMap hown
  generalize xs.take 12 = ys at *
  clear hown
  go_wp2_with fail
  refine (sum_any t a1 c1 ys w1 (by omega) hs1).mono ?_
  rintro e w2 ⟨rfl, hb2⟩
  have hs2 := hs1.below hb2
  go_wp2_with fail
  refine (rsum_any t a1 c1 ys w2 (by omega) hs2).mono ?_
  rintro e w3 ⟨rfl, hb3⟩
  go_wp2_with fail
  refine (sum_any t none 0 [] w3 (by omega) (slice_nil _ _)).mono ?_
  rintro e w4 ⟨rfl, hb4⟩
  go_wp2_with fail
  refine (rsum_any t none 0 [] w4 (by omega) (slice_nil _ _)).mono ?_
  rintro e w5 ⟨rfl, hb5⟩
  go_wp2_with fail
  refine (lives_any w5).mono ?_
  rintro e w6 ⟨rfl, hb6⟩
  go_wp2_with fail
  go_ret
  exact ⟨rfl, Below.step (Below.step (Below.step (Below.step (Below.step hb1 hb2) hb3) hb4) hb5) hb6⟩

theorem hashBytes_walk (s : ByteArray) (a : Option Addr) (c : Nat) (xs : List UInt8) (x y : Int) (w : World) (hs : s.size ≤ 9223372036854775807) (hx : SliceAt w a c (xs.map byteV)) (hx1 : 0 ≤ x ∧ x ≤ 18446744073709551615) (hy1 : 0 ≤ y ∧ y ≤ 18446744073709551615) :
    Calls Try.prog 4 #[.string s, .slice a xs.length c, .int .u64 x, .int .u64 y] w fun e w' => e = .returned (.bool true) ∧ Below w.heap.size w w' := by
  go_enter Try.func4, Try.ntmps4
  go_wp2_with fail
  refine (short_any s 20 w hs (by decide)).mono ?_
  rintro e w0 ⟨rfl, rfl⟩
  have ht := size_extract0 s 20
  generalize s.extract 0 20 = t at *
  go_wp2_with fail
  refine (few_any a c xs 60 w hx (by decide)).mono ?_
  rintro e w1 ⟨v, rfl, hown, hb1⟩
  obtain ⟨a1, c1, rfl, hs1⟩ := ownsRow_sliceMap hown
  have hl : (xs.take 60).length ≤ 60 := by simp; omega
  generalize xs.take 60 = ys at *
  clear hown
  go_wp2_with fail
  refine (bytes_any t a1 c1 ys w1 (by omega) hs1 (by omega)).mono ?_
  rintro e w2 ⟨rfl, hb2⟩
  have hs2 := hs1.below hb2
  go_wp2_with fail
  refine (rbytes_any t a1 c1 ys w2 (by omega) hs2 (by omega)).mono ?_
  rintro e w3 ⟨rfl, hb3⟩
  go_wp2_with fail
  refine (pair_any x y w3).mono ?_
  rintro e w4 ⟨rfl, hb4⟩
  go_wp2_with fail
  refine (rpair_any x y w4).mono ?_
  rintro e w5 ⟨rfl, hb5⟩
  go_wp2_with fail
  refine (lives_any w5).mono ?_
  rintro e w6 ⟨rfl, hb6⟩
  go_wp2_with fail
  go_ret
  exact ⟨rfl, Below.step (Below.step (Below.step (Below.step (Below.step hb1 hb2) hb3) hb4) hb5) hb6⟩

theorem hashPairs_walk (a b c : Int) (w : World) (ha : 0 ≤ a ∧ a ≤ 18446744073709551615) (hb : 0 ≤ b ∧ b ≤ 18446744073709551615) (hc : 0 ≤ c ∧ c ≤ 18446744073709551615) :
    Calls Try.prog 9 #[.int .u64 a, .int .u64 b, .int .u64 c] w fun e w' => e = .returned (.bool true) ∧ Below w.heap.size w w' := by
  have f1 : (pairI a c == pairI b c) = (a == b) := by rw [Bool.eq_iff_iff, beq_iff_eq, beq_iff_eq]; exact pairI_left a b c ha hb
  have f2 : (pairI c a == pairI c b) = (a == b) := by rw [Bool.eq_iff_iff, beq_iff_eq, beq_iff_eq]; exact pairI_right a b c ha hb
  have f3 : sumI pairL [wrap64 a, wrap64 b] = pairI a b := rfl
  generalize e1 : pairI a c = s1 at *
  generalize e2 : pairI b c = s2 at *
  generalize e3 : pairI c a = s3 at *
  generalize e4 : pairI c b = s4 at *
  generalize e5 : pairI a b = s5 at *
  have E1 := Lib.hid e1
  have E2 := Lib.hid e2
  have E3 := Lib.hid e3
  have E4 := Lib.hid e4
  have E5 := Lib.hid e5
  have E6 := Lib.hid f3
  clear e1 e2 e3 e4 e5 f3
  go_enter Try.func9, Try.ntmps9
  go_wp2_with fail
  refine (pair_eq a c s1 w E1.out).mono ?_
  rintro e w1 ⟨rfl, hb1⟩
  go_wp2_with fail
  refine (pair_eq b c s2 w1 E2.out).mono ?_
  rintro e w2 ⟨rfl, hb2⟩
  go_wp2_with fail
  refine (pair_eq c a s3 w2 E3.out).mono ?_
  rintro e w3 ⟨rfl, hb3⟩
  go_wp2_with fail
  refine (pair_eq c b s4 w3 E4.out).mono ?_
  rintro e w4 ⟨rfl, hb4⟩
  go_wp2_with fail
  refine (pair_eq a b s5 w4 E5.out).mono ?_
  rintro e w5 ⟨rfl, hb5⟩
  go_wp2_with fail
  refine (sum_new ⟨#[112, 97, 105, 114]⟩ [wrap64 a, wrap64 b] s5 w5 (by decide) (by simp) E6.out).mono ?_
  rintro e w6 ⟨rfl, hb6⟩
  go_wp2_with fail
  refine (lives_any w6).mono ?_
  rintro e w7 ⟨rfl, hb7⟩
  go_wp2_with fail
  go_ret
  exact ⟨rfl, Below.step (Below.step (Below.step (Below.step (Below.step (Below.step hb1 hb2) hb3) hb4) hb5) hb6) hb7⟩

theorem hashArguments_walk (a : Option Addr) (c : Nat) (xs : List Int) (a' : Option Addr) (c' : Nat) (bs : List UInt8) (w : World) (hx : SliceAt w a c (xs.map intV)) (hxb : ∀ n ∈ xs, -9223372036854775808 ≤ n ∧ n ≤ 9223372036854775807) (hy : SliceAt w a' c' (bs.map byteV)) :
    Calls Try.prog 10 #[.slice a xs.length c, .slice a' bs.length c'] w fun e w' => e = .returned (.bool true) ∧ Below w.heap.size w w' := by
  obtain ⟨ys, hys⟩ : ∃ ys, xs.take 10 = ys := ⟨_, rfl⟩
  obtain ⟨bz, hbz⟩ : ∃ bz, bs.take 30 = bz := ⟨_, rfl⟩
  have hl : bz.length ≤ 30 := by rw [← hbz]; simp; omega
  have HYS := Lib.hid hys
  have HBZ := Lib.hid hbz
  clear hys hbz
  go_enter Try.func10, Try.ntmps10
  go_wp2_with fail
  refine (ints_any a c xs 10 w hx (by decide)).mono ?_
  rw [HYS.out]
  rintro e w1 ⟨v, rfl, hown, hb1⟩
  obtain ⟨a1, c1, rfl, hs1⟩ := ownsRow_sliceMap hown
  clear hown
  go_wp2_with fail
  refine (few_any a' c' bs 30 w1 (hy.below hb1) (by decide)).mono ?_
  rw [HBZ.out]
  rintro e w2 ⟨v, rfl, hown, hb2⟩
  obtain ⟨a2, c2, rfl, hs2⟩ := ownsRow_sliceMap hown
  clear hown
  have hB2 := Below.step hb1 hb2
  go_wp2_with fail
  refine (sum_any ⟨#[115, 97, 109, 101]⟩ a1 c1 ys w2 (by decide) (hs1.below hb2)).mono ?_
  rintro e w3 ⟨rfl, hb3⟩
  have hB3 := Below.step hB2 hb3
  go_wp2_with fail
  refine (bytes_any ⟨#[115, 97, 109, 101]⟩ a2 c2 bz w3 (by decide) (hs2.below hb3) (by omega)).mono ?_
  rintro e w4 ⟨rfl, hb4⟩
  have hB4 := Below.step hB3 hb4
  go_wp2_with fail
  refine (ints_any a c xs 10 w4 (hx.below hB4) (by decide)).mono ?_
  rw [HYS.out]
  rintro e w5 ⟨v, rfl, hown, hb5⟩
  obtain ⟨a5, c5, rfl, hs5⟩ := ownsRow_sliceMap hown
  clear hown
  have hB5 := Below.step hB4 hb5
  have hk1 := (((hs1.below hb2).below hb3).below hb4).below hb5
  have hk2 := ((hs2.below hb3).below hb4).below hb5
  go_wp2_with fail
  refine (sameInts_any a1 a5 c1 c5 ys ys w5 hk1 hs5).mono ?_
  rintro e w6 ⟨rfl, hb6⟩
  have hB6 := Below.step hB5 hb6
  go_wp2_with fail
  refine (few_any a' c' bs 30 w6 (hy.below hB6) (by decide)).mono ?_
  rw [HBZ.out]
  rintro e w7 ⟨v, rfl, hown, hb7⟩
  obtain ⟨a7, c7, rfl, hs7⟩ := ownsRow_sliceMap hown
  clear hown
  have hB7 := Below.step hB6 hb7
  have hk3 := (hk2.below hb6).below hb7
  go_wp2_with fail
  refine (sameBytes_any a2 a7 c2 c7 bz bz w7 hk3 hs7).mono ?_
  rintro e w8 ⟨rfl, hb8⟩
  have hB8 := Below.step hB7 hb8
  go_wp2_with fail
  refine (sum_any ⟨#[115, 97, 109, 101]⟩ a1 c1 ys w8 (by decide) (((hk1.below hb6).below hb7).below hb8)).mono ?_
  rintro e w9 ⟨rfl, hb9⟩
  have hB9 := Below.step hB8 hb9
  go_wp2_with fail
  refine (bytes_any ⟨#[115, 97, 109, 101]⟩ a2 c2 bz w9 (by decide) ((hk3.below hb8).below hb9) (by omega)).mono ?_
  rintro e w10 ⟨rfl, hb10⟩
  have hB10 := Below.step hB9 hb10
  go_wp2_with fail
  refine (lives_any w10).mono ?_
  rintro e w11 ⟨rfl, hb11⟩
  go_wp2_with fail
  go_ret
  exact ⟨rfl, Below.step hB10 hb11⟩
end Go.Proofs.Ytmaajkecmpopmaa
