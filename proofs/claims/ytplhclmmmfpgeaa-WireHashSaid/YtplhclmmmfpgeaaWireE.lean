/-
  The law WireSizes.
-/
import Derived.Test.YtplhclmmmfpgeaaWireD
namespace Go.Proofs.Ytplhclmmmfpgeaa
open Go Go.Proofs
open Go.RowKit
set_option linter.unusedVariables false
set_option linter.unusedSimpArgs false

theorem bound_any (n : Int) (m : Int) (w : World) (h1 : 0 ≤ m) (h2 : m ≤ 2305843009213693952) (h3 : -9223372036854775808 ≤ n) (h4 : n ≤ 9223372036854775807) :
    Calls Try.prog 13 #[.int .i64 n, .int .i64 m] w fun e w' => e = .returned (.int .i64 (aroundI n (2 * m + 1) - m)) ∧ w = w' := by
  have a1 := aroundI_lo n (2 * m + 1) (by omega)
  have a2 := aroundI_hi n (2 * m + 1) (by omega)
  go_enter Try.func13, Try.ntmps13
  go_wp2_with fail
  refine (around_any n (2 * m + 1) w (by omega) (by omega) h3 h4).mono ?_
  rintro e w1 ⟨rfl, rfl⟩
  go_wp2_with fail
  go_ret
  exact ⟨rfl, rfl⟩
theorem encI_one {m : Int} (h1 : -63 ≤ m) (h2 : m ≤ 63) : (encI m).length = 1 := by
  unfold encI
  rw [encU_small (by unfold zigN; split <;> omega)]
  rfl
def sizeL (r : Nat) : Nat := if r = 0 then 0 else (encU r).length
theorem sizeL_step {r : Nat} (h : 0 < r) : sizeL r = sizeL (r / 128) + 1 := by
  unfold sizeL
  rw [if_neg (by omega)]
  by_cases hs : r < 128
  · rw [encU_small hs, if_pos (by omega)]; rfl
  · rw [encU_big (by omega), if_neg (by omega)]; simp
theorem sizeL_le {r : Nat} (h : r < 18446744073709551616) : sizeL r ≤ 10 := by
  unfold sizeL; split
  · omega
  · exact encU_len10 h
theorem encU_sizeL (K : Nat) : (encU K).length = 1 + sizeL (K / 128) := by
  by_cases hs : K < 128
  · rw [encU_small hs]; unfold sizeL; rw [if_pos (by omega)]; rfl
  · rw [encU_big (by omega)]; unfold sizeL; rw [if_neg (by omega)]; simp; omega

set_option maxRecDepth 100000 in
set_option maxHeartbeats 4000000 in
theorem wireSizes_walk (u n shift : Int) (w : World) (h0 : 0 ≤ u ∧ u ≤ 18446744073709551615) (h1 : -9223372036854775808 ≤ n ∧ n ≤ 9223372036854775807) (h2 : -9223372036854775808 ≤ shift ∧ shift ≤ 9223372036854775807) :
    Calls Try.prog 3 #[.int .u64 u, .int .i64 n, .int .i64 shift] w fun e w' => e = .returned (.bool true) ∧ Below w.heap.size w w' := by
  obtain ⟨U, rfl⟩ : ∃ U : Nat, u = U := ⟨u.toNat, by omega⟩
  have hU : U < 18446744073709551616 := by omega
  have a1 := aroundI_lo shift 64 (by omega)
  have a2 := aroundI_hi shift 64 (by omega)
  obtain ⟨s, hs⟩ : ∃ s : Nat, aroundI shift 64 = s := ⟨(aroundI shift 64).toNat, by omega⟩
  rw [hs] at a1 a2
  have hKK : (U : Int) / 2 ^ s = ((U / 2 ^ s : Nat) : Int) := by simp
  obtain ⟨K, hK⟩ : ∃ K, U / 2 ^ s = K := ⟨_, rfl⟩
  rw [hK] at hKK
  have hKU : K ≤ U := by rw [← hK]; exact Nat.div_le_self _ _
  have b1 := aroundI_lo n (2 * 63 + 1) (by omega)
  have b2 := aroundI_hi n (2 * 63 + 1) (by omega)
  obtain ⟨m, hm⟩ : ∃ m, aroundI n (2 * 63 + 1) - 63 = m := ⟨_, rfl⟩
  have hm1 : -63 ≤ m := by omega
  have hm2 : m ≤ 63 := by omega
  have HS := Lib.hid hs
  have HM := Lib.hid hm
  have hK0 : K < 18446744073709551616 := by omega
  have HK0 := Lib.hid hK0
  clear hs hm a1 hK b1 b2 hU
  go_enter Try.func3, Try.ntmps3
  go_wp2_with fail
  refine (around_any shift 64 _ (by omega) (by omega) h2.1 h2.2).mono ?_
  rw [HS.out]
  rintro e w1 ⟨rfl, rfl⟩
  go_wp2_with fail
  go_loop [8, 9] (fun zv rv => ∃ z r : Nat, zv = .int .i64 z ∧ rv = .int .u64 r ∧ z ≤ 20 ∧ r < 18446744073709551616 ∧ Hid (z + sizeL r = (encU K).length)) (fun _ rv => (intOf rv).toNat)
  case atStart => exact ⟨1, K / 128, rfl, by go_num, by omega, by omega, (encU_sizeL K).symm⟩
  case round =>
    obtain ⟨z, r, rfl, rfl, hz, hr, HZ⟩ := hrel
    have hzz : z ≤ 10 := by have := HZ.out; have := encU_len10 HK0.out; omega
    by_cases hr0 : 0 < r
    · have d1 : decide ((0 : Int) < (r : Int)) = true := decide_eq_true (by omega)
      have d2 : decide (0 < r) = true := decide_eq_true hr0
      have HZ2 : Hid (z + 1 + sizeL (r / 128) = (encU K).length) := by have := HZ.out; rw [sizeL_step hr0] at this; unfold Hid; omega
      go_wp2_with fail
      go_round
      case rel => exact ⟨z + 1, r / 128, by go_num, by go_num, by omega, by omega, HZ2.out⟩
      case measure => simp [intOf]; omega
    · have d1 : decide ((0 : Int) < (r : Int)) = false := decide_eq_false (by omega)
      have d2 : decide (0 < r) = false := decide_eq_false hr0
      have HZ2 : Hid ((encU K).length = z) := by have := HZ.out; unfold sizeL at this; rw [if_pos (by omega)] at this; unfold Hid; omega
      have T0 := Lib.hid ((step_new w (fun _ => 0) (10 * 1) (.cells #[.slice none 0 0] 26)).mono (L' := fun x => x ≠ 0) fun _ h => h.elim)
      go_wp2_with fail
      refine (uint_any 1 w.heap.size K [] _ (newLab w (fun _ => 0) (10 * 1)) (by omega) (wr_new w _ 1 _) (by omega) (by simp)).mono ?_
      rintro e w1 ⟨rfl, o1, hs1, hw1⟩
      have T1 := Lib.hid (T0.out.trans (hs1.mono fun l h => by unfold Own at h; omega))
      have W1 : Hid (WrAt w1 o1 1 w.heap.size (encU K)) := by unfold Hid; simpa using hw1
      obtain ⟨b1, hb1⟩ : ∃ b1, b1 = w.heap.size := ⟨_, rfl⟩
      rw [← hb1] at W1 ⊢
      have HB1 := Lib.hid hb1
      clear hs1 hw1 T0 hb1
      have s2 := step_new w1 o1 (10 * 2) (.cells #[.slice none 0 0] 26)
      have T2 := Lib.hid (T1.out.trans (s2.mono fun l h => h.elim))
      have W2 := Lib.hid (W1.out.step s2 fun _ _ h => h)
      clear s2 T1 W1
      go_wp2_with fail
      refine (bound_any n 63 _ (by omega) (by omega) h1.1 h1.2).mono ?_
      rw [HM.out]
      rintro e w2 ⟨rfl, rfl⟩
      go_wp2_with fail
      refine (int_any 2 w1.heap.size m [] _ (newLab w1 o1 (10 * 2)) (by omega) (wr_new w1 _ 2 _) (by omega) (by omega) (by simp)).mono ?_
      rintro e w3 ⟨rfl, o3, hs3, hx3⟩
      have T3 := Lib.hid (T2.out.trans (hs3.mono fun l h => by unfold Own at h; omega))
      have W3 := Lib.hid (W2.out.step hs3 fun l h => by unfold Own at *; omega)
      have X3 := Lib.hid hx3
      clear hs3 hx3 T2 W2
      go_wp2_with fail
      refine (int_any 2 w1.heap.size (-m) _ _ o3 (by omega) X3.out (by omega) (by omega) (by rw [List.nil_append, encI_one hm1 hm2]; omega)).mono ?_
      rintro e w4 ⟨rfl, o4, hs4, hx4⟩
      have T4 := Lib.hid (T3.out.trans (hs4.mono fun l h => by unfold Own at h; omega))
      have W4 := Lib.hid (W3.out.step hs4 fun l h => by unfold Own at *; omega)
      have X4 := Lib.hid hx4
      have hl4 : (([] : List UInt8) ++ encI m ++ encI (-m)).length = 2 := by rw [List.nil_append, List.length_append, encI_one hm1 hm2, encI_one (by omega) (by omega)]
      have L4 := Lib.hid hl4
      clear hs4 hx4 T3 W3 X3 hl4
      go_wp2_with fail
      refine (bool_any 2 w1.heap.size _ _ _ o4 (by omega) X4.out (by rw [L4.out]; omega)).mono ?_
      rintro e w5 ⟨rfl, o5, hs5, hx5⟩
      have T5 := Lib.hid (T4.out.trans (hs5.mono fun l h => by unfold Own at h; omega))
      have W5 := Lib.hid (W4.out.step hs5 fun l h => by unfold Own at *; omega)
      have X5 := Lib.hid hx5
      have hl5 : (([] : List UInt8) ++ encI m ++ encI (-m) ++ encU (boolN (decide (0 < m)))).length = 3 := by
        rw [List.length_append, L4.out, encU_small (by unfold boolN; split <;> omega)]; rfl
      have L5 := Lib.hid hl5
      clear hs5 hx5 T4 W4 X4 hl5
      go_wp2_with fail
      refine (done_any 1 b1 _ w5 o5 W5.out (by have := HZ2.out; omega)).mono ?_
      rintro e w6 ⟨v, rfl, hown6, hb6⟩
      obtain ⟨va, vc, rfl, -⟩ := ownsRow_sliceMap hown6
      rw [HZ2.out]
      have s6 : Step (fun _ => False) w5 o5 w6 o5 := Step.same hb6
      have T6 := Lib.hid (T5.out.trans (s6.mono fun l h => h.elim))
      have X6 := Lib.hid (X5.out.step s6 fun _ _ h => h)
      clear s6 hb6 hown6 T5 X5 W5
      go_wp2_with fail
      refine (done_any 2 w1.heap.size _ w6 o5 X6.out (by rw [L5.out]; omega)).mono ?_
      rintro e w7 ⟨v, rfl, hown7, hb7⟩
      obtain ⟨xa, xc, rfl, -⟩ := ownsRow_sliceMap hown7
      rw [L5.out]
      have T7 := Lib.hid (T6.out.trans ((Step.same hb7 : Step (fun _ => False) w6 o5 w7 o5).mono fun l h => h.elim))
      clear hb7 hown7 T6 X6
      go_wp2_with fail
      refine (lives_any w7).mono ?_
      rintro e w8 ⟨rfl, hb8⟩
      go_wp2_with fail
      go_ret
      exact ⟨rfl, (T7.out.toBelow (Nat.le_refl _) fun k _ h => h rfl).trans (hb8.mono T7.out.size)⟩
end Go.Proofs.Ytplhclmmmfpgeaa
