/-
  A contract of schemalensref01.Has.
-/
import Derived.Test.YtaonhmdifinadaaRefA
namespace Go.Proofs.Ytaonhmdifinadaa
open Go Go.Proofs
open Go.RowKit
set_option linter.unusedVariables false

theorem hasI_any (a : Option Addr) (c : Nat) (xs : List Int) (n : Int) (w : World) (hx : SliceAt w a c (xs.map intV)) :
    Calls Try.prog 38 #[.slice a xs.length c, .int .i64 n] w fun e w' => e = .returned (.bool (decide (n ∈ xs))) ∧ w = w' := by
  have hxl := hx.len
  simp only [List.length_map] at hxl
  go_enter Try.func38, Try.ntmps38
  go_wp2_with fail
  go_loop [5] (fun i => ∃ k : Nat, k ≤ xs.length ∧ i = .int .i64 k ∧ Hid (n ∉ xs.take k)) (fun i => xs.length - (intOf i).toNat)
  case atStart => exact ⟨0, by omega, rfl, by unfold Hid; simp⟩
  case round =>
    obtain ⟨k, hk, rfl, hpre⟩ := hrel
    by_cases hkn : k < xs.length
    · obtain ⟨b, off, rfl⟩ := hx.addr (by simp; omega)
      have f1 := hx.intV hkn
      by_cases heq : xs[k] = n
      · have hne : (xs[k] == n) = true := by simp [heq]
        have hfin : decide (n ∈ xs) = true := by
          simp only [decide_eq_true_eq]; rw [← heq]; exact List.getElem_mem _
        have HF := Lib.hid hfin
        clear hfin heq
        go_wp2_with fail
        go_ret
        exact ⟨ret_bool HF.out.symm, rfl⟩
      · have hne : (xs[k] == n) = false := by simp [heq]
        have hpre2 : Hid (n ∉ xs.take (k + 1)) := by
          unfold Hid
          rw [List.take_succ_eq_append_getElem hkn, List.mem_append]
          rintro (h | h)
          · exact hpre.out h
          · simp at h; exact heq h.symm
        clear heq
        go_wp2_with fail
        go_round
        case rel => exact ⟨k + 1, by omega, by go_num, hpre2⟩
        case measure => simp [intOf]; omega
    · have hfin : decide (n ∈ xs) = false := by
        simp only [decide_eq_false_iff_not]
        have h := hpre.out
        rwa [List.take_of_length_le (by omega)] at h
      have HF := Lib.hid hfin
      clear hfin
      go_wp2_with fail
      go_ret
      exact ⟨ret_bool HF.out.symm, rfl⟩

theorem tdivI_in (n : Int) (k : Int) (hk : 1 ≤ k) (h1 : -9223372036854775808 ≤ n) (h2 : n ≤ 9223372036854775807) : -9223372036854775808 ≤ n.tdiv k ∧ n.tdiv k ≤ 9223372036854775807 := by
  rcases Int.le_total 0 n with h | h
  · rw [Int.tdiv_eq_ediv_of_nonneg h]
    have := Int.ediv_le_self (a := n) k h
    have := Int.ediv_nonneg h (show (0 : Int) ≤ k by omega)
    omega
  · obtain ⟨m, rfl⟩ : ∃ m, n = -m := ⟨-n, by omega⟩
    rw [Int.neg_tdiv, Int.tdiv_eq_ediv_of_nonneg (by omega)]
    have := Int.ediv_le_self (a := m) k (by omega)
    have := Int.ediv_nonneg (show 0 ≤ m by omega) (show (0 : Int) ≤ k by omega)
    omega
end Go.Proofs.Ytaonhmdifinadaa
