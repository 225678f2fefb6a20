/-
  Pick of the reference: the n-th number of a list, made small.
-/
import Derived.Test.YtaonhmdifinadaaRefA
namespace Go.Proofs.Ytaonhmdifinadaa
open Go Go.Proofs
open Go.RowKit
set_option linter.unusedVariables false
set_option linter.unusedSimpArgs false

theorem pick_any (a : Option Addr) (c : Nat) (xs : List Int) (i : Nat) (m : Int) (w : World) (hx : SliceAt w a c (xs.map intV)) (hb : ∀ n ∈ xs, -9223372036854775808 ≤ n ∧ n ≤ 9223372036854775807) (h1 : 1 ≤ m) (h2 : m ≤ 9223372036854775807) (hi : i ≤ 1000000) :
    Calls Try.prog 15 #[.slice a xs.length c, .int .i64 i, .int .i64 m] w fun e w' => e = .returned (.int .i64 (if h : i < xs.length then aroundI xs[i] m else 0)) ∧ w = w' := by
  have h3 := hx.len
  simp only [List.length_map] at h3
  have d0 : decide ((i : Int) < 0) = false := decide_eq_false (by omega)
  by_cases hlt : i < xs.length
  · rw [dif_pos hlt]
    obtain ⟨b, off, rfl⟩ := hx.addr (by simp; omega)
    have f1 := hx.intV hlt
    have hbn := hb xs[i] (List.getElem_mem _)
    have hle := hx.le
    simp only [List.length_map] at hle
    generalize xs[i] = n at *
    have K := Lib.hid (around_any n m w h1 h2 hbn.1 hbn.2)
    have d1 : decide (xs.length ≤ i) = false := by simp; omega
    have d2 : decide ((xs.length : Int) ≤ (i : Int)) = false := by simp; omega
    have d3 : (0 : Int) ≤ (i : Int) := by omega
    have d4 : (i : Int) < (xs.length : Int) := by omega
    clear hb hbn
    go_enter Try.func15, Try.ntmps15
    go_wp2_with fail
    refine K.out.mono ?_
    rintro e w' ⟨rfl, rfl⟩
    go_wp2
    go_ret
    exact ⟨rfl, rfl⟩
  · rw [dif_neg hlt]
    have d1 : decide (xs.length ≤ i) = true := by simp; omega
    have d2 : decide ((xs.length : Int) ≤ (i : Int)) = true := by simp; omega
    clear hb
    go_enter Try.func15, Try.ntmps15
    go_wp2
    go_ret
    exact ⟨rfl, rfl⟩

theorem pick_b (a : Option Addr) (c : Nat) (xs : List Int) (i : Int) (m : Int) (w : World) (hx : SliceAt w a c (xs.map intV)) (hb : ∀ n ∈ xs, -9223372036854775808 ≤ n ∧ n ≤ 9223372036854775807) (h1 : 1 ≤ m) (h2 : m ≤ 9223372036854775807) (hi : 0 ≤ i) (hi2 : i ≤ 1000000) :
    Calls Try.prog 15 #[.slice a xs.length c, .int .i64 i, .int .i64 m] w fun e w' => ∃ z : Nat, (z : Int) < m ∧ e = .returned (.int .i64 z) ∧ w = w' := by
  obtain ⟨j, rfl⟩ : ∃ j : Nat, i = j := ⟨i.toNat, by omega⟩
  refine (pick_any a c xs j m w hx hb h1 h2 (by omega)).mono ?_
  rintro e w' ⟨rfl, rfl⟩
  by_cases hlt : j < xs.length
  · have h3 := aroundI_lo xs[j] m h1
    have h4 := aroundI_hi xs[j] m h1
    rw [dif_pos hlt]
    exact ⟨(aroundI xs[j] m).toNat, by omega, ret_int (by omega), rfl⟩
  · rw [dif_neg hlt]
    exact ⟨0, by omega, rfl, rfl⟩
end Go.Proofs.Ytaonhmdifinadaa
