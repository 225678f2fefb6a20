/-
  What is written is read again: plain.
-/
import Derived.Test.YtaonhmdifinadaaWireC
namespace Go.Proofs.Ytaonhmdifinadaa
open Go Go.Proofs
open Go.RowKit
set_option linter.unusedVariables false
set_option linter.unusedSimpArgs false

/-! ### What is written is read again -/
theorem rdU_enc : ∀ (k m i n : Nat) (t : List UInt8), m ≤ k → i ≤ 9 → m * 128 ^ i < 18446744073709551616 → (0 < i → 0 < m) → rdU i n (encU m ++ t) = (n + m * 128 ^ i, ⟨t, 0⟩) := by
  intro k
  induction k with
  | zero =>
    intro m i n t hm hi hlt h0
    obtain rfl : m = 0 := by omega
    rw [encU_small (by omega)]
    obtain rfl : i = 0 := by omega
    rfl
  | succ k ih =>
    intro m i n t hm hi hlt h0
    by_cases h : m < 128
    · rw [encU_small h]
      have hc : (UInt8.ofNat m).toNat = m := by rw [UInt8.toNat_ofNat']; omega
      simp only [List.cons_append, List.nil_append, rdU, hc]
      have hbad : ¬ ((i = 9 ∧ 1 < m) ∨ (0 < i ∧ m = 0)) := by
        rintro (⟨h1, h2⟩ | ⟨h1, h2⟩)
        · subst h1; have := Nat.mul_le_mul_right (128 ^ 9) (show 2 ≤ m from h2); omega
        · have := h0 h1; omega
      rw [if_neg hbad, if_pos h]
    · rw [encU_big (by omega)]
      have hc : (UInt8.ofNat (m % 128 + 128)).toNat = m % 128 + 128 := by rw [UInt8.toNat_ofNat']; omega
      have hi9 : i ≠ 9 := by
        intro h1; subst h1; have := Nat.mul_le_mul_right (128 ^ 9) (show 2 ≤ m by omega); omega
      simp only [List.cons_append, rdU, hc]
      rw [if_neg (by omega), if_neg (by omega)]
      have hd : m / 128 * 128 + m % 128 = m := by omega
      have hmul : m / 128 * 128 ^ (i + 1) + m % 128 * 128 ^ i = m * 128 ^ i := by
        rw [Nat.pow_succ, Nat.mul_comm (128 ^ i) 128, ← Nat.mul_assoc, ← Nat.add_mul, hd]
      rw [ih (m / 128) (i + 1) _ t (by omega) (by omega) (by omega) (by omega)]
      rw [show m % 128 + 128 - 128 = m % 128 by omega]
      congr 1
      omega
theorem uintR_enc {m : Nat} (h : m < 18446744073709551616) (t : List UInt8) : uintR ⟨encU m ++ t, 0⟩ = (m, ⟨t, 0⟩) := by
  unfold uintR
  rw [if_pos rfl]
  have := rdU_enc m m 0 0 t (Nat.le_refl _) (by omega) (by omega) (by omega)
  simpa using this
theorem unz_zig {n : Int} : unzN (zigN n) = n := by
  unfold unzN zigN
  split <;> split <;> omega
theorem intR_enc {n : Int} (h1 : -9223372036854775808 ≤ n) (h2 : n ≤ 9223372036854775807) (t : List UInt8) : intR ⟨encI n ++ t, 0⟩ = (n, ⟨t, 0⟩) := by
  unfold intR encI
  rw [uintR_enc (zigN_lt h1 h2)]
  simp only [unz_zig]
theorem rawR_enc {bs : List UInt8} (h : bs.length < 18446744073709551616) (t : List UInt8) : rawR ⟨encR bs ++ t, 0⟩ = (bs, ⟨t, 0⟩) := by
  have hl : lenR ⟨encR bs ++ t, 0⟩ = (bs.length, ⟨bs ++ t, 0⟩) := by
    unfold lenR encR
    rw [List.append_assoc, uintR_enc h]
    simp only
    rw [if_neg (by simp)]
  unfold rawR
  rw [hl]
  simp
theorem manyR_enc : ∀ (l : List Int) (t : List UInt8), (∀ n ∈ l, -9223372036854775808 ≤ n ∧ n ≤ 9223372036854775807) → manyR l.length ⟨l.flatMap encI ++ t, 0⟩ = (l, ⟨t, 0⟩)
  | [], t, _ => rfl
  | n :: l, t, h => by
    have h1 := h n (by simp)
    simp only [List.length_cons, manyR, List.flatMap_cons, List.append_assoc]
    rw [if_pos trivial, intR_enc h1.1 h1.2]
    simp only
    rw [manyR_enc l t fun m hm => h m (by simp [hm])]
theorem encI_pos (n : Int) : 1 ≤ (encI n).length := by
  unfold encI
  by_cases h : zigN n < 128
  · rw [encU_small h]; simp
  · rw [encU_big (by omega)]; simp
theorem encIs_pos (l : List Int) : l.length ≤ (l.flatMap encI).length := by
  induction l with
  | nil => simp
  | cons n l ih => have := encI_pos n; simp only [List.flatMap_cons, List.length_append, List.length_cons]; omega
theorem intsR_enc {l : List Int} (hl : l.length < 18446744073709551616) (h : ∀ n ∈ l, -9223372036854775808 ≤ n ∧ n ≤ 9223372036854775807) (t : List UInt8) : intsR ⟨encIs l ++ t, 0⟩ = (l, ⟨t, 0⟩) := by
  have hlen : lenR ⟨encIs l ++ t, 0⟩ = (l.length, ⟨l.flatMap encI ++ t, 0⟩) := by
    unfold lenR encIs
    rw [List.append_assoc, uintR_enc hl]
    simp only
    rw [if_neg (by have := encIs_pos l; simp only [List.length_append]; omega)]
  unfold intsR
  rw [hlen]
  simp only
  rw [manyR_enc l t h]
  simp
end Go.Proofs.Ytaonhmdifinadaa
