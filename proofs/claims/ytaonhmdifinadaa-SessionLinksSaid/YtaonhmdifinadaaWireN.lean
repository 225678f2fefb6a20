/-
  Reading bytes, as plain functions. No program in sight.
-/
import Derived.Test.YtaonhmdifinadaaWireM
namespace Go.Proofs.Ytaonhmdifinadaa
open Go Go.Proofs
set_option linter.unusedVariables false

/-- A reader: the bytes that are left, and the first error (0: none). -/
structure RdS where
  bs : List UInt8
  e : Nat
def failR (R : RdS) (e : Nat) : RdS := if R.e = 0 then { R with e := e } else R
def nextR (R : RdS) : UInt8 × RdS := if R.e ≠ 0 then (0, R) else match R.bs with
  | [] => (0, ⟨[], 3⟩)
  | c :: cs => (c, ⟨cs, 0⟩)
def rdU : Nat → Nat → List UInt8 → Nat × RdS
  | _, _, [] => (0, ⟨[], 3⟩)
  | i, n, c :: cs => if (i = 9 ∧ 1 < c.toNat) ∨ (0 < i ∧ c.toNat = 0) then (0, ⟨cs, 2⟩)
    else if c.toNat < 128 then (n + c.toNat * 128 ^ i, ⟨cs, 0⟩) else rdU (i + 1) (n + (c.toNat - 128) * 128 ^ i) cs
def uintR (R : RdS) : Nat × RdS := if R.e = 0 then rdU 0 0 R.bs else (0, R)
/-- The number of a zigzag form. -/
def unzN (z : Nat) : Int := if z % 2 = 1 then -((z / 2 : Nat) : Int) - 1 else ((z / 2 : Nat) : Int)
def intR (R : RdS) : Int × RdS := (unzN (uintR R).1, (uintR R).2)
def boolR (R : RdS) : Bool × RdS := (decide ((nextR R).1.toNat = 1), if 1 < (nextR R).1.toNat then failR (nextR R).2 2 else (nextR R).2)
/-- The length of a list: what is left when it has been read. -/
def lenR (R : RdS) : Nat × RdS := ((uintR R).1, if (uintR R).2.bs.length < (uintR R).1 then failR (uintR R).2 3 else (uintR R).2)
def rawR (R : RdS) : List UInt8 × RdS := if (lenR R).2.e = 0 then ((lenR R).2.bs.take (lenR R).1, ⟨(lenR R).2.bs.drop (lenR R).1, 0⟩) else ([], (lenR R).2)
/-- n numbers, as long as there is no error: what was read, and what is left. -/
def manyR : Nat → RdS → List Int × RdS
  | 0, R => ([], R)
  | n + 1, R => if R.e = 0 then (((intR R).1 :: (manyR n (intR R).2).1), (manyR n (intR R).2).2) else ([], R)
def intsR (R : RdS) : List Int × RdS := (if (manyR (lenR R).1 (lenR R).2).2.e = 0 then (manyR (lenR R).1 (lenR R).2).1 else [], (manyR (lenR R).1 (lenR R).2).2)
def endR (R : RdS) : Nat := if R.e = 0 ∧ 0 < R.bs.length then 2 else R.e

theorem rdU_bound : ∀ (cs : List UInt8) (i n : Nat), i ≤ 9 → n < 128 ^ i → (rdU i n cs).1 < 18446744073709551616
  | [], _, _, _, _ => by simp [rdU]
  | c :: cs, i, n, hi, hn => by
    unfold rdU
    split
    · simp
    · rename_i hc
      have hp : 128 ^ i * 2 ≤ 18446744073709551616 := by
        have : (128 : Nat) ^ i ≤ 128 ^ 9 := Nat.pow_le_pow_right (by omega) hi
        omega
      split
      · rename_i h
        simp only
        by_cases h9 : i = 9
        · subst h9
          have : c.toNat ≤ 1 := by omega
          have : c.toNat * 128 ^ 9 ≤ 1 * 128 ^ 9 := Nat.mul_le_mul_right _ this
          omega
        · have h8 : (128 : Nat) ^ (i + 1) ≤ 128 ^ 9 := Nat.pow_le_pow_right (by omega) (by omega)
          rw [Nat.pow_succ] at h8
          have : c.toNat * 128 ^ i ≤ 127 * 128 ^ i := Nat.mul_le_mul_right _ (by omega)
          omega
      · rename_i h
        have h9 : i ≠ 9 := by omega
        refine rdU_bound cs (i + 1) _ (by omega) ?_
        have hc := c.toNat_lt
        have : (c.toNat - 128) * 128 ^ i ≤ 127 * 128 ^ i := Nat.mul_le_mul_right _ (by omega)
        rw [Nat.pow_succ]
        omega
theorem uintR_lt (R : RdS) : (uintR R).1 < 18446744073709551616 := by
  unfold uintR
  split
  · exact rdU_bound _ _ _ (by omega) (by omega)
  · simp
theorem unzN_bound {z : Nat} (h : z < 18446744073709551616) : -9223372036854775808 ≤ unzN z ∧ unzN z ≤ 9223372036854775807 := by
  unfold unzN; split <;> omega
theorem rdU_len : ∀ (cs : List UInt8) (i n : Nat), (rdU i n cs).2.bs.length ≤ cs.length
  | [], _, _ => by simp [rdU]
  | c :: cs, i, n => by
    unfold rdU
    split
    · simp
    · split
      · simp
      · have := rdU_len cs (i + 1) (n + (c.toNat - 128) * 128 ^ i)
        simp
        omega
theorem uintR_len (R : RdS) : (uintR R).2.bs.length ≤ R.bs.length := by
  unfold uintR
  split
  · exact rdU_len _ _ _
  · exact Nat.le_refl _
theorem failR_bs (R : RdS) (e : Nat) : (failR R e).bs = R.bs := by unfold failR; split <;> rfl
/-- One byte more, in the walk's spelling. -/
theorem or_more {n i c : Nat} (hn : n < 128 ^ i) (hi : i ≤ 9) (hc : c < 128) (h9 : i = 9 → c ≤ 1) :
    bits BinOp.or IntKind.u64 (n : Int) (IntKind.u64.wrap ((c : Int) * 2 ^ (7 * i))) = ((n + c * 128 ^ i : Nat) : Int) := by
  have hp : (2 : Nat) ^ (7 * i) = 128 ^ i := by rw [show (128 : Nat) = 2 ^ 7 from rfl, ← Nat.pow_mul]
  have hpi : ((2 : Int) ^ (7 * i)) = ((128 ^ i : Nat) : Int) := by rw [← hp]; simp
  have h9' : (128 : Nat) ^ i ≤ 128 ^ 9 := Nat.pow_le_pow_right (by omega) hi
  have hlt : c * 128 ^ i < 18446744073709551616 := by
    by_cases h : i = 9
    · subst h
      have : c * 128 ^ 9 ≤ 1 * 128 ^ 9 := Nat.mul_le_mul_right _ (h9 rfl)
      omega
    · have h8 : (128 : Nat) ^ (i + 1) ≤ 128 ^ 9 := Nat.pow_le_pow_right (by omega) (by omega)
      rw [Nat.pow_succ] at h8
      have : c * 128 ^ i ≤ 127 * 128 ^ i := Nat.mul_le_mul_right _ (by omega)
      omega
  rw [hpi, ← Int.natCast_mul, wrap_u64, show ((c * 128 ^ i : Nat) : Int) % 18446744073709551616 = ((c * 128 ^ i : Nat) : Int) from by omega]
  have hn2 : n < 18446744073709551616 := by omega
  rw [u64_or_nat _ _ hn2 hlt]
  congr 1
  have := nat_join (7 * i) (c * 128 ^ i) n (by rw [hp]; exact Nat.mul_mod_left _ _) (by rw [hp]; exact hn)
  rw [Nat.or_comm, this, Nat.add_comm]
end Go.Proofs.Ytaonhmdifinadaa
