/-
  Numbers and lists as bytes. No program in sight.
-/
import Derived.WalkKit
import Derived.Test.YtaonhmdifinadaaMath
namespace Go.Proofs.Ytaonhmdifinadaa
open Go Go.Proofs

/-- The varint of a number. -/
def encU (n : Nat) : List UInt8 := if n < 128 then [UInt8.ofNat n] else UInt8.ofNat (n % 128 + 128) :: encU (n / 128)
termination_by n
decreasing_by omega
theorem encU_small {n : Nat} (h : n < 128) : encU n = [UInt8.ofNat n] := by rw [encU, if_pos h]
theorem encU_big {n : Nat} (h : 128 ≤ n) : encU n = UInt8.ofNat (n % 128 + 128) :: encU (n / 128) := by rw [encU, if_neg (by omega)]
theorem encU_len : ∀ (k n : Nat), n < 128 ^ (k + 1) → (encU n).length ≤ k + 1
  | 0, n, h => by rw [encU_small (by simpa using h)]; simp
  | k + 1, n, h => by
    by_cases hn : n < 128
    · rw [encU_small hn]; simp
    · rw [encU_big (by omega)]
      have : n / 128 < 128 ^ (k + 1) := by
        rw [Nat.pow_succ] at h
        exact Nat.div_lt_of_lt_mul (by rw [Nat.mul_comm]; exact h)
      have := encU_len k (n / 128) this
      simp
      omega
theorem encU_len10 {n : Nat} (h : n < 18446744073709551616) : (encU n).length ≤ 10 := encU_len 9 n (by omega)
/-- The zigzag form. -/
def zigN (n : Int) : Nat := if n < 0 then (-2 * n - 1).toNat else (2 * n).toNat
def encI (n : Int) : List UInt8 := encU (zigN n)
theorem zigN_lt {n : Int} (h1 : -9223372036854775808 ≤ n) (h2 : n ≤ 9223372036854775807) : zigN n < 18446744073709551616 := by
  unfold zigN; split <;> omega
def boolN (x : Bool) : Nat := if x then 1 else 0
def encR (bs : List UInt8) : List UInt8 := encU bs.length ++ bs
def encIs (l : List Int) : List UInt8 := encU l.length ++ l.flatMap encI
/-- The walk's own spelling of zigzag. -/
theorem zig_walk (n : Int) (h1 : -9223372036854775808 ≤ n) (h2 : n ≤ 9223372036854775807) :
    bits BinOp.xor IntKind.u64 (IntKind.u64.wrap (IntKind.u64.wrap n * 2)) (IntKind.u64.wrap (n / 9223372036854775808)) = (zigN n : Int) := by
  rw [xor_any]
  unfold zigN
  simp only [wrap_u64]
  by_cases h : n < 0
  · rw [if_pos h, show n / 9223372036854775808 = -1 from by omega]
    rw [show BitVec.ofInt 64 ((-1) % 18446744073709551616) = BitVec.allOnes 64 from by decide, BitVec.xor_allOnes, BitVec.toNat_not, BitVec.toNat_ofInt]
    omega
  · rw [if_neg h, show n / 9223372036854775808 = 0 from by omega]
    rw [show BitVec.ofInt 64 (0 % 18446744073709551616) = 0#64 from by decide, BitVec.xor_zero, BitVec.toNat_ofInt]
    omega
end Go.Proofs.Ytaonhmdifinadaa
