/-
  The plain arithmetic of the 64-bit hash: mixing is a bijection; the little-endian words of some bytes; sums that differ. No program in sight.
-/
import Derived.WalkKit
namespace Go.Proofs.Ytaonhmdifinadaa
open Go Go.Proofs

/-- One step of the hash. -/
def mixB (s w : BitVec 64) : BitVec 64 :=
  let m := (s ^^^ w) * 0x9E3779B97F4A7C15#64
  m ^^^ (m >>> 32)

theorem shift_inv (m : BitVec 64) : (m ^^^ (m >>> 32)) ^^^ ((m ^^^ (m >>> 32)) >>> 32) = m := by
  have h : (m >>> 32) >>> 32 = 0#64 := by
    rw [← BitVec.shiftRight_add]
    apply BitVec.eq_of_toNat_eq
    simp only [BitVec.toNat_ushiftRight]
    have := m.isLt
    simp only [BitVec.toNat_ofNat]
    rw [Nat.shiftRight_eq_div_pow]
    omega
  rw [BitVec.ushiftRight_xor_distrib, h]
  simp [BitVec.xor_assoc]

theorem shift_inj {a b : BitVec 64} (h : a ^^^ (a >>> 32) = b ^^^ (b >>> 32)) : a = b := by
  rw [← shift_inv a, ← shift_inv b, h]

theorem mul_inj {a b : BitVec 64} (h : a * 0x9E3779B97F4A7C15#64 = b * 0x9E3779B97F4A7C15#64) : a = b := by
  have e : (0x9E3779B97F4A7C15#64) * (0xF1DE83E19937733D#64) = 1#64 := by decide
  have : a * 0x9E3779B97F4A7C15#64 * 0xF1DE83E19937733D#64 = b * 0x9E3779B97F4A7C15#64 * 0xF1DE83E19937733D#64 := by rw [h]
  simpa [BitVec.mul_assoc, e] using this

theorem mixB_eq {s w s' w' : BitVec 64} : mixB s w = mixB s' w' ↔ s ^^^ w = s' ^^^ w' := by
  constructor
  · intro h; exact mul_inj (shift_inj h)
  · intro h; unfold mixB; rw [h]

theorem mixB_word {s w w' : BitVec 64} : mixB s w = mixB s w' ↔ w = w' := by
  rw [mixB_eq]; exact ⟨fun h => by simpa using h, fun h => by rw [h]⟩
theorem mixB_state {s s' w : BitVec 64} : mixB s w = mixB s' w ↔ s = s' := by
  rw [mixB_eq]; exact ⟨fun h => by simpa using h, fun h => by rw [h]⟩

/-- The same over Int: whatever comes is taken modulo 2^64. -/
def mixI (s w : Int) : Int := (mixB (BitVec.ofInt 64 s) (BitVec.ofInt 64 w)).toNat
theorem mixI_lo (s w : Int) : 0 ≤ mixI s w := by unfold mixI; omega
theorem mixI_hi (s w : Int) : mixI s w ≤ 18446744073709551615 := by
  unfold mixI
  have := (mixB (BitVec.ofInt 64 s) (BitVec.ofInt 64 w)).isLt
  omega
theorem ofInt_mod (n : Int) : BitVec.ofInt 64 (n % 18446744073709551616) = BitVec.ofInt 64 n := by
  apply BitVec.eq_of_toNat_eq
  simp only [BitVec.toNat_ofInt]
  omega
theorem ofInt_toNat (x : BitVec 64) : BitVec.ofInt 64 (x.toNat : Int) = x := by
  apply BitVec.eq_of_toNat_eq
  simp only [BitVec.toNat_ofInt]
  have := x.isLt
  omega
theorem ofInt_inj {a b : Int} (h : BitVec.ofInt 64 a = BitVec.ofInt 64 b) : a % 18446744073709551616 = b % 18446744073709551616 := by
  have := congrArg BitVec.toNat h
  simp only [BitVec.toNat_ofInt] at this
  omega
theorem ofInt_congr {a b : Int} (h : a % 18446744073709551616 = b % 18446744073709551616) : BitVec.ofInt 64 a = BitVec.ofInt 64 b := by
  rw [← ofInt_mod a, ← ofInt_mod b, h]
theorem mixI_mod (s n : Int) : mixI s (n % 18446744073709551616) = mixI s n := by unfold mixI; rw [ofInt_mod]
theorem mixI_wrap (s n : Int) : mixI s (IntKind.u64.wrap n) = mixI s n := by
  rw [show IntKind.u64.wrap n = n % 18446744073709551616 from by simp [IntKind.wrap, IntKind.bits, IntKind.signed]]
  exact mixI_mod s n
theorem toNat_inj {a b : BitVec 64} : (a.toNat : Int) = (b.toNat : Int) ↔ a = b := by
  constructor
  · intro h; exact BitVec.eq_of_toNat_eq (by omega)
  · intro h; rw [h]
/-- Another word, another state: a word counts modulo 2^64. -/
theorem mixI_word {s a b : Int} : mixI s a = mixI s b ↔ a % 18446744073709551616 = b % 18446744073709551616 := by
  unfold mixI
  rw [toNat_inj, mixB_word]
  exact ⟨ofInt_inj, ofInt_congr⟩
theorem mixI_state {s s' w : Int} (h1 : 0 ≤ s) (h2 : s ≤ 18446744073709551615) (h3 : 0 ≤ s') (h4 : s' ≤ 18446744073709551615) : mixI s w = mixI s' w ↔ s = s' := by
  unfold mixI
  rw [toNat_inj, mixB_state]
  constructor
  · intro h
    have := ofInt_inj h
    omega
  · intro h; rw [h]

theorem wrap_u64 (n : Int) : IntKind.u64.wrap n = n % 18446744073709551616 := by simp [IntKind.wrap, IntKind.bits, IntKind.signed]
theorem wrap_mul (x : BitVec 64) (c : Nat) : IntKind.u64.wrap ((x.toNat : Int) * (c : Int)) = ((x * BitVec.ofNat 64 c).toNat : Int) := by
  rw [wrap_u64, BitVec.toNat_mul, BitVec.toNat_ofNat, Nat.mul_mod_mod, ← Int.natCast_mul]
  exact (Int.natCast_emod _ _).symm
theorem xor_any (s w : Int) : bits BinOp.xor IntKind.u64 s w = ((BitVec.ofInt 64 s ^^^ BitVec.ofInt 64 w).toNat : Int) := by
  show IntKind.u64.wrap ((BitVec.ofInt 64 s ^^^ BitVec.ofInt 64 w).toNat : Int) = _
  have := (BitVec.ofInt 64 s ^^^ BitVec.ofInt 64 w).isLt
  rw [wrap_u64]
  omega
theorem half_any (m : BitVec 64) : bits BinOp.xor IntKind.u64 (m.toNat : Int) ((m.toNat : Int) / 4294967296) = ((m ^^^ (m >>> 32)).toNat : Int) := by
  have hml := m.isLt
  rw [u64_xor _ _ (by omega) (by omega) (by omega) (by omega), BitVec.toNat_xor, BitVec.toNat_ushiftRight, Nat.shiftRight_eq_div_pow]
  rw [show ((m.toNat : Int) / 4294967296).toNat = m.toNat / 2 ^ 32 from by omega, show ((m.toNat : Int)).toNat = m.toNat from by omega]
theorem mixI_gen (c : Nat) (s w : Int) :
    bits BinOp.xor IntKind.u64 (IntKind.u64.wrap (bits BinOp.xor IntKind.u64 s w * (c : Int)))
      (IntKind.u64.wrap (bits BinOp.xor IntKind.u64 s w * (c : Int)) / 4294967296) =
    ((((BitVec.ofInt 64 s ^^^ BitVec.ofInt 64 w) * BitVec.ofNat 64 c) ^^^ (((BitVec.ofInt 64 s ^^^ BitVec.ofInt 64 w) * BitVec.ofNat 64 c) >>> 32)).toNat : Int) := by
  rw [xor_any s w, wrap_mul, half_any]
/-- The walk's own spelling of one step. -/
theorem mixI_walk (s w : Int) :
    bits BinOp.xor IntKind.u64 (IntKind.u64.wrap (bits BinOp.xor IntKind.u64 s w * 11400714819323198485))
      (IntKind.u64.wrap (bits BinOp.xor IntKind.u64 s w * 11400714819323198485) / 4294967296) = mixI s w :=
  mixI_gen 11400714819323198485 s w

/-- The same where a division stands for the shift. -/
theorem mixI_walk' (s w : Int) :
    bits BinOp.xor IntKind.u64 (IntKind.u64.wrap (bits BinOp.xor IntKind.u64 s w * 11400714819323198485))
      (IntKind.u64.wrap ((IntKind.u64.wrap (bits BinOp.xor IntKind.u64 s w * 11400714819323198485)).tdiv 4294967296)) = mixI s w := by
  rw [← mixI_walk s w]
  generalize bits BinOp.xor IntKind.u64 s w * 11400714819323198485 = x
  congr 1
  rw [wrap_u64 x, wrap_u64, Int.tdiv_eq_ediv_of_nonneg (by omega)]
  omega

/-! ### The words of some bytes -/

/-- The little-endian number of some bytes. -/
def leN : List UInt8 → Nat
  | [] => 0
  | c :: cs => c.toNat + 256 * leN cs
theorem leN_lt (bs : List UInt8) : leN bs < 256 ^ bs.length := by
  induction bs with
  | nil => simp [leN]
  | cons c cs ih =>
    have hc := c.toNat_lt
    simp only [leN, List.length_cons, Nat.pow_succ]
    omega
theorem leN_snoc (bs : List UInt8) (c : UInt8) : leN (bs ++ [c]) = leN bs + c.toNat * 256 ^ bs.length := by
  induction bs with
  | nil => simp [leN]
  | cons d ds ih =>
    simp only [List.cons_append, leN, ih, List.length_cons, Nat.pow_succ, Nat.mul_add]
    rw [Nat.add_assoc, Nat.mul_comm (256 ^ ds.length) 256, Nat.mul_left_comm]
theorem leN_inj : ∀ {a b : List UInt8}, a.length = b.length → leN a = leN b → a = b
  | [], [], _, _ => rfl
  | c :: cs, d :: ds, hl, h => by
    have hc := c.toNat_lt
    have hd := d.toNat_lt
    simp only [leN] at h
    have h1 : c.toNat = d.toNat := by omega
    have h2 : leN cs = leN ds := by omega
    rw [UInt8.toNat_inj.1 h1, leN_inj (by simpa using hl) h2]
  | [], _ :: _, hl, _ => by simp at hl
  | _ :: _, [], hl, _ => by simp at hl
theorem leN_le8 (bs : List UInt8) (h : bs.length ≤ 8) : leN bs ≤ 18446744073709551615 := by
  have h1 := leN_lt bs
  have h2 : 256 ^ bs.length ≤ 256 ^ 8 := Nat.pow_le_pow_right (by omega) h
  omega

/-- The word at place j, and all words. -/
def wordN (bs : List UInt8) (j : Nat) : Nat := leN ((bs.drop (8 * j)).take 8)
def wordsN (bs : List UInt8) : List Nat := (List.range ((bs.length + 7) / 8)).map (wordN bs)
theorem wordN_le (bs : List UInt8) (j : Nat) : wordN bs j ≤ 18446744073709551615 := leN_le8 _ (by simp; omega)
theorem wordsN_length (bs : List UInt8) : (wordsN bs).length = (bs.length + 7) / 8 := by simp [wordsN]
theorem wordsN_take_succ (bs : List UInt8) {j : Nat} (h : 8 * j < bs.length) : (wordsN bs).take (j + 1) = (wordsN bs).take j ++ [wordN bs j] := by
  have hl := wordsN_length bs
  rw [List.take_succ_eq_append_getElem (by omega)]
  simp [wordsN]
theorem wordsN_take_all (bs : List UInt8) {j : Nat} (h : bs.length ≤ 8 * j) : (wordsN bs).take j = wordsN bs :=
  List.take_of_length_le (by rw [wordsN_length]; omega)
theorem wordsN_le (bs : List UInt8) : ∀ x ∈ wordsN bs, x ≤ 18446744073709551615 := by
  intro x hx
  obtain ⟨j, _, rfl⟩ := List.mem_map.1 hx
  exact wordN_le bs j

/-- One byte more, in the walk's spelling: from the low end. -/
theorem or_step (bs : List UInt8) (m : Nat) (h8 : m < 8) (h : m < bs.length) :
    bits BinOp.or IntKind.u64 (leN (bs.take m)) (IntKind.u64.wrap (IntKind.u64.wrap (bs[m].toNat : Int) * 2 ^ (8 * m))) = leN (bs.take (m + 1)) := by
  have hc := bs[m].toNat_lt
  have hlt := leN_lt (bs.take m)
  have hlen : (bs.take m).length = m := by simp; omega
  rw [hlen] at hlt
  have hw := wrap_u64
  rw [List.take_succ_eq_append_getElem h, leN_snoc, hlen, hw, hw]
  generalize leN (bs.take m) = a at *
  generalize bs[m].toNat = c at *
  have hp : (256 : Nat) ^ m = 2 ^ (8 * m) := by rw [show (256 : Nat) = 2 ^ 8 from rfl, ← Nat.pow_mul]
  have hle : (2 : Nat) ^ (8 * m) ≤ 2 ^ 56 := Nat.pow_le_pow_right (by omega) (by omega)
  rw [hp] at hlt ⊢
  generalize hP : (2 : Nat) ^ (8 * m) = p at *
  have hPi : (2 : Int) ^ (8 * m) = (p : Int) := by rw [← hP]; simp
  rw [hPi]
  have hcp : c * p ≤ 255 * 2 ^ 56 := Nat.mul_le_mul (by omega) hle
  have e1 : ((c : Int) % 18446744073709551616 * (p : Int)) % 18446744073709551616 = ((c * p : Nat) : Int) := by
    rw [show (c : Int) % 18446744073709551616 = (c : Int) from by omega, ← Int.natCast_mul]
    omega
  rw [e1, u64_or_nat _ _ (by omega) (by omega)]
  have : c * p ||| a = c * p + a := nat_join (8 * m) _ _ (by rw [hP]; exact Nat.mul_mod_left _ _) (by rw [hP]; omega)
  rw [Nat.or_comm, this, Nat.add_comm]

/-- One byte more, in the walk's spelling: from the high end. -/
theorem hi_step (bs : List UInt8) (m : Nat) (h8 : bs.length ≤ 8) (h : m < bs.length) :
    IntKind.u64.wrap (IntKind.u64.wrap (256 * (leN (bs.drop (m + 1)) : Int)) + IntKind.u64.wrap (bs[m].toNat : Int)) = leN (bs.drop m) := by
  have hc := bs[m].toNat_lt
  have hw := wrap_u64
  have hlt := leN_lt (bs.drop (m + 1))
  have hle : (256 : Nat) ^ (bs.drop (m + 1)).length ≤ 256 ^ 7 := Nat.pow_le_pow_right (by omega) (by simp; omega)
  rw [List.drop_eq_getElem_cons h, leN, hw, hw, hw]
  omega
end Go.Proofs.Ytaonhmdifinadaa
