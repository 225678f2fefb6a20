/-
  Contracts of the small functions of schemalensref01: Around, Short, Few, Ints, SameInts, SameBytes.
-/
import Derived.Test.YtpncjgcdiomloaaProg
import Derived.Test.YtpncjgcdiomloaaBase
namespace Go.Proofs.Ytpncjgcdiomloaa
open Go Go.Proofs
open Go.RowKit
set_option linter.unusedVariables false

def aroundI (n m : Int) : Int := if n < 0 then (-(n + 1)) % m else n % m
theorem aroundI_lo (n m : Int) (h : 1 ≤ m) : 0 ≤ aroundI n m := by
  unfold aroundI; split <;> exact Int.emod_nonneg _ (by omega)
theorem aroundI_hi (n m : Int) (h : 1 ≤ m) : aroundI n m < m := by
  unfold aroundI; split <;> exact Int.emod_lt_of_pos _ (by omega)

theorem around_any (n m : Int) (w : World) (h1 : 1 ≤ m) (h2 : m ≤ 9223372036854775807) (h3 : -9223372036854775808 ≤ n) (h4 : n ≤ 9223372036854775807) :
    Calls Try.prog 22 #[.int .i64 n, .int .i64 m] w fun e w' => e = .returned (.int .i64 (aroundI n m)) ∧ w = w' := by
  by_cases hn : n < 0
  · have hfin : aroundI n m = (-(n + 1)).tmod m := by
      unfold aroundI; rw [if_pos hn, Int.tmod_eq_emod_of_nonneg (by omega)]
    have HF := Lib.hid hfin
    clear hfin
    go_enter Try.func22, Try.ntmps22
    go_wp2
    go_ret
    exact ⟨ret_int (by rw [HF.out, Int.neg_tmod]), rfl⟩
  · have hfin : aroundI n m = n % m := by
      unfold aroundI; rw [if_neg hn]
    have HF := Lib.hid hfin
    clear hfin
    have hn' : 0 ≤ n := by omega
    clear hn
    go_enter Try.func22, Try.ntmps22
    go_wp2
    go_ret
    exact ⟨ret_int HF.out.symm, rfl⟩

theorem extract_all (s : ByteArray) (m : Nat) (h : s.size ≤ m) : s.extract 0 m = s := by
  ext1
  simp [ByteArray.data_extract]
  omega
theorem short_any (s : ByteArray) (m : Nat) (w : World) (hs : s.size ≤ 9223372036854775807) (hm : m ≤ 9223372036854775807) :
    Calls Try.prog 13 #[.string s, .int .i64 m] w fun e w' => e = .returned (.string (s.extract 0 m)) ∧ w = w' := by
  have hall := extract_all s m
  have H := Lib.hid hall
  clear hall
  go_enter Try.func13, Try.ntmps13
  go_wp2
  · go_ret
    exact ⟨rfl, rfl⟩
  · go_ret
    exact ⟨by rw [H.out (by omega)]; rfl, rfl⟩

theorem elemB : ElemT Try.prog 62 5 (.int .u8 0) 1 1 := ⟨Try.underlying62, info_parts (by kernel_rfl), rfl, by decide⟩
theorem elemI : ElemT Try.prog 23 3 (.int .i64 0) 1 8 := ⟨Try.underlying23, info_parts (by kernel_rfl), rfl, by decide⟩




end Go.Proofs.Ytpncjgcdiomloaa
