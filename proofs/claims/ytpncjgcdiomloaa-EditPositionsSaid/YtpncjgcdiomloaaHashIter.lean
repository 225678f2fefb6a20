/-
  Contracts of package hash: mix, the iterators over words, Sum, Bytes, Pair.
-/
import Derived.Test.YtpncjgcdiomloaaProg
import Derived.Test.YtpncjgcdiomloaaBase
import Derived.Test.YtpncjgcdiomloaaMath
import Derived.Test.YtpncjgcdiomloaaRefA
import Derived.RangeFuncNested
import Derived.RangeFuncBound
import Derived.RangeFuncCalls
import Derived.RangeFuncLeaves
import Derived.Shelf.Abstract
import Derived.Shelf.RegionOpen
import Derived.TacticsInMore
import Derived.LoopNIn
import Derived.LoopIn
import Derived.Maps.AppendAt
namespace Go.Proofs.Ytpncjgcdiomloaa
open Go Go.Proofs
open Go.RowKit Go.Shelf
set_option linter.unusedVariables false

def foldW (s : Int) (l : List Nat) : Int := l.foldl (fun (s : Int) (x : Nat) => mixI s (x : Int)) s
def sumI (label : List UInt8) (l : List Int) : Int := mixI (l.foldl mixI (mixI (mixI (foldW 0 (wordsN label)) label.length) l.length)) 0
/-- A word as an int. -/
def wordI (x : Nat) : Int := wrap64 (x : Int)
def bytesI (label : List UInt8) (b : List UInt8) : Int := sumI label ((wordsN b).map wordI ++ [(b.length : Int)])
def pairL : List UInt8 := [112, 97, 105, 114]
def pairI (a b : Int) : Int := sumI pairL [wrap64 a, wrap64 b]

theorem foldW_snoc (s : Int) (l : List Nat) (x : Nat) : foldW s (l ++ [x]) = mixI (foldW s l) x := by simp [foldW]
theorem foldW_lo (l : List Nat) : 0 ≤ foldW 0 l := by
  cases List.eq_nil_or_concat l with
  | inl h => subst h; simp [foldW]
  | inr h => obtain ⟨l', x, rfl⟩ := h; rw [List.concat_eq_append, foldW_snoc]; exact mixI_lo _ _
theorem foldW_hi (l : List Nat) : foldW 0 l ≤ 18446744073709551615 := by
  cases List.eq_nil_or_concat l with
  | inl h => subst h; simp [foldW]
  | inr h => obtain ⟨l', x, rfl⟩ := h; rw [List.concat_eq_append, foldW_snoc]; exact mixI_hi _ _
theorem foldM_lo (s : Int) (l : List Int) (h : 0 ≤ s) : 0 ≤ l.foldl mixI s := by
  cases List.eq_nil_or_concat l with
  | inl h' => subst h'; simpa using h
  | inr h' => obtain ⟨l', x, rfl⟩ := h'; simp only [List.concat_eq_append, List.foldl_append, List.foldl_cons, List.foldl_nil]; exact mixI_lo _ _
theorem foldM_hi (s : Int) (l : List Int) (h : s ≤ 18446744073709551615) : l.foldl mixI s ≤ 18446744073709551615 := by
  cases List.eq_nil_or_concat l with
  | inl h' => subst h'; simpa using h
  | inr h' => obtain ⟨l', x, rfl⟩ := h'; simp only [List.concat_eq_append, List.foldl_append, List.foldl_cons, List.foldl_nil]; exact mixI_hi _ _
theorem foldM_take (s : Int) (l : List Int) {k : Nat} (h : k < l.length) : (l.take (k + 1)).foldl mixI s = mixI ((l.take k).foldl mixI s) l[k] := by
  rw [List.take_succ_eq_append_getElem h, List.foldl_append]; rfl

theorem mix_any (s x : Int) (w : World) :
    Calls Try.prog 69 #[.int .u64 s, .int .u64 x] w fun e w' => e = .returned (.int .u64 (mixI s x)) ∧ w = w' := by
  have hw := mixI_walk s x
  have HW := Lib.hid hw
  clear hw
  go_enter Try.func69, Try.ntmps69
  go_wp2
  go_ret
  exact ⟨ret_int HW.out, rfl⟩

/-! ### The words of a string, one after the other -/
section
attribute [local go_sem] Oper.semAt_some
theorem wordsS1_in (F : Fence) (n : Nat) (h6 : F.fn 72) (hro : F.round = none) (hn : 1 ≤ n) (l Bn n₀ : Nat) (s : ByteArray) (J Jx : List Nat → World → Prop)
    (hY : ∀ pre x W, J pre W → pre.length < (wordsN s.data.toList).length → YieldAt F (n - 1) Try.prog l #[u64V x] W fun e W' =>
      (e = .returned (.bool true) ∧ J (pre ++ [x]) W' ∧ KeepsBox n₀ Bn 9 (.string s) W W') ∨ (e = .returned (.bool false) ∧ Jx (pre ++ [x]) W'))
    (W : World) (hs : s.size ≤ 140737488351232) (hBn : Boxed W Bn 9 (.string s)) (h0 : J [] W) :
    CallsIn F n Try.prog 72 #[.func (.yield l) #[] #[], .pointer (some ⟨Bn, 0, none⟩)] W fun e W' => (∃ v, e = .returned v) ∧
      ((∃ ys, ys = wordsN s.data.toList ∧ J ys W') ∨ (∃ pre, pre <+: wordsN s.data.toList ∧ Jx pre W')) := by
  refine callsIn_of_wp Try.func72 rfl h6 ?_ hro
  simp only [Try.ntmps72, List.size_toArray, List.length_cons, List.length_nil, Nat.reduceAdd, Nat.reduceSub, Array.replicate_succ, Array.replicate_zero, List.push_toArray, List.append_toArray, List.nil_append, List.cons_append]
  have hbn := hBn.cell
  gi_wp2
  gi_loopw [3, 4, 5] (fun i u k wr => ∃ j : Nat, 8 * j ≤ s.size + 7 ∧ i = .int .i64 (8 * (j : Int)) ∧ Boxed wr Bn 9 (.string s) ∧ J ((wordsN s.data.toList).take j) wr)
    (fun i _ _ wr => s.size + 8 - (intOf i).toNat)
  case atStart =>
    exact ⟨0, by omega, rfl, hBn, h0⟩
  case round =>
    obtain ⟨j, hj, rfl, hbx, hJs⟩ := hrel
    have hb := hbx.cell
    have hsz : s.data.toList.length ≤ s.size := Nat.le_refl _
    have hsz' : s.size ≤ s.data.toList.length := Nat.le_refl _
    have hwl := wordsN_length s.data.toList
    have HWL := Lib.hid hwl
    clear hwl
    by_cases hlt8 : 8 * j < s.size
    · have hd : decide (8 * (j : Int) < (s.size : Int)) = true := by simp; omega
      gi_wp2
      obtain ⟨wo, rfl⟩ : ∃ wo : World, wo = wr := ⟨_, rfl⟩
      gi_loopw [4, 5] (fun u k wr => ∃ m : Nat, m ≤ 8 ∧ 8 * j + m ≤ s.size ∧ k = .int .i64 (8 * (j : Int) + (m : Int)) ∧ u = u64V (leN ((s.data.toList.drop (8 * j)).take m)) ∧ wr = wo)
        (fun _ k wr => s.size + 8 - (intOf k).toNat)
      case atStart => exact ⟨0, by omega, by omega, by simp, rfl, rfl⟩
      case round =>
        obtain ⟨m, hm, hm2, rfl, rfl, rfl⟩ := hrel
        have hbnd := leN_le8 ((s.data.toList.drop (8 * j)).take m) (by simp; omega)
        by_cases hlt2 : m < 8 ∧ 8 * j + m < s.size
        · obtain ⟨hm8, hlt3⟩ := hlt2
          have hstep := or_step (s.data.toList.drop (8 * j)) m hm8 (by simp; omega)
          rw [List.getElem_drop] at hstep
          have HS := Lib.hid hstep
          clear hstep
          unfold u64V
          gi_wp2
          all_goals
            go_roundw
            case rel => exact ⟨m + 1, by omega, by omega, by go_num, (by rw [← HS.out]; try rfl), by first | rfl | trivial⟩
            case measure => simp [intOf]; omega
        · have hword : leN ((s.data.toList.drop (8 * j)).take m) = wordN s.data.toList j := by
            unfold wordN
            by_cases h8 : m = 8
            · rw [h8]
            · rw [List.take_of_length_le (by simp; omega), List.take_of_length_le (by simp; omega)]
          rw [hword]
          have hpre : ((wordsN s.data.toList).take j).length = j := by rw [List.length_take, HWL.out]; omega
          obtain ⟨fn, tmps, assign, body, hy, hR⟩ := hY ((wordsN s.data.toList).take j) (wordN s.data.toList j) wr hJs (by rw [hpre, HWL.out]; omega)
          have hsucc := wordsN_take_succ s.data.toList (j := j) (by omega)
          have HSU := Lib.hid hsucc
          clear hsucc hword hpre
          have hmx : s.size - 8 * j ≤ 8 → m = s.size - 8 * j := by omega
          have hmx2 : 8 ≤ s.size - 8 * j → m = 8 := by omega
          unfold u64V at hy ⊢
          by_cases hc : s.size ≤ 8 * j + 8
          · obtain rfl : m = s.size - 8 * j := by omega
            clear hmx hmx2
            gi_wp2
            all_goals
              refine hR.mono ?_
              rintro e W3 (⟨rfl, hJ3, hk3⟩ | ⟨rfl, hJx3⟩)
              · have hx3 := hk3.2 hbx
                have hb3 := hx3.cell
                gi_wp2
                go_roundw
                case rel => exact ⟨j + 1, by omega, by go_num, hx3, by rw [HSU.out]; exact hJ3⟩
                case measure => simp [intOf]; omega
              · gi_wp2
                refine bodyPost_ret (results_none rfl _ _ _) rfl ?_
                exact ⟨⟨_, rfl⟩, .inr ⟨_, by rw [← HSU.out]; exact List.take_prefix _ _, hJx3⟩⟩
          · obtain rfl : m = 8 := by omega
            clear hmx hmx2
            gi_wp2
            all_goals
              refine hR.mono ?_
              rintro e W3 (⟨rfl, hJ3, hk3⟩ | ⟨rfl, hJx3⟩)
              · have hx3 := hk3.2 hbx
                have hb3 := hx3.cell
                gi_wp2
                go_roundw
                case rel => exact ⟨j + 1, by omega, by go_num, hx3, by rw [HSU.out]; exact hJ3⟩
                case measure => simp [intOf]; omega
              · gi_wp2
                refine bodyPost_ret (results_none rfl _ _ _) rfl ?_
                exact ⟨⟨_, rfl⟩, .inr ⟨_, by rw [← HSU.out]; exact List.take_prefix _ _, hJx3⟩⟩
    · gi_wp2
      go_end0
      exact ⟨⟨_, rfl⟩, .inl ⟨_, rfl, by rwa [wordsN_take_all _ (by omega)] at hJs⟩⟩
theorem wordsB1_in (F : Fence) (n : Nat) (h6 : F.fn 67) (hro : F.round = none) (hn : 1 ≤ n) (l Bn n₀ : Nat) (sa : Option Addr) (sc : Nat) (s : List UInt8) (J Jx : List Nat → World → Prop)
    (hY : ∀ pre x W, J pre W → pre.length < (wordsN s).length → YieldAt F (n - 1) Try.prog l #[u64V x] W fun e W' =>
      (e = .returned (.bool true) ∧ J (pre ++ [x]) W' ∧ KeepsBox n₀ Bn 62 (.slice sa s.length sc) W W') ∨ (e = .returned (.bool false) ∧ Jx (pre ++ [x]) W'))
    (W : World) (hs : s.length ≤ 140737488351232) (hBn : Boxed W Bn 62 (.slice sa s.length sc)) (hsl : SliceAt W sa sc (s.map byteV)) (hold : 0 < (s.map byteV).length → ∀ b off, sa = some ⟨b, off, none⟩ → b < n₀) (h0 : J [] W) :
    CallsIn F n Try.prog 67 #[.func (.yield l) #[] #[], .pointer (some ⟨Bn, 0, none⟩)] W fun e W' => (∃ v, e = .returned v) ∧
      ((∃ ys, ys = wordsN s ∧ J ys W') ∨ (∃ pre, pre <+: wordsN s ∧ Jx pre W')) := by
  refine callsIn_of_wp Try.func67 rfl h6 ?_ hro
  simp only [Try.ntmps67, List.size_toArray, List.length_cons, List.length_nil, Nat.reduceAdd, Nat.reduceSub, Array.replicate_succ, Array.replicate_zero, List.push_toArray, List.append_toArray, List.nil_append, List.cons_append]
  have hbn := hBn.cell
  gi_wp2
  gi_loopw [3, 4, 5] (fun i u k wr => ∃ j : Nat, 8 * j ≤ s.length + 7 ∧ i = .int .i64 (8 * (j : Int)) ∧ Boxed wr Bn 62 (.slice sa s.length sc) ∧ SliceAt wr sa sc (s.map byteV) ∧ J ((wordsN s).take j) wr)
    (fun i _ _ wr => s.length + 8 - (intOf i).toNat)
  case atStart =>
    exact ⟨0, by omega, rfl, hBn, hsl, h0⟩
  case round =>
    obtain ⟨j, hj, rfl, hbx, hsr, hJs⟩ := hrel
    have hb := hbx.cell
    have hcap := hsr.max
    have hle := hsr.le
    simp only [List.length_map] at hle
    have hwl := wordsN_length s
    have HWL := Lib.hid hwl
    clear hwl
    by_cases hlt8 : 8 * j < s.length
    · have hd : decide (8 * (j : Int) < (s.length : Int)) = true := by simp; omega
      gi_wp2
      obtain ⟨wo, rfl⟩ : ∃ wo : World, wo = wr := ⟨_, rfl⟩
      gi_loopw [4, 5] (fun u k wr => ∃ m : Nat, m ≤ 8 ∧ 8 * j + m ≤ s.length ∧ k = .int .i64 (8 * (j : Int) + (m : Int)) ∧ u = u64V (leN ((s.drop (8 * j)).take m)) ∧ wr = wo)
        (fun _ k wr => s.length + 8 - (intOf k).toNat)
      case atStart => exact ⟨0, by omega, by omega, by simp, rfl, rfl⟩
      case round =>
        obtain ⟨m, hm, hm2, rfl, rfl, rfl⟩ := hrel
        have hbnd := leN_le8 ((s.drop (8 * j)).take m) (by simp; omega)
        by_cases hlt2 : m < 8 ∧ 8 * j + m < s.length
        · obtain ⟨hm8, hlt3⟩ := hlt2
          have hstep := or_step (s.drop (8 * j)) m hm8 (by simp; omega)
          rw [List.getElem_drop] at hstep
          obtain ⟨sb, so, rfl⟩ := hsr.addr (by rw [List.length_map]; omega)
          have hcl := hsr.byteV hlt3
          have HS := Lib.hid hstep
          clear hstep
          unfold u64V
          gi_wp2
          all_goals
            go_roundw
            case rel => exact ⟨m + 1, by omega, by omega, by go_num, (by rw [← HS.out]; try rfl), by first | rfl | trivial⟩
            case measure => simp [intOf]; omega
        · have hword : leN ((s.drop (8 * j)).take m) = wordN s j := by
            unfold wordN
            by_cases h8 : m = 8
            · rw [h8]
            · rw [List.take_of_length_le (by simp; omega), List.take_of_length_le (by simp; omega)]
          rw [hword]
          have hpre : ((wordsN s).take j).length = j := by rw [List.length_take, HWL.out]; omega
          obtain ⟨fn, tmps, assign, body, hy, hR⟩ := hY ((wordsN s).take j) (wordN s j) wr hJs (by rw [hpre, HWL.out]; omega)
          have hsucc := wordsN_take_succ s (j := j) (by omega)
          have HSU := Lib.hid hsucc
          clear hsucc hword hpre
          have hmx : s.length - 8 * j ≤ 8 → m = s.length - 8 * j := by omega
          have hmx2 : 8 ≤ s.length - 8 * j → m = 8 := by omega
          unfold u64V at hy ⊢
          by_cases hc : s.length ≤ 8 * j + 8
          · obtain rfl : m = s.length - 8 * j := by omega
            clear hmx hmx2
            gi_wp2
            all_goals
              refine hR.mono ?_
              rintro e W3 (⟨rfl, hJ3, hk3⟩ | ⟨rfl, hJx3⟩)
              · have hx3 := hk3.2 hbx
                have hb3 := hx3.cell
                have hs3 : SliceAt W3 sa sc (s.map byteV) := hsr.keep hk3.1 hold
                gi_wp2
                go_roundw
                case rel => exact ⟨j + 1, by omega, by go_num, hx3, hs3, by rw [HSU.out]; exact hJ3⟩
                case measure => simp [intOf]; omega
              · gi_wp2
                refine bodyPost_ret (results_none rfl _ _ _) rfl ?_
                exact ⟨⟨_, rfl⟩, .inr ⟨_, by rw [← HSU.out]; exact List.take_prefix _ _, hJx3⟩⟩
          · obtain rfl : m = 8 := by omega
            clear hmx hmx2
            gi_wp2
            all_goals
              refine hR.mono ?_
              rintro e W3 (⟨rfl, hJ3, hk3⟩ | ⟨rfl, hJx3⟩)
              · have hx3 := hk3.2 hbx
                have hb3 := hx3.cell
                have hs3 : SliceAt W3 sa sc (s.map byteV) := hsr.keep hk3.1 hold
                gi_wp2
                go_roundw
                case rel => exact ⟨j + 1, by omega, by go_num, hx3, hs3, by rw [HSU.out]; exact hJ3⟩
                case measure => simp [intOf]; omega
              · gi_wp2
                refine bodyPost_ret (results_none rfl _ _ _) rfl ?_
                exact ⟨⟨_, rfl⟩, .inr ⟨_, by rw [← HSU.out]; exact List.take_prefix _ _, hJx3⟩⟩
    · gi_wp2
      go_end0
      exact ⟨⟨_, rfl⟩, .inl ⟨_, rfl, by rwa [wordsN_take_all _ (by omega)] at hJs⟩⟩
end

theorem wordsS_any (s : ByteArray) (w : World) :
    Calls Try.prog 68 #[.string s] w fun e w' => e = .returned (.func (.func 72) #[] #[.pointer (some ⟨w.heap.size, 0, none⟩)]) ∧ w.alloc (.cells #[.string s] 9) = w' := by
  go_enter Try.func68, Try.ntmps68
  go_wp2
  go_ret
  exact ⟨rfl, rfl⟩
theorem wordsB_any (a : Option Addr) (l c : Nat) (w : World) :
    Calls Try.prog 56 #[.slice a l c] w fun e w' => e = .returned (.func (.func 67) #[] #[.pointer (some ⟨w.heap.size, 0, none⟩)]) ∧ w.alloc (.cells #[.slice a l c] 62) = w' := by
  go_enter Try.func56, Try.ntmps56
  go_wp2
  go_ret
  exact ⟨rfl, rfl⟩
end Go.Proofs.Ytpncjgcdiomloaa
