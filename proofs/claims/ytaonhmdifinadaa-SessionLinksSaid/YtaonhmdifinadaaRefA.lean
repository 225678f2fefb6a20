/-
  Contracts of the small functions of schemalensref01: Around, Short, Few, Ints, SameInts, SameBytes.
-/
import Derived.Test.YtaonhmdifinadaaProg
import Derived.Test.YtaonhmdifinadaaBase
namespace Go.Proofs.Ytaonhmdifinadaa
open Go Go.Proofs
open Go.RowKit
set_option linter.unusedVariables false

def aroundI (n m : Int) : Int := if n < 0 then (-(n + 1)) % m else n % m
theorem aroundI_lo (n m : Int) (h : 1 ≤ m) : 0 ≤ aroundI n m := by
  unfold aroundI; split <;> exact Int.emod_nonneg _ (by omega)
theorem aroundI_hi (n m : Int) (h : 1 ≤ m) : aroundI n m < m := by
  unfold aroundI; split <;> exact Int.emod_lt_of_pos _ (by omega)

theorem around_any (n m : Int) (w : World) (h1 : 1 ≤ m) (h2 : m ≤ 9223372036854775807) (h3 : -9223372036854775808 ≤ n) (h4 : n ≤ 9223372036854775807) :
    Calls Try.prog 35 #[.int .i64 n, .int .i64 m] w fun e w' => e = .returned (.int .i64 (aroundI n m)) ∧ w = w' := by
  by_cases hn : n < 0
  · have hfin : aroundI n m = (-(n + 1)).tmod m := by
      unfold aroundI; rw [if_pos hn, Int.tmod_eq_emod_of_nonneg (by omega)]
    have HF := Lib.hid hfin
    clear hfin
    go_enter Try.func35, Try.ntmps35
    go_wp2
    go_ret
    exact ⟨ret_int (by rw [HF.out, Int.neg_tmod]), rfl⟩
  · have hfin : aroundI n m = n % m := by
      unfold aroundI; rw [if_neg hn]
    have HF := Lib.hid hfin
    clear hfin
    have hn' : 0 ≤ n := by omega
    clear hn
    go_enter Try.func35, Try.ntmps35
    go_wp2
    go_ret
    exact ⟨ret_int HF.out.symm, rfl⟩

theorem extract_all (s : ByteArray) (m : Nat) (h : s.size ≤ m) : s.extract 0 m = s := by
  ext1
  simp [ByteArray.data_extract]
  omega
theorem short_any (s : ByteArray) (m : Nat) (w : World) (hs : s.size ≤ 9223372036854775807) (hm : m ≤ 9223372036854775807) :
    Calls Try.prog 34 #[.string s, .int .i64 m] w fun e w' => e = .returned (.string (s.extract 0 m)) ∧ w = w' := by
  have hall := extract_all s m
  have H := Lib.hid hall
  clear hall
  go_enter Try.func34, Try.ntmps34
  go_wp2
  · go_ret
    exact ⟨rfl, rfl⟩
  · go_ret
    exact ⟨by rw [H.out (by omega)]; rfl, rfl⟩

theorem elemB : ElemT Try.prog 78 5 (.int .u8 0) 1 1 := ⟨Try.underlying78, info_parts (by kernel_rfl), rfl, by decide⟩
theorem elemI : ElemT Try.prog 22 3 (.int .i64 0) 1 8 := ⟨Try.underlying22, info_parts (by kernel_rfl), rfl, by decide⟩

theorem few_any (a : Option Addr) (c : Nat) (xs : List UInt8) (m : Nat) (w : World)
   (hx : SliceAt w a c (xs.map byteV)) (hm : m ≤ 140737488351232) :
    Calls Try.prog 50 #[.slice a xs.length c, .int .i64 m] w fun e w' => ∃ v, e = .returned v ∧ w'.ownsRow w.heap.size 5 1 v (xs.take m).length ((xs.take m).map byteV) ∧ Below w.heap.size w w' := by
  have h3 := hx.len
  have h4 := hx.le
  have h5 := hx.max
  simp only [List.length_map] at h3 h4
  have hr := hx.takeMap m
  by_cases hlt : m < xs.length
  · have e1 : (xs.take m).length = m := by simp; omega
    rw [e1] at hr ⊢
    go_enter Try.func50, Try.ntmps50
    go_wp2_with (at_builtin; refine wpList_append_src _ rfl _ _ 78 rfl elemB w.heap.size _ 0 [] rfl (World.ownsRow_nil _ _ _ _) a m c _ rfl hr (oneCell_map (fun _ => rfl) _) (by omega) (by omega) (Nat.le_refl _) ?_)
    intro v' w' h1 h2 _
    go_wp2
    go_ret
    exact ⟨_, rfl, by simpa using h1, h2⟩
  · have e1 : xs.take m = xs := List.take_of_length_le (by omega)
    rw [e1] at hr ⊢
    go_enter Try.func50, Try.ntmps50
    go_wp2_with (at_builtin; refine wpList_append_src _ rfl _ _ 78 rfl elemB w.heap.size _ 0 [] rfl (World.ownsRow_nil _ _ _ _) a xs.length c _ rfl hr (oneCell_map (fun _ => rfl) _) (by omega) (by omega) (Nat.le_refl _) ?_)
    intro v' w' h1 h2 _
    go_wp2
    go_ret
    exact ⟨_, rfl, by simpa using h1, h2⟩


theorem sameInts_any (a a' : Option Addr) (c c' : Nat) (xs ys : List Int) (w : World)
   (hx : SliceAt w a c (xs.map intV)) (hy : SliceAt w a' c' (ys.map intV)) :
    Calls Try.prog 31 #[.slice a xs.length c, .slice a' ys.length c'] w fun e w' => e = .returned (.bool (decide (xs = ys))) ∧ Below w.heap.size w w' := by
  have h3 := hx.len
  have h4 := hy.len
  simp only [List.length_map] at h3 h4
  by_cases hl : ys.length = xs.length
  · have HL : Hid (ys.length = xs.length) := hl
    rw [hl] at h4 ⊢
    clear hl
    go_enter Try.func31, Try.ntmps31
    go_wp2
    go_loopw [5] (fun i wr => ∃ k : Nat, k ≤ xs.length ∧ i = .int .i64 k ∧ Below w.heap.size w wr ∧ Hid (xs.take k = ys.take k)) (fun i _ => xs.length - (intOf i).toNat)
    case atStart => exact ⟨0, by omega, rfl, Below.refl _ _, rfl⟩
    case round =>
      obtain ⟨k, hk, rfl, hb, hpre⟩ := hrel
      by_cases hkn : k < xs.length
      · have hkn' : k < ys.length := by rw [HL.out]; exact hkn
        obtain ⟨b, off, rfl⟩ := hx.addr (by simp; omega)
        obtain ⟨b', off', rfl⟩ := hy.addr (by simp; omega)
        have f1 := (hx.below hb).intV hkn
        have f2 := (hy.below hb).intV hkn'
        by_cases heq : xs[k] = ys[k]
        · have hne : (xs[k] != ys[k]) = false := by simp [heq]
          have HE : Hid (xs[k] = ys[k]) := heq
          clear heq
          go_wp2
          go_quiet (fail)
          go_wp2
          go_roundw
          case rel => exact ⟨k + 1, by omega, by go_num, Below.trans hb (Below.drewN _), take_snoc_eq hpre hkn hkn' HE.out⟩
          case measure => simp [intOf]; omega
        · have hne : (xs[k] != ys[k]) = true := by simp [heq]
          have hfin : decide (xs = ys) = false := by
            simp only [decide_eq_false_iff_not]; intro h; subst h; exact heq rfl
          have HF := Lib.hid hfin
          clear hfin heq
          go_wp2
          go_quiet (fail)
          go_wp2
          go_ret
          exact ⟨ret_bool HF.out.symm, Below.trans hb (Below.drewN _)⟩
      · have hfin : decide (xs = ys) = true := by
          simp only [decide_eq_true_eq]
          have h := hpre.out
          rwa [List.take_of_length_le (by omega), List.take_of_length_le (by rw [HL.out]; omega)] at h
        have HF := Lib.hid hfin
        clear hfin
        go_wp2
        go_ret
        exact ⟨ret_bool HF.out.symm, hb⟩
  · have hne : ((xs.length : Int) != (ys.length : Int)) = true := by simp; omega
    have hfin : decide (xs = ys) = false := by
      simp only [decide_eq_false_iff_not]; intro h; subst h; exact hl rfl
    have HF := Lib.hid hfin
    clear hfin hl
    go_enter Try.func31, Try.ntmps31
    go_wp2
    go_ret
    exact ⟨ret_bool HF.out.symm, Below.refl _ _⟩

theorem toNat_ne {a b : UInt8} (h : a ≠ b) : ((a.toNat : Int) != (b.toNat : Int)) = true := by
  simp only [bne_iff_ne, ne_eq]
  intro e
  exact h (UInt8.toNat_inj.1 (by omega))
theorem sameBytes_any (a a' : Option Addr) (c c' : Nat) (xs ys : List UInt8) (w : World)
   (hx : SliceAt w a c (xs.map byteV)) (hy : SliceAt w a' c' (ys.map byteV)) :
    Calls Try.prog 45 #[.slice a xs.length c, .slice a' ys.length c'] w fun e w' => e = .returned (.bool (decide (xs = ys))) ∧ Below w.heap.size w w' := by
  have h3 := hx.len
  have h4 := hy.len
  simp only [List.length_map] at h3 h4
  by_cases hl : ys.length = xs.length
  · have HL : Hid (ys.length = xs.length) := hl
    rw [hl] at h4 ⊢
    clear hl
    go_enter Try.func45, Try.ntmps45
    go_wp2
    go_loopw [5] (fun i wr => ∃ k : Nat, k ≤ xs.length ∧ i = .int .i64 k ∧ Below w.heap.size w wr ∧ Hid (xs.take k = ys.take k)) (fun i _ => xs.length - (intOf i).toNat)
    case atStart => exact ⟨0, by omega, rfl, Below.refl _ _, rfl⟩
    case round =>
      obtain ⟨k, hk, rfl, hb, hpre⟩ := hrel
      by_cases hkn : k < xs.length
      · have hkn' : k < ys.length := by rw [HL.out]; exact hkn
        obtain ⟨b, off, rfl⟩ := hx.addr (by simp; omega)
        obtain ⟨b', off', rfl⟩ := hy.addr (by simp; omega)
        have f1 := (hx.below hb).byteV hkn
        have f2 := (hy.below hb).byteV hkn'
        by_cases heq : xs[k] = ys[k]
        · have hne : ((xs[k].toNat : Int) != (ys[k].toNat : Int)) = false := by simp [heq]
          have HE : Hid (xs[k] = ys[k]) := heq
          clear heq
          go_wp2
          go_quiet (fail)
          go_wp2
          go_roundw
          case rel => exact ⟨k + 1, by omega, by go_num, Below.trans hb (Below.drewN _), take_snoc_eq hpre hkn hkn' HE.out⟩
          case measure => simp [intOf]; omega
        · have hne := toNat_ne heq
          have hfin : decide (xs = ys) = false := by
            simp only [decide_eq_false_iff_not]; intro h; subst h; exact heq rfl
          have HF := Lib.hid hfin
          clear hfin heq
          go_wp2
          go_quiet (fail)
          go_wp2
          go_ret
          exact ⟨ret_bool HF.out.symm, Below.trans hb (Below.drewN _)⟩
      · have hfin : decide (xs = ys) = true := by
          simp only [decide_eq_true_eq]
          have h := hpre.out
          rwa [List.take_of_length_le (by omega), List.take_of_length_le (by rw [HL.out]; omega)] at h
        have HF := Lib.hid hfin
        clear hfin
        go_wp2
        go_ret
        exact ⟨ret_bool HF.out.symm, hb⟩
  · have hne : ((xs.length : Int) != (ys.length : Int)) = true := by simp; omega
    have hfin : decide (xs = ys) = false := by
      simp only [decide_eq_false_iff_not]; intro h; subst h; exact hl rfl
    have HF := Lib.hid hfin
    clear hfin hl
    go_enter Try.func45, Try.ntmps45
    go_wp2
    go_ret
    exact ⟨ret_bool HF.out.symm, Below.refl _ _⟩
end Go.Proofs.Ytaonhmdifinadaa
