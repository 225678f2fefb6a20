/-
  The encoders of the reference model.
-/
import Derived.Test.YtplhclmmmfpgeaaVal
import Derived.Test.YtplhclmmmfpgeaaVals
namespace Go.Proofs.Ytplhclmmmfpgeaa
open Go Go.Proofs
open Go.RowKit
set_option linter.unusedVariables false
set_option linter.unusedSimpArgs false

theorem sliceRowB {w : World} {a : Option Addr} {c : Nat} {bs : List UInt8} (h : SliceAt w a c (bs.map byteV)) : RowAt w a bs.length c 1 (bs.map byteV) := by
  have := h.row
  rwa [List.length_map] at this
theorem byteV_one (bs : List UInt8) : ∀ u ∈ bs.map byteV, u.oneCell' = true := by
  intro u hu
  obtain ⟨x, _, rfl⟩ := List.mem_map.1 hu
  rfl
theorem own_app {w : World} {base : Nat} {e : TypeId} {v : Value} {acc bs : List UInt8} (h : w.ownsRow base e 1 v (acc.length + bs.length) (acc.map byteV ++ bs.map byteV)) : w.ownsRow base e 1 v (acc ++ bs).length ((acc ++ bs).map byteV) := by
  rw [List.map_append, List.length_append]; exact h
theorem own_lit (w : World) (x : Nat) (hx : x < 256) : (w.alloc (.cells #[.int .u8 (x : Int)] 5)).ownsRow w.heap.size 5 1 (.slice (some ⟨w.heap.size, 0, none⟩) 1 1) [UInt8.ofNat x].length ([UInt8.ofNat x].map byteV) := by
  have e : [UInt8.ofNat x].map byteV = [.int .u8 (x : Int)] := by rw [List.map_singleton, byteV_nat hx]
  rw [e]
  exact ⟨rfl, .inr ⟨w.heap.size, 1, #[.int .u8 (x : Int)], rfl, Nat.le_refl _, heap_alloc_new _ _, Nat.le_refl _, by decide, rfl, rfl⟩⟩

set_option maxHeartbeats 2000000 in
theorem refUint_any (n : Nat) (w : World) (hn : n < 18446744073709551616) :
    Calls Try.prog 44 #[.int .u64 n] w fun e w' => ∃ v, e = .returned v ∧ w'.ownsRow w.heap.size 5 1 v (encU n).length ((encU n).map byteV) ∧ Below w.heap.size w w' := by
  go_enter Try.func44, Try.ntmps44
  go_wp2_with fail
  go_loopw [0, 3] (fun nv v wr => ∃ (m : Nat) (acc : List UInt8), m < 18446744073709551616 ∧ nv = .int .u64 m ∧ acc.length + (encU m).length ≤ 10 ∧ wr.ownsRow w.heap.size 5 1 v acc.length (acc.map byteV) ∧ Below w.heap.size w wr ∧ Hid (acc ++ encU m = encU n)) (fun nv _ _ => (intOf nv).toNat)
  case atStart => exact ⟨n, [], hn, rfl, by simpa using encU_len10 hn, World.ownsRow_nil _ _ _ _, Below.refl _ _, rfl⟩
  case round =>
    obtain ⟨m, acc, hm, rfl, hlen, hown, hB, HE⟩ := hrel
    have hbz := hB.size
    by_cases hbig : 128 ≤ m
    · have d1 : decide ((127 : Int) < (m : Int)) = true := decide_eq_true (by omega)
      have hE5 : (acc ++ [UInt8.ofNat (m % 128 + 128)]) ++ encU (m / 128) = encU n := by rw [← HE.out, encU_big hbig, List.append_assoc]; rfl
      have hlen5 : (acc ++ [UInt8.ofNat (m % 128 + 128)]).length + (encU (m / 128)).length ≤ 10 := by
        rw [encU_big hbig] at hlen
        simp at hlen ⊢
        omega
      have HE5 := Lib.hid hE5
      have HL5 := Lib.hid hlen5
      have hal : acc.length ≤ 10 := by omega
      clear hE5 hlen5 hlen HE
      go_wp2_with (at_builtin; refine wpList_append_src _ rfl _ _ 24 rfl elemB w.heap.size _ acc.length _ rfl (hown.alloc _) (some ⟨wr.heap.size, 0, none⟩) 1 1 [.int .u8 (128 + (m : Int) % 128)] rfl (row_new (cs := [.int .u8 (128 + (m : Int) % 128)]) (by simp) (by omega)) (by simp [Value.oneCell']) (by omega) (by omega) (by simp; omega) ?_)
      intro v5 w5 hown5 hb5 _
      have hbyt : byteV (UInt8.ofNat (m % 128 + 128)) = .int .u8 (128 + (m : Int) % 128) := by rw [byteV_nat (by omega)]; congr 1; omega
      have ho5 : w5.ownsRow w.heap.size 5 1 v5 (acc ++ [UInt8.ofNat (m % 128 + 128)]).length ((acc ++ [UInt8.ofNat (m % 128 + 128)]).map byteV) := own_app (by rw [List.map_singleton, hbyt]; exact hown5)
      have hB5 : Below w.heap.size w w5 := (hB.alloc hbz _).trans hb5
      clear hown hown5 hb5 hbyt hB
      go_wp2_with fail
      go_roundw
      case rel => exact ⟨m / 128, _, by omega, by go_num, HL5.out, ho5, hB5, HE5⟩
      case measure => simp [intOf]; omega
    · have d1 : decide ((127 : Int) < (m : Int)) = false := decide_eq_false (by omega)
      have hms : m < 128 := by omega
      have hE5 : acc ++ [UInt8.ofNat m] = encU n := by rw [← HE.out, encU_small hms]
      have HE5 := Lib.hid hE5
      have hal : acc.length ≤ 10 := by omega
      clear hE5 HE
      go_wp2_with (at_builtin; refine wpList_append_src _ rfl _ _ 24 rfl elemB w.heap.size _ acc.length _ rfl (hown.alloc _) (some ⟨wr.heap.size, 0, none⟩) 1 1 [.int .u8 (m : Int)] rfl (row_new (cs := [.int .u8 (m : Int)]) (by simp) (by omega)) (by simp [Value.oneCell']) (by omega) (by omega) (by simp; omega) ?_)
      intro v5 w5 hown5 hb5 _
      have ho5 : w5.ownsRow w.heap.size 5 1 v5 (acc ++ [UInt8.ofNat m]).length ((acc ++ [UInt8.ofNat m]).map byteV) := own_app (by rw [List.map_singleton, byteV_nat (by omega)]; exact hown5)
      have hB5 : Below w.heap.size w w5 := (hB.alloc hbz _).trans hb5
      rw [HE5.out] at ho5
      clear hown hown5 hb5 hB
      go_wp2_with fail
      go_ret
      exact ⟨_, rfl, ho5, hB5⟩

theorem refZigzag_any (n : Int) (w : World) (h1 : -9223372036854775808 ≤ n) (h2 : n ≤ 9223372036854775807) :
    Calls Try.prog 62 #[.int .i64 n] w fun e w' => e = .returned (.int .u64 (zigN n : Nat)) ∧ w = w' := by
  by_cases hn : n < 0
  · have d1 : decide (n < 0) = true := decide_eq_true hn
    go_enter Try.func62, Try.ntmps62
    go_wp2_with fail
    go_ret
    exact ⟨ret_int (by unfold zigN; rw [if_pos hn]; first | omega | (simp only [wrap_u64]; omega)), rfl⟩
  · have d1 : decide (n < 0) = false := decide_eq_false hn
    go_enter Try.func62, Try.ntmps62
    go_wp2_with fail
    go_ret
    exact ⟨ret_int (by unfold zigN; rw [if_neg (by omega)]; first | omega | (simp only [wrap_u64]; omega)), rfl⟩
theorem refInt_any (n : Int) (w : World) (h1 : -9223372036854775808 ≤ n) (h2 : n ≤ 9223372036854775807) :
    Calls Try.prog 45 #[.int .i64 n] w fun e w' => ∃ v, e = .returned v ∧ w'.ownsRow w.heap.size 5 1 v (encI n).length ((encI n).map byteV) ∧ Below w.heap.size w w' := by
  go_enter Try.func45, Try.ntmps45
  go_wp2_with fail
  refine (refZigzag_any n w h1 h2).mono ?_
  rintro e w1 ⟨rfl, rfl⟩
  go_wp2_with fail
  refine (refUint_any (zigN n) w (zigN_lt h1 h2)).mono ?_
  rintro e w1 ⟨v, rfl, ho, hb⟩
  go_wp2_with fail
  go_ret
  exact ⟨v, rfl, ho, hb⟩
theorem refBool_any (x : Bool) (w : World) :
    Calls Try.prog 46 #[.bool x] w fun e w' => ∃ v, e = .returned v ∧ w'.ownsRow w.heap.size 5 1 v (encU (boolN x)).length ((encU (boolN x)).map byteV) ∧ Below w.heap.size w w' := by
  cases x
  · go_enter Try.func46, Try.ntmps46
    go_wp2_with fail
    go_ret
    rw [encU_small (by decide)]
    exact ⟨_, rfl, own_lit w 0 (by omega), (Below.refl _ w).alloc (Nat.le_refl _) _⟩
  · go_enter Try.func46, Try.ntmps46
    go_wp2_with fail
    go_ret
    rw [encU_small (by decide)]
    exact ⟨_, rfl, own_lit w 1 (by omega), (Below.refl _ w).alloc (Nat.le_refl _) _⟩
theorem refRaw_any (a : Option Addr) (c : Nat) (bs : List UInt8) (w : World) (hx : SliceAt w a c (bs.map byteV)) (hl : bs.length ≤ 70368744177664) :
    Calls Try.prog 47 #[.slice a bs.length c] w fun e w' => ∃ v, e = .returned v ∧ w'.ownsRow w.heap.size 5 1 v (encR bs).length ((encR bs).map byteV) ∧ Below w.heap.size w w' := by
  have h10 := encU_len10 (n := bs.length) (by omega)
  have HX := Lib.hid hx
  clear hx
  go_enter Try.func47, Try.ntmps47
  go_wp2_with fail
  refine (refUint_any bs.length w (by omega)).mono ?_
  rintro e w1 ⟨v, rfl, ho, hb⟩
  obtain ⟨eu, heu⟩ : ∃ eu, encU bs.length = eu := ⟨_, rfl⟩
  have hR : encR bs = eu ++ bs := by unfold encR; rw [heu]
  rw [heu] at ho h10
  have hs := sliceRowB (HX.out.below hb)
  have HR := Lib.hid hR
  clear heu hR
  go_wp2_with (at_builtin; refine wpList_append_src _ rfl _ _ 24 rfl elemB w.heap.size _ eu.length _ rfl ho a bs.length c _ rfl hs (byteV_one bs) (by omega) (by omega) hb.size ?_)
  intro v5 w5 hown5 hb5 _
  have ho5 := own_app hown5
  have hB5 := hb.trans hb5
  clear ho hown5 hb5 hs
  go_wp2_with fail
  go_ret
  rw [HR.out]
  exact ⟨_, rfl, ho5, hB5⟩
set_option maxHeartbeats 2000000 in
theorem refInts_any (a : Option Addr) (c : Nat) (l : List Int) (w : World) (hx : SliceAt w a c (l.map intV)) (hb0 : ∀ n ∈ l, -9223372036854775808 ≤ n ∧ n ≤ 9223372036854775807) (hl : l.length ≤ 1000000) :
    Calls Try.prog 48 #[.slice a l.length c] w fun e w' => ∃ v, e = .returned v ∧ w'.ownsRow w.heap.size 5 1 v (encIs l).length ((encIs l).map byteV) ∧ Below w.heap.size w w' := by
  have h10 := encU_len10 (n := l.length) (by omega)
  have HX := Lib.hid hx
  have HB := Lib.hid hb0
  clear hx hb0
  go_enter Try.func48, Try.ntmps48
  go_wp2_with fail
  refine (refUint_any l.length w (by omega)).mono ?_
  rintro e w1 ⟨v, rfl, ho, hb⟩
  obtain ⟨eu, heu⟩ : ∃ eu, encU l.length = eu := ⟨_, rfl⟩
  have hR : encIs l = eu ++ l.flatMap encI := by unfold encIs; rw [heu]
  rw [heu] at ho h10
  have HR := Lib.hid hR
  clear heu hR
  go_wp2_with fail
  go_loopw [3, 4] (fun v jv wr => ∃ (j : Nat) (acc : List UInt8), j ≤ l.length ∧ jv = .int .i64 j ∧ acc.length ≤ 10 + 10 * j ∧ wr.ownsRow w.heap.size 5 1 v acc.length (acc.map byteV) ∧ Below w.heap.size w wr ∧ Hid (acc = eu ++ (l.take j).flatMap encI)) (fun _ jv _ => l.length - (intOf jv).toNat)
  case atStart => exact ⟨0, eu, by omega, rfl, by omega, ho, hb, by unfold Hid; simp⟩
  case round =>
    clear ho hb h10
    obtain ⟨j, acc, hj, rfl, hal, hown, hB, HE⟩ := hrel
    by_cases hlt : j < l.length
    · have d1 : decide ((j : Int) < (l.length : Int)) = true := decide_eq_true (by omega)
      have d1' : decide (j < l.length) = true := decide_eq_true hlt
      have hs := HX.out.below hB
      obtain ⟨kb, koff, rfl⟩ := hs.addr (by simp; omega)
      have f := hs.intV hlt
      obtain ⟨q, hq⟩ : ∃ q, q = l[j] := ⟨_, rfl⟩
      rw [← hq] at f
      have hqb := HB.out q (by rw [hq]; exact List.getElem_mem hlt)
      have hE5 : acc ++ encI q = eu ++ (l.take (j + 1)).flatMap encI := by
        rw [HE.out, List.take_succ_eq_append_getElem hlt, List.flatMap_append, ← hq, List.append_assoc]
        simp
      have hqi := encI_len q hqb.1 hqb.2
      have KI := Lib.hid (refInt_any q wr hqb.1 hqb.2)
      obtain ⟨ei, hei⟩ : ∃ ei, encI q = ei := ⟨_, rfl⟩
      rw [hei] at hE5 hqi KI
      have HE5 := Lib.hid hE5
      clear hE5 hei hq hs HE
      go_wp2_with fail
      refine KI.out.mono ?_
      rintro e w9 ⟨v9, rfl, ho9, hb9⟩
      obtain ⟨a9, c9, rfl, hs9⟩ := ownsRow_sliceMap ho9
      have hown9 := ownsRow_below hown hb9
      have hB9 := Below.step hB hb9
      have hr9 := sliceRowB hs9
      clear ho9 hown hb9 hB KI hs9
      go_wp2_with (at_builtin; refine wpList_append_src _ rfl _ _ 24 rfl elemB w.heap.size _ acc.length _ rfl hown9 a9 ei.length c9 _ rfl hr9 (byteV_one ei) (by omega) (by omega) hB9.size ?_)
      intro v5 w5 hown5 hb5 _
      have ho5 := own_app hown5
      have hB5 := hB9.trans hb5
      have hal5 : (acc ++ ei).length ≤ 10 + 10 * (j + 1) := by rw [List.length_append]; omega
      have HAL := Lib.hid hal5
      clear hown5 hb5 hown9 hB9 hr9 hal5
      go_wp2_with fail
      go_roundw
      case rel => exact ⟨j + 1, _, by omega, by go_num, HAL.out, ho5, hB5, HE5⟩
      case measure => simp [intOf]; omega
    · have d1 : decide ((j : Int) < (l.length : Int)) = false := decide_eq_false (by omega)
      have d1' : decide (j < l.length) = false := decide_eq_false hlt
      have hfin : acc = encIs l := by rw [HE.out, HR.out, List.take_of_length_le (by omega)]
      subst hfin
      clear HE HR
      go_wp2_with fail
      go_ret
      exact ⟨_, rfl, hown, hB⟩
end Go.Proofs.Ytplhclmmmfpgeaa
