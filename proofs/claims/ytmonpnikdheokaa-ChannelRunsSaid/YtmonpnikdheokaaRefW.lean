/-
  The encoders of the reference (Uint, Int, Raw).
-/
import Derived.Test.YtmonpnikdheokaaWireA
import Derived.Test.YtmonpnikdheokaaRdEnc
namespace Go.Proofs.Ytmonpnikdheokaa
open Go Go.Proofs
open Go.RowKit
set_option linter.unusedVariables false
set_option linter.unusedSimpArgs false

theorem sliceRowB {w : World} {a : Option Addr} {c : Nat} {bs : List UInt8} (h : SliceAt w a c (bs.map byteV)) : RowAt w a bs.length c 1 (bs.map byteV) := by
  have := h.row
  rwa [List.length_map] at this
theorem byteV_one (bs : List UInt8) : ∀ u ∈ bs.map byteV, u.oneCell' = true := by
  intro u hu
  obtain ⟨x, _, rfl⟩ := List.mem_map.1 hu
  rfl
theorem own_app {w : World} {base : Nat} {e : TypeId} {v : Value} {acc bs : List UInt8} (h : w.ownsRow base e 1 v (acc.length + bs.length) (acc.map byteV ++ bs.map byteV)) : w.ownsRow base e 1 v (acc ++ bs).length ((acc ++ bs).map byteV) := by
  rw [List.map_append, List.length_append]; exact h
set_option maxHeartbeats 2000000 in
theorem refUint_any (n : Nat) (w : World) (hn : n < 18446744073709551616) :
    Calls Try.prog 71 #[.int .u64 n] w fun e w' => ∃ v, e = .returned v ∧ w'.ownsRow w.heap.size 5 1 v (encU n).length ((encU n).map byteV) ∧ Below w.heap.size w w' := by
  go_enter Try.func71, Try.ntmps71
  go_wp2_with fail
  go_loopw [0, 3] (fun nv v wr => ∃ (m : Nat) (acc : List UInt8), m < 18446744073709551616 ∧ nv = .int .u64 m ∧ acc.length + (encU m).length ≤ 10 ∧ wr.ownsRow w.heap.size 5 1 v acc.length (acc.map byteV) ∧ Below w.heap.size w wr ∧ Hid (acc ++ encU m = encU n)) (fun nv _ _ => (intOf nv).toNat)
  case atStart => exact ⟨n, [], hn, rfl, by simpa using encU_len10 hn, World.ownsRow_nil _ _ _ _, Below.refl _ _, rfl⟩
  case round =>
    obtain ⟨m, acc, hm, rfl, hlen, hown, hB, HE⟩ := hrel
    have hbz := hB.size
    by_cases hbig : 128 ≤ m
    · have d1 : decide ((127 : Int) < (m : Int)) = true := decide_eq_true (by omega)
      have hE5 : (acc ++ [UInt8.ofNat (m % 128 + 128)]) ++ encU (m / 128) = encU n := by rw [← HE.out, encU_big hbig, List.append_assoc]; rfl
      have hlen5 : (acc ++ [UInt8.ofNat (m % 128 + 128)]).length + (encU (m / 128)).length ≤ 10 := by
        rw [encU_big hbig] at hlen
        simp at hlen ⊢
        omega
      have HE5 := Lib.hid hE5
      have HL5 := Lib.hid hlen5
      have hal : acc.length ≤ 10 := by omega
      clear hE5 hlen5 hlen HE
      go_wp2_with (at_builtin; refine wpList_append_src _ rfl _ _ 31 rfl elemB w.heap.size _ acc.length _ rfl (hown.alloc _) (some ⟨wr.heap.size, 0, none⟩) 1 1 [.int .u8 (128 + (m : Int) % 128)] rfl (row_new (cs := [.int .u8 (128 + (m : Int) % 128)]) (by simp) (by omega)) (by simp [Value.oneCell']) (by omega) (by omega) (by simp; omega) ?_)
      intro v5 w5 hown5 hb5 _
      have hbyt : byteV (UInt8.ofNat (m % 128 + 128)) = .int .u8 (128 + (m : Int) % 128) := by rw [byteV_nat (by omega)]; congr 1; omega
      have ho5 : w5.ownsRow w.heap.size 5 1 v5 (acc ++ [UInt8.ofNat (m % 128 + 128)]).length ((acc ++ [UInt8.ofNat (m % 128 + 128)]).map byteV) := own_app (by rw [List.map_singleton, hbyt]; exact hown5)
      have hB5 : Below w.heap.size w w5 := (hB.alloc hbz _).trans hb5
      clear hown hown5 hb5 hbyt hB
      go_wp2_with fail
      go_roundw
      case rel => exact ⟨m / 128, _, by omega, by go_num, HL5.out, ho5, hB5, HE5⟩
      case measure => simp [intOf]; omega
    · have d1 : decide ((127 : Int) < (m : Int)) = false := decide_eq_false (by omega)
      have hms : m < 128 := by omega
      have hE5 : acc ++ [UInt8.ofNat m] = encU n := by rw [← HE.out, encU_small hms]
      have HE5 := Lib.hid hE5
      have hal : acc.length ≤ 10 := by omega
      clear hE5 HE
      go_wp2_with (at_builtin; refine wpList_append_src _ rfl _ _ 31 rfl elemB w.heap.size _ acc.length _ rfl (hown.alloc _) (some ⟨wr.heap.size, 0, none⟩) 1 1 [.int .u8 (m : Int)] rfl (row_new (cs := [.int .u8 (m : Int)]) (by simp) (by omega)) (by simp [Value.oneCell']) (by omega) (by omega) (by simp; omega) ?_)
      intro v5 w5 hown5 hb5 _
      have ho5 : w5.ownsRow w.heap.size 5 1 v5 (acc ++ [UInt8.ofNat m]).length ((acc ++ [UInt8.ofNat m]).map byteV) := own_app (by rw [List.map_singleton, byteV_nat (by omega)]; exact hown5)
      have hB5 : Below w.heap.size w w5 := (hB.alloc hbz _).trans hb5
      rw [HE5.out] at ho5
      clear hown hown5 hb5 hB
      go_wp2_with fail
      go_ret
      exact ⟨_, rfl, ho5, hB5⟩
theorem refZigzag_any (n : Int) (w : World) (h1 : -9223372036854775808 ≤ n) (h2 : n ≤ 9223372036854775807) :
    Calls Try.prog 105 #[.int .i64 n] w fun e w' => e = .returned (.int .u64 (zigN n : Nat)) ∧ w = w' := by
  by_cases hn : n < 0
  · have d1 : decide (n < 0) = true := decide_eq_true hn
    go_enter Try.func105, Try.ntmps105
    go_wp2_with fail
    go_ret
    exact ⟨ret_int (by unfold zigN; rw [if_pos hn]; first | omega | (simp only [wrap_u64]; omega)), rfl⟩
  · have d1 : decide (n < 0) = false := decide_eq_false hn
    go_enter Try.func105, Try.ntmps105
    go_wp2_with fail
    go_ret
    exact ⟨ret_int (by unfold zigN; rw [if_neg (by omega)]; first | omega | (simp only [wrap_u64]; omega)), rfl⟩
theorem refInt_any (n : Int) (w : World) (h1 : -9223372036854775808 ≤ n) (h2 : n ≤ 9223372036854775807) :
    Calls Try.prog 88 #[.int .i64 n] w fun e w' => ∃ v, e = .returned v ∧ w'.ownsRow w.heap.size 5 1 v (encI n).length ((encI n).map byteV) ∧ Below w.heap.size w w' := by
  go_enter Try.func88, Try.ntmps88
  go_wp2_with fail
  refine (refZigzag_any n w h1 h2).mono ?_
  rintro e w1 ⟨rfl, rfl⟩
  go_wp2_with fail
  refine (refUint_any (zigN n) w (zigN_lt h1 h2)).mono ?_
  rintro e w1 ⟨v, rfl, ho, hb⟩
  go_wp2_with fail
  go_ret
  exact ⟨v, rfl, ho, hb⟩
theorem refRaw_any (a : Option Addr) (c : Nat) (bs : List UInt8) (w : World) (hx : SliceAt w a c (bs.map byteV)) (hl : bs.length ≤ 70368744177664) :
    Calls Try.prog 70 #[.slice a bs.length c] w fun e w' => ∃ v, e = .returned v ∧ w'.ownsRow w.heap.size 5 1 v (encR bs).length ((encR bs).map byteV) ∧ Below w.heap.size w w' := by
  have h10 := encU_len10 (n := bs.length) (by omega)
  have HX := Lib.hid hx
  clear hx
  go_enter Try.func70, Try.ntmps70
  go_wp2_with fail
  refine (refUint_any bs.length w (by omega)).mono ?_
  rintro e w1 ⟨v, rfl, ho, hb⟩
  obtain ⟨eu, heu⟩ : ∃ eu, encU bs.length = eu := ⟨_, rfl⟩
  have hR : encR bs = eu ++ bs := by unfold encR; rw [heu]
  rw [heu] at ho h10
  have hs := sliceRowB (HX.out.below hb)
  have HR := Lib.hid hR
  clear heu hR
  go_wp2_with (at_builtin; refine wpList_append_src _ rfl _ _ 31 rfl elemB w.heap.size _ eu.length _ rfl ho a bs.length c _ rfl hs (byteV_one bs) (by omega) (by omega) hb.size ?_)
  intro v5 w5 hown5 hb5 _
  have ho5 := own_app hown5
  have hB5 := hb.trans hb5
  clear ho hown5 hb5 hs
  go_wp2_with fail
  go_ret
  rw [HR.out]
  exact ⟨_, rfl, ho5, hB5⟩
end Go.Proofs.Ytmonpnikdheokaa
