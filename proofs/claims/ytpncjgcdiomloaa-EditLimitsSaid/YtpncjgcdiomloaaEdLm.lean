/-
  The walk of the law EditLimits.
-/
import Derived.Test.YtpncjgcdiomloaaEdCw
namespace Go.Proofs.Ytpncjgcdiomloaa
open Go Go.Proofs
open Go.RowKit
set_option linter.unusedVariables false
set_option linter.unusedSimpArgs false

def insL (k : Nat) : List Ed := (List.range k).map fun i : Nat => (⟨(i : Int), (i : Int), [121]⟩ : Ed)
def delL (k : Nat) : List Ed := (List.range k).map fun i : Nat => (⟨100 + 2 * (i : Int), 101 + 2 * (i : Int), []⟩ : Ed)
theorem insL_len (k : Nat) : (insL k).length = k := by simp [insL]
theorem delL_len (k : Nat) : (delL k).length = k := by simp [delL]
theorem insL_snoc (k : Nat) : insL (k + 1) = insL k ++ [⟨k, k, [121]⟩] := by simp [insL, List.range_succ]
theorem delL_snoc (k : Nat) : delL (k + 1) = delL k ++ [⟨100 + 2 * (k : Int), 101 + 2 * (k : Int), []⟩] := by simp [delL, List.range_succ]
theorem insL_x (k : Nat) : ∀ e ∈ insL k, e.x.length ≤ 1 := by
  intro e he
  unfold insL at he
  obtain ⟨x, _, rfl⟩ := List.mem_map.1 he
  simp
theorem delL_x (k : Nat) : ∀ e ∈ delL k, e.x.length ≤ 1 := by
  intro e he
  unfold delL at he
  obtain ⟨x, _, rfl⟩ := List.mem_map.1 he
  simp
theorem OwnEds.eds {w : World} {base n c : Nat} {a : Option Addr} {es : List Ed} (h : OwnEds w base (.slice a n c) es) : EdsAt w a c es := by
  obtain ⟨a', c', e, h'⟩ := h.at
  simp only [Value.slice.injEq] at e
  obtain ⟨rfl, -, rfl⟩ := e
  exact h'
theorem rep_snoc (k : Nat) : strB (List.replicate k (120 : UInt8)) ++ (⟨#[120]⟩ : ByteArray) = strB (List.replicate (k + 1) 120) := by
  rw [show (⟨#[120]⟩ : ByteArray) = strB [120] from rfl, strB_app, List.replicate_succ']

set_option maxRecDepth 100000 in
set_option maxHeartbeats 8000000 in
theorem editLimits_walk (n m o : Int) (w : World) (h1 : -9223372036854775808 ≤ n ∧ n ≤ 9223372036854775807) (h3 : -9223372036854775808 ≤ m ∧ m ≤ 9223372036854775807) (h5 : -9223372036854775808 ≤ o ∧ o ≤ 9223372036854775807) :
    Calls Try.prog 9 #[.int .i64 n, .int .i64 m, .int .i64 o] w fun e w' => e = .returned (.bool true) ∧ Below w.heap.size w w' := by
  have K1 := Lib.hid fun W => around_any n 11 W (by decide) (by decide) h1.1 h1.2
  have K2 := Lib.hid fun W => around_any m 13 W (by decide) (by decide) h3.1 h3.2
  have K3 := Lib.hid fun W => around_any o 13 W (by decide) (by decide) h5.1 h5.2
  have a1 := aroundI_lo n 11 (by decide)
  have a2 := aroundI_hi n 11 (by decide)
  have b1 := aroundI_lo m 13 (by decide)
  have b2 := aroundI_hi m 13 (by decide)
  have c1 := aroundI_lo o 13 (by decide)
  have c2 := aroundI_hi o 13 (by decide)
  obtain ⟨p, hp⟩ : ∃ p : Nat, aroundI n 11 = p := ⟨(aroundI n 11).toNat, by omega⟩
  obtain ⟨q, hq⟩ : ∃ q : Nat, aroundI m 13 = q := ⟨(aroundI m 13).toNat, by omega⟩
  obtain ⟨r, hr⟩ : ∃ r : Nat, aroundI o 13 = r := ⟨(aroundI o 13).toNat, by omega⟩
  rw [hp] at K1 a1 a2
  rw [hq] at K2 b1 b2
  rw [hr] at K3 c1 c2
  have hp10 : p ≤ 10 := by omega
  have hq12 : q ≤ 12 := by omega
  have hr12 : r ≤ 12 := by omega
  clear a1 a2 b1 b2 c1 c2 hp hq hr h1 h3 h5
  go_enter Try.func9, Try.ntmps9
  go_wp2_with fail
  go_loopw [7, 8] (fun sv iv wr => ∃ k : Nat, k ≤ 200 ∧ iv = .int .i64 k ∧ sv = .string (strB (List.replicate k 120)) ∧ wr = w) (fun _ iv _ => 200 - (intOf iv).toNat)
  case atStart => exact ⟨0, by omega, rfl, rfl, by first | rfl | trivial⟩
  case round =>
    obtain ⟨k, hk, rfl, rfl, hww⟩ := hrel
    have hww := hww.symm
    subst hww
    by_cases hlt : k < 200
    · have d1 : decide ((k : Int) < 200) = true := decide_eq_true (by omega)
      have z1 : ¬ 9223372036854775807 < (strB (List.replicate k 120)).size + (⟨#[120]⟩ : ByteArray).size := by rw [strB_size, List.length_replicate]; show ¬ _ < k + 1; omega
      have hrep := rep_snoc k
      obtain ⟨sk, hsk⟩ : ∃ sk, strB (List.replicate k 120) = sk := ⟨_, rfl⟩
      rw [hsk] at z1 hrep ⊢
      have HREP := Lib.hid hrep
      clear hsk hrep
      go_wp2_with fail
      go_roundw
      case rel => exact ⟨k + 1, by omega, by go_num, ret_str HREP.out, by first | rfl | trivial⟩
      case measure => simp [intOf]; omega
    · obtain rfl : k = 200 := by omega
      have d1 : decide (((200 : Nat) : Int) < 200) = false := by decide
      obtain ⟨s, hs⟩ : ∃ s, strB (List.replicate 200 120) = s := ⟨_, rfl⟩
      have hss : s.size = 200 := by rw [← hs, strB_size, List.length_replicate]
      rw [hs]
      have HSS := Lib.hid hss
      clear hs hss
      go_wp2_with fail
      go_loopw [9, 12] (fun lv iv wr => ∃ k : Nat, k ≤ 60 + p ∧ iv = .int .i64 k ∧ OwnEds wr w.heap.size lv (insL k) ∧ Below w.heap.size w wr) (fun _ iv _ => 60 + p - (intOf iv).toNat)
      case atStart => exact ⟨0, by omega, rfl, OwnEds.nil _ _, Below.refl _ _⟩
      case round =>
        obtain ⟨k, hk, rfl, hO, hB⟩ := hrel
        have i0 : IntKind.i64.wrap (60 + (p : Int)) = 60 + (p : Int) := IntWalk.i64_in _ (by omega)
        obtain ⟨avA, cvA, rfl, -⟩ := hO.at
        have HO := Lib.hid hO
        have HHB := Lib.hid hB
        have hln := insL_len k
        have hsn := insL_snoc k
        clear hO
        by_cases hlt : k < 60 + p
        · have d1 : decide ((k : Int) < 60 + (p : Int)) = true := decide_eq_true (by omega)
          obtain ⟨O, hO⟩ : ∃ O, insL k = O := ⟨_, rfl⟩
          rw [hO] at HO hln hsn ⊢
          have HSN := Lib.hid hsn
          have HLN := Lib.hid hln
          have hsz := hB.size
          clear hO hsn hB
          rw [hln] at HO ⊢
          clear hln
          go_wp2_with fail
          refine (K1.out wr).mono ?_
          rintro e w' ⟨rfl, rfl⟩
          go_wp2_with (at_builtin; refine wpList_append_src _ rfl (.tmp 32) (.tmp 36) 22 rfl elemE w.heap.size _ k _ rfl (by first | exact (ownsRow_below (by have h := HO.out; unfold OwnEds at h; rw [HLN.out] at h; exact h) ((Below.refl _ wr).alloc (Nat.le_refl _) _))) (some ⟨wr.heap.size, 0, none⟩) 1 1 [.int .i64 k, .int .i64 k, .string (⟨#[121]⟩ : ByteArray)] rfl (row_new (cs := [.int .i64 k, .int .i64 k, .string (⟨#[121]⟩ : ByteArray)]) rfl (by decide)) (by simp [Value.oneCell']) (by omega) (by omega) (by simp; omega) ?_; intro v2 w2 hown2 hb2 hgrow)
          have hO2 : OwnEds w2 w.heap.size v2 (insL (k + 1)) := by
            rw [HSN.out]
            refine OwnEds.snoc ?_
            rw [HLN.out]
            exact hown2
          have hB2 := (HHB.out.alloc hsz _).trans hb2
          have HO2 := Lib.hid hO2
          have HB2 := Lib.hid hB2
          clear hown2 hb2 hO2 hB2 hgrow
          go_wp2_with fail
          go_roundw
          case rel => exact ⟨k + 1, by omega, by go_num, HO2.out, HB2.out⟩
          case measure => simp [intOf]; omega
        · obtain rfl : k = 60 + p := by omega
          have d1 : decide (((60 + p : Nat) : Int) < 60 + (p : Int)) = false := decide_eq_false (by omega)
          have d2 : decide ((60 : Int) + (p : Int) < 60 + (p : Int)) = false := decide_eq_false (by omega)
          clear hsn hB
          go_wp2_with fail
          refine (K1.out wr).mono ?_
          rintro e w' ⟨rfl, rfl⟩
          have Ax := insL_x (60 + p)
          obtain ⟨A, hA⟩ : ∃ A, insL (60 + p) = A := ⟨_, rfl⟩
          rw [hA] at HO hln Ax ⊢
          have hAl : A.length ≤ 70 := by omega
          have HAt := Lib.hid HO.out.eds
          have HAx := Lib.hid Ax
          obtain ⟨wA, rfl⟩ : ∃ w', w' = wr := ⟨_, rfl⟩
          have HAb := Lib.hid HHB.out
          clear HO HHB hA hln Ax i0 d1 d2 hk hlt
          go_wp2_with fail
          go_loopw [10, 13] (fun lv iv wr => ∃ k : Nat, k ≤ 28 + q ∧ iv = .int .i64 k ∧ OwnEds wr wA.heap.size lv (insL k) ∧ Below wA.heap.size wA wr) (fun _ iv _ => 28 + q - (intOf iv).toNat)
          case atStart => exact ⟨0, by omega, rfl, OwnEds.nil _ _, Below.refl _ _⟩
          case round =>
            obtain ⟨k, hk, rfl, hO, hB⟩ := hrel
            have i0 : IntKind.i64.wrap (28 + (q : Int)) = 28 + (q : Int) := IntWalk.i64_in _ (by omega)
            obtain ⟨avB, cvB, rfl, -⟩ := hO.at
            have HO := Lib.hid hO
            have HHB := Lib.hid hB
            have hln := insL_len k
            have hsn := insL_snoc k
            clear hO
            by_cases hlt : k < 28 + q
            · have d1 : decide ((k : Int) < 28 + (q : Int)) = true := decide_eq_true (by omega)
              obtain ⟨O, hO⟩ : ∃ O, insL k = O := ⟨_, rfl⟩
              rw [hO] at HO hln hsn ⊢
              have HSN := Lib.hid hsn
              have HLN := Lib.hid hln
              have hsz := hB.size
              clear hO hsn hB
              rw [hln] at HO ⊢
              clear hln
              go_wp2_with fail
              refine (K2.out wr).mono ?_
              rintro e w' ⟨rfl, rfl⟩
              go_wp2_with (at_builtin; refine wpList_append_src _ rfl (.tmp 45) (.tmp 49) 22 rfl elemE wA.heap.size _ k _ rfl (by first | exact (ownsRow_below (by have h := HO.out; unfold OwnEds at h; rw [HLN.out] at h; exact h) ((Below.refl _ wr).alloc (Nat.le_refl _) _))) (some ⟨wr.heap.size, 0, none⟩) 1 1 [.int .i64 k, .int .i64 k, .string (⟨#[121]⟩ : ByteArray)] rfl (row_new (cs := [.int .i64 k, .int .i64 k, .string (⟨#[121]⟩ : ByteArray)]) rfl (by decide)) (by simp [Value.oneCell']) (by omega) (by omega) (by simp; omega) ?_; intro v2 w2 hown2 hb2 hgrow)
              have hO2 : OwnEds w2 wA.heap.size v2 (insL (k + 1)) := by
                rw [HSN.out]
                refine OwnEds.snoc ?_
                rw [HLN.out]
                exact hown2
              have hB2 := (HHB.out.alloc hsz _).trans hb2
              have HO2 := Lib.hid hO2
              have HB2 := Lib.hid hB2
              clear hown2 hb2 hO2 hB2 hgrow
              go_wp2_with fail
              go_roundw
              case rel => exact ⟨k + 1, by omega, by go_num, HO2.out, HB2.out⟩
              case measure => simp [intOf]; omega
            · obtain rfl : k = 28 + q := by omega
              have d1 : decide (((28 + q : Nat) : Int) < 28 + (q : Int)) = false := decide_eq_false (by omega)
              have d2 : decide ((28 : Int) + (q : Int) < 28 + (q : Int)) = false := decide_eq_false (by omega)
              clear hsn hB
              go_wp2_with fail
              refine (K2.out wr).mono ?_
              rintro e w' ⟨rfl, rfl⟩
              have Bx := insL_x (28 + q)
              obtain ⟨B, hB⟩ : ∃ B, insL (28 + q) = B := ⟨_, rfl⟩
              rw [hB] at HO hln Bx ⊢
              have hBl : B.length ≤ 70 := by omega
              have HBt := Lib.hid HO.out.eds
              have HBx := Lib.hid Bx
              obtain ⟨wB, rfl⟩ : ∃ w', w' = wr := ⟨_, rfl⟩
              have HBb := Lib.hid HHB.out
              clear HO HHB hB hln Bx i0 d1 d2 hk hlt
              go_wp2_with fail
              go_loopw [11, 14] (fun lv iv wr => ∃ k : Nat, k ≤ 28 + r ∧ iv = .int .i64 k ∧ OwnEds wr wB.heap.size lv (delL k) ∧ Below wB.heap.size wB wr) (fun _ iv _ => 28 + r - (intOf iv).toNat)
              case atStart => exact ⟨0, by omega, rfl, OwnEds.nil _ _, Below.refl _ _⟩
              case round =>
                obtain ⟨k, hk, rfl, hO, hB⟩ := hrel
                have i0 : IntKind.i64.wrap (28 + (r : Int)) = 28 + (r : Int) := IntWalk.i64_in _ (by omega)
                obtain ⟨avC, cvC, rfl, -⟩ := hO.at
                have HO := Lib.hid hO
                have HHB := Lib.hid hB
                have hln := delL_len k
                have hsn := delL_snoc k
                clear hO
                by_cases hlt : k < 28 + r
                · have d1 : decide ((k : Int) < 28 + (r : Int)) = true := decide_eq_true (by omega)
                  obtain ⟨O, hO⟩ : ∃ O, delL k = O := ⟨_, rfl⟩
                  rw [hO] at HO hln hsn ⊢
                  have HSN := Lib.hid hsn
                  have HLN := Lib.hid hln
                  have hsz := hB.size
                  have j1 : IntKind.i64.wrap (2 * (k : Int)) = 2 * (k : Int) := IntWalk.i64_in _ (by omega)
                  have j2 : IntKind.i64.wrap (100 + 2 * (k : Int)) = 100 + 2 * (k : Int) := IntWalk.i64_in _ (by omega)
                  have j3 : IntKind.i64.wrap (101 + 2 * (k : Int)) = 101 + 2 * (k : Int) := IntWalk.i64_in _ (by omega)
                  clear hO hsn hB
                  rw [hln] at HO ⊢
                  clear hln
                  go_wp2_with fail
                  refine (K3.out wr).mono ?_
                  rintro e w' ⟨rfl, rfl⟩
                  go_wp2_with (at_builtin; refine wpList_append_src _ rfl (.tmp 58) (.tmp 66) 22 rfl elemE wB.heap.size _ k _ rfl (by first | exact (ownsRow_below (by have h := HO.out; unfold OwnEds at h; rw [HLN.out] at h; exact h) ((Below.refl _ wr).alloc (Nat.le_refl _) _))) (some ⟨wr.heap.size, 0, none⟩) 1 1 [.int .i64 (100 + 2 * (k : Int)), .int .i64 (101 + 2 * (k : Int)), .string ⟨#[]⟩] rfl (row_new (cs := [.int .i64 (100 + 2 * (k : Int)), .int .i64 (101 + 2 * (k : Int)), .string ⟨#[]⟩]) rfl (by decide)) (by simp [Value.oneCell']) (by omega) (by omega) (by simp; omega) ?_; intro v2 w2 hown2 hb2 hgrow)
                  have hO2 : OwnEds w2 wB.heap.size v2 (delL (k + 1)) := by
                    rw [HSN.out]
                    refine OwnEds.snoc ?_
                    rw [HLN.out]
                    exact hown2
                  have hB2 := (HHB.out.alloc hsz _).trans hb2
                  have HO2 := Lib.hid hO2
                  have HB2 := Lib.hid hB2
                  clear hown2 hb2 hO2 hB2 hgrow
                  go_wp2_with fail
                  go_roundw
                  case rel => exact ⟨k + 1, by omega, by go_num, HO2.out, HB2.out⟩
                  case measure => simp [intOf]; omega
                · obtain rfl : k = 28 + r := by omega
                  have d1 : decide (((28 + r : Nat) : Int) < 28 + (r : Int)) = false := decide_eq_false (by omega)
                  have d2 : decide ((28 : Int) + (r : Int) < 28 + (r : Int)) = false := decide_eq_false (by omega)
                  clear hsn hB
                  go_wp2_with fail
                  refine (K3.out wr).mono ?_
                  rintro e w' ⟨rfl, rfl⟩
                  have Cx := delL_x (28 + r)
                  obtain ⟨C, hC⟩ : ∃ C, delL (28 + r) = C := ⟨_, rfl⟩
                  rw [hC] at HO hln Cx ⊢
                  have hCl : C.length ≤ 70 := by omega
                  have HCt := Lib.hid HO.out.eds
                  have HCx := Lib.hid Cx
                  obtain ⟨wC, rfl⟩ : ∃ w', w' = wr := ⟨_, rfl⟩
                  have HCb := Lib.hid HHB.out
                  clear HO HHB hC hln Cx i0 d1 d2 hk hlt
                  go_wp2_with fail
                  have hB0 := Below.step (Below.step HAb.out HBb.out) HCb.out
                  have hB1 := Below.step HBb.out HCb.out
                  have k1 := fun W (hW : Below wC.heap.size wC W) => valid_any s avA cvA A W (by rw [HSS.out]; decide) (HAt.out.below (Below.step hB1 hW))
                  have k2 := fun W (hW : Below wC.heap.size wC W) => rvalid_any s avA cvA A W (by rw [HSS.out]; decide) (HAt.out.below (Below.step hB1 hW))
                  have k3 := fun W (hW : Below wC.heap.size wC W) => Compose_any s avB cvB B avC cvC C W (by rw [HSS.out]; decide) (HBt.out.below (Below.step HCb.out hW)) (HCt.out.below hW) (fun e he => by have := HBx.out e he; omega) (fun e he => by have := HCx.out e he; omega)
                  have k4 := fun W (hW : Below wC.heap.size wC W) => rCompose_any s avB cvB B avC cvC C W (by rw [HSS.out]; decide) (HBt.out.below (Below.step HCb.out hW)) (HCt.out.below hW) (fun e he => by have := HBx.out e he; omega) (fun e he => by have := HCx.out e he; omega) (fun h1 h2 => by
                    have g1 := apply_le (valid_snd h1) HBx.out
                    have g2 := apply_le (valid_snd h2) HCx.out
                    have g3 : s.data.toList.length = 200 := HSS.out
                    omega)
                  have hE1 : (validL (s.size : Int) A == validL (s.size : Int) A) = true := by simp
                  have hE2 : (compE s.data.toList B C == compE s.data.toList B C) = true := by simp
                  generalize validL (s.size : Int) A = E1 at *
                  generalize compE s.data.toList B C = E2 at *
                  generalize compO s.data.toList B C = O2 at *
                  have K4 := Lib.hid k1
                  have K5 := Lib.hid k2
                  have K6 := Lib.hid k3
                  have K7 := Lib.hid k4
                  have HBw := Lib.hid hB0
                  clear k1 k2 k3 k4 hB0 hB1 K1 K2 K3
                  go_wp2_with fail
                  refine (K6.out wC (Below.refl _ _)).mono ?_
                  rintro e w1 ⟨v1, rfl, ho1, hb1⟩
                  obtain ⟨a1, c1, rfl, h1⟩ := ho1.at
                  have H1 := Lib.hid h1
                  clear ho1 h1
                  go_wp2_with fail
                  refine (K7.out w1 hb1).mono ?_
                  rintro e w2 ⟨v2, rfl, ho2, hb2⟩
                  obtain ⟨a2, c2, rfl, h2⟩ := ho2.at
                  have H2 := Lib.hid h2
                  have hB2 := Below.step hb1 hb2
                  clear ho2 h2
                  go_wp2_with fail
                  refine (K4.out w2 hB2).mono ?_
                  rintro e w3 ⟨rfl, hb3⟩
                  have hB3 := Below.step hB2 hb3
                  go_wp2_with fail
                  refine (K5.out w3 hB3).mono ?_
                  rintro e w4 ⟨rfl, hb4⟩
                  have hB4 := Below.step hB3 hb4
                  have hB24 := Below.step hb3 hb4
                  have KS := Lib.hid (sameEd_any a1 a2 c1 c2 O2 w4 (H1.out.below (Below.step hb2 hB24)) (H2.out.below hB24))
                  clear K4 K5 K6 K7
                  go_wp2_with fail
                  refine KS.out.mono ?_
                  rintro e w5 ⟨rfl, hb5⟩
                  go_wp2_with fail
                  refine (lives_any w5).mono ?_
                  rintro e w6 ⟨rfl, hb6⟩
                  go_wp2_with fail
                  go_ret
                  exact ⟨rfl, Below.step (Below.step (Below.step HBw.out hB4) hb5) hb6⟩
end Go.Proofs.Ytpncjgcdiomloaa
