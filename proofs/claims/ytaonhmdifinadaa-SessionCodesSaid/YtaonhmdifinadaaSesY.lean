/-
  The reference's codes of requests and answers: DecodeRequest, DecodeAnswer.
-/
import Derived.Test.YtaonhmdifinadaaSesW
import Derived.Test.YtaonhmdifinadaaSesX
import Derived.Test.YtaonhmdifinadaaRefR
namespace Go.Proofs.Ytaonhmdifinadaa
open Go Go.Proofs
open Go.RowKit
set_option linter.unusedVariables false
set_option linter.unusedSimpArgs false

theorem Eqv.trans {A B C : RdS} (h : Eqv A B) (k : Eqv B C) : Eqv A C := ⟨h.1.trans k.1, fun hc => (h.2 (k.1.trans hc)).trans (k.2 hc)⟩
theorem intR_err {R : RdS} (h : R.e ≠ 0) : intR R = (unzN 0, R) := by unfold intR; rw [uintR_err h]
theorem rawR_err {R : RdS} (h : R.e ≠ 0) : rawR R = ([], R) := by
  have h1 : lenR R = (0, R) := by
    unfold lenR
    rw [uintR_err h]
    simp
  unfold rawR
  rw [h1]
  simp only
  rw [if_neg h]
theorem Eqv.int {Q R : RdS} (h : Eqv Q R) : (intR Q).1 = (intR R).1 ∧ Eqv (intR Q).2 (intR R).2 := by
  by_cases he : R.e = 0
  · rw [h.eq he]; exact ⟨rfl, Eqv.refl _⟩
  · rw [intR_err he, intR_err (by rw [h.1]; exact he)]; exact ⟨rfl, h⟩
theorem Eqv.raw {Q R : RdS} (h : Eqv Q R) : (rawR Q).1 = (rawR R).1 ∧ Eqv (rawR Q).2 (rawR R).2 := by
  by_cases he : R.e = 0
  · rw [h.eq he]; exact ⟨rfl, Eqv.refl _⟩
  · rw [rawR_err he, rawR_err (by rw [h.1]; exact he)]; exact ⟨rfl, h⟩

set_option maxRecDepth 100000 in
set_option maxHeartbeats 8000000 in
theorem rdeq_any (a : Option Addr) (c : Nat) (bs : List UInt8) (w : World) (hx : SliceAt w a c (bs.map byteV)) (hl : bs.length ≤ 1000000) :
    Calls Try.prog 52 #[.slice a bs.length c] w fun e w' => e = .returned (.tuple #[.agg #[.int .i64 (decRq bs).id, .int .i64 (decRq bs).kind, .string (decRq bs).doc, .int .i64 (decRq bs).ver, .int .i64 (decRq bs).off, .string (decRq bs).txt], .int .i64 (decE (decOk bs))]) ∧ Below w.heap.size w w' := by
  obtain ⟨w1, hw1⟩ : ∃ x, x = w.alloc (.cells #[.int .i64 0, .int .i64 0, .string ⟨#[]⟩, .int .i64 0, .int .i64 0, .string ⟨#[]⟩] 60) := ⟨_, rfl⟩
  obtain ⟨o1, ho1⟩ : ∃ x, newLab w (fun _ => 0) 50 = x := ⟨_, rfl⟩
  have hs1 : Step (fun _ => False) w (fun _ => 0) w1 o1 := by rw [hw1, ← ho1]; exact Step.newBlk _ _ _
  have ht1 : Blk w1 o1 50 w.heap.size [.int .i64 0, .int .i64 0, .string ⟨#[]⟩, .int .i64 0, .int .i64 0, .string ⟨#[]⟩] := by rw [hw1, ← ho1]; exact ⟨_, heap_alloc_new _ _, newLab_new _ _ _ (Nat.le_refl _)⟩
  have hd1 : Dat w1 o1 0 a c (bs.map byteV) := Dat.step ⟨hx, fun _ _ _ _ => rfl⟩ hs1 (fun h => h)
  obtain ⟨w2, hw2⟩ : ∃ x, x = w1.alloc (.cells #[.slice a bs.length c, .int .i64 0] 166) := ⟨_, rfl⟩
  obtain ⟨o2, ho2⟩ : ∃ x, newLab w1 o1 (10 * 2) = x := ⟨_, rfl⟩
  have hs2 : Step (fun _ => False) w1 o1 w2 o2 := by rw [hw2, ← ho2]; exact Step.newBlk _ _ _
  have hR2 : RdAt w2 o2 2 w1.heap.size ⟨bs, 0⟩ := ⟨a, c, by rw [hw2, ← ho2]; exact ⟨_, heap_alloc_new _ _, newLab_new _ _ _ (Nat.le_refl _)⟩, hd1.step hs2 fun h => h⟩
  have hgt1 : w1.heap.size = w.heap.size + 1 := by rw [hw1]; simp
  rw [hgt1] at hR2
  obtain ⟨gt, hgt⟩ : ∃ g, w.heap.size = g := ⟨_, rfl⟩
  rw [hgt] at ht1 hR2
  obtain ⟨b, hbg⟩ : ∃ b, gt + 1 = b := ⟨_, rfl⟩
  rw [hbg] at hR2
  have HT2 := Lib.hid (ht1.step hs2 fun h => h)
  have HS2 := Lib.hid ((hs1.mono (L' := fun x => x ≠ 0) fun _ h => h.elim).trans (hs2.mono fun _ h => h.elim))
  have HW1 := Lib.hid hw1
  have HW2 := Lib.hid hw2
  have HGT := Lib.hid hgt
  have HBG := Lib.hid hbg
  obtain ⟨D, hD⟩ : ∃ D, decRq bs = D := ⟨_, rfl⟩
  obtain ⟨ok, hok⟩ : ∃ x, decOk bs = x := ⟨_, rfl⟩
  rw [hD, hok]
  unfold decRq at hD
  rw [hok] at hD
  unfold decOk at hok
  have HDD := Lib.hid hD
  have HOK := Lib.hid hok
  obtain ⟨R0, hR0⟩ : ∃ R : RdS, (⟨bs, 0⟩ : RdS) = R := ⟨_, rfl⟩
  have hlq0 : R0.bs.length ≤ 1000000 := by rw [← hR0]; exact hl
  obtain ⟨n, hn⟩ : ∃ n, bs.length = n := ⟨_, rfl⟩
  rw [hR0] at hR2 HDD HOK
  have HR2 := Lib.hid hR2
  have HE0 := Lib.hid (Eqv.refl R0)
  obtain ⟨Q0, hQ0⟩ : ∃ Q, Q = R0 := ⟨_, rfl⟩
  rw [← hQ0] at HR2 hlq0
  rw [show Eqv R0 R0 = Eqv Q0 R0 from by rw [hQ0]] at HE0
  have HN := Lib.hid hn
  clear hw1 ho1 hs1 ht1 hd1 hw2 ho2 hs2 hR2 hgt1 hgt hbg hx hD hok hR0 hQ0 hn
  go_enter Try.func52, Try.ntmps52
  go_upto_region 2 with fail
  rw [← HW1.out, ← HW2.out]
  try rw [show w1.heap.size = b from by rw [HW1.out, ← HBG.out, ← HGT.out]; simp]
  try rw [HGT.out]
  try rw [HBG.out]
  clear HW1 HW2
  go_wp2_with fail
  refine (rfInt_any 2 b Q0 w2 o2 (by omega) HR2.out (by omega)).mono ?_
  rintro e wa0 ⟨rfl, hs, Q1, hR, hE, hle⟩
  have hq0 := HE0.out.int
  obtain ⟨v0, hv0⟩ : ∃ v, (intR R0).1 = v := ⟨_, rfl⟩
  obtain ⟨R1, hR1⟩ : ∃ R, (intR R0).2 = R := ⟨_, rfl⟩
  have hlq1 : Q1.bs.length ≤ 1000000 := Nat.le_trans hle hlq0
  rw [hq0.1, hv0]
  have HE1 := Lib.hid (show Eqv Q1 R1 by rw [← hR1]; exact hE.trans hq0.2)
  have HV0 := Lib.hid hv0
  have HRN1 := Lib.hid hR1
  have HRa := Lib.hid hR
  have HTa := Lib.hid (HT2.out.step hs (by unfold Own; omega))
  have HSa := Lib.hid (HS2.out.trans (hs.mono fun l hl e => by unfold Own at hl; omega))
  clear hs hR hv0 hR1 hE hle hq0 HR2 HT2 HS2
  obtain ⟨w3, hw3⟩ : ∃ x, x = wa0.alloc (.cells #[.int .i64 v0, .int .i64 0, .string ⟨#[]⟩, .int .i64 0, .int .i64 0, .string ⟨#[]⟩] 60) := ⟨_, rfl⟩
  obtain ⟨o3, ho3⟩ : ∃ x, newLab wa0 o2 60 = x := ⟨_, rfl⟩
  have hs3 : Step (fun _ => False) wa0 o2 w3 o3 := by rw [hw3, ← ho3]; exact Step.newBlk _ _ _
  have hx3 : Blk w3 o3 60 wa0.heap.size [.int .i64 v0, .int .i64 0, .string ⟨#[]⟩, .int .i64 0, .int .i64 0, .string ⟨#[]⟩] := by rw [hw3, ← ho3]; exact ⟨_, heap_alloc_new _ _, newLab_new _ _ _ (Nat.le_refl _)⟩
  obtain ⟨gx, hgx⟩ : ∃ g, wa0.heap.size = g := ⟨_, rfl⟩
  rw [hgx] at hx3
  have HX3 := Lib.hid hx3
  have HR3 := Lib.hid (HRa.out.step hs3 (fun h => h) fun _ _ h => h)
  have HT3 := Lib.hid (HTa.out.step hs3 fun h => h)
  have HS3 := Lib.hid (HSa.out.trans (hs3.mono fun _ h => h.elim))
  have HW3 := Lib.hid hw3
  have HG3 := Lib.hid hgx
  clear hw3 ho3 hs3 hx3 hgx HRa HTa HSa
  go_upto_region 3 with fail
  rw [← HW3.out, HG3.out]
  go_wp2_with fail
  refine (rfInt_any 2 b Q1 w3 o3 (by omega) HR3.out (by omega)).mono ?_
  rintro e wa1 ⟨rfl, hs, Q2, hR, hE, hle⟩
  have hq1 := HE1.out.int
  obtain ⟨v1, hv1⟩ : ∃ v, (intR R1).1 = v := ⟨_, rfl⟩
  obtain ⟨R2, hR2⟩ : ∃ R, (intR R1).2 = R := ⟨_, rfl⟩
  have hlq2 : Q2.bs.length ≤ 1000000 := Nat.le_trans hle hlq1
  rw [hq1.1, hv1]
  have HE2 := Lib.hid (show Eqv Q2 R2 by rw [← hR2]; exact hE.trans hq1.2)
  have HV1 := Lib.hid hv1
  have HRN2 := Lib.hid hR2
  have hxa := HX3.out.step hs (by unfold Own; omega)
  have xc1 := hxa.cell (j := 1) rfl
  have xf1 := hxa.frozen 1
  have hs' := hxa.setCellStep 1 (.int .i64 v1)
  have hx' := hxa.set 1 (.int .i64 v1)
  obtain ⟨wb1, hwb1⟩ : ∃ x, x = wa1.setCell ⟨gx, 1, none⟩ (.int .i64 v1) := ⟨_, rfl⟩
  rw [← hwb1] at hs' hx'
  have HXb1 := Lib.hid (show Blk wb1 o3 60 gx [.int .i64 v0, .int .i64 v1, .string ⟨#[]⟩, .int .i64 0, .int .i64 0, .string ⟨#[]⟩] from hx')
  have HRb1 := Lib.hid (hR.step hs' (by omega) (fun l h => by unfold Own at h; omega))
  have HTb1 := Lib.hid ((HT3.out.step hs (by unfold Own; omega)).step hs' (by omega))
  have HSb1 := Lib.hid ((HS3.out.trans (hs.mono fun l hl e => by unfold Own at hl; omega)).trans (hs'.mono fun l hl e => by omega))
  have HWb1 := Lib.hid hwb1
  clear hs hR hv1 hR2 hE hle hq1 hxa hs' hx' hwb1 HR3 HT3 HS3 HX3
  go_upto_region 4 with fail
  rw [← HWb1.out]
  clear xc1 xf1 HWb1
  go_wp2_with fail
  refine (rfRaw_any 2 b Q2 wb1 o3 (by omega) HRb1.out (by omega)).mono ?_
  rintro e wa2 ⟨ad2, cc2, rfl, hs, ⟨Q3, hR, hE, hle⟩, hdat⟩
  have hq2 := HE2.out.raw
  rw [hq2.1] at hdat ⊢
  obtain ⟨L2, hL2⟩ : ∃ L, (rawR R2).1 = L := ⟨_, rfl⟩
  obtain ⟨v2, hv2⟩ : ∃ v : ByteArray, (⟨(rawR R2).1.toArray⟩ : ByteArray) = v := ⟨_, rfl⟩
  obtain ⟨R3, hR3⟩ : ∃ R, (rawR R2).2 = R := ⟨_, rfl⟩
  have hlq3 : Q3.bs.length ≤ 1000000 := Nat.le_trans hle hlq2
  have hz2 : v2.size ≤ 1000000 := by rw [← hv2, str_size, ← hq2.1]; exact Nat.le_trans (rawR_le _).2 hlq2
  have HE3 := Lib.hid (show Eqv Q3 R3 by rw [← hR3]; exact hE.trans hq2.2)
  have HV2 := Lib.hid hv2
  have HRN3 := Lib.hid hR3
  have hvL2 : (⟨L2.toArray⟩ : ByteArray) = v2 := by rw [← hL2]; exact hv2
  rw [hL2] at hdat ⊢
  have HDT2 := Lib.hid hdat.slice
  have HVL2 := Lib.hid hvL2
  clear hdat hL2 hvL2
  have hxa := HXb1.out.step hs (by unfold Own; omega)
  have xc2 := hxa.cell (j := 2) rfl
  have xf2 := hxa.frozen 2
  have hs' := hxa.setCellStep 2 (.string v2)
  have hx' := hxa.set 2 (.string v2)
  obtain ⟨wb2, hwb2⟩ : ∃ x, x = wa2.setCell ⟨gx, 2, none⟩ (.string v2) := ⟨_, rfl⟩
  rw [← hwb2] at hs' hx'
  have HXb2 := Lib.hid (show Blk wb2 o3 60 gx [.int .i64 v0, .int .i64 v1, .string v2, .int .i64 0, .int .i64 0, .string ⟨#[]⟩] from hx')
  have HRb2 := Lib.hid (hR.step hs' (by omega) (fun l h => by unfold Own at h; omega))
  have HTb2 := Lib.hid ((HTb1.out.step hs (by unfold Own; omega)).step hs' (by omega))
  have HSb2 := Lib.hid ((HSb1.out.trans (hs.mono fun l hl e => by unfold Own at hl; omega)).trans (hs'.mono fun l hl e => by omega))
  have HWb2 := Lib.hid hwb2
  clear hs hR hv2 hR3 hE hle hq2 hxa hs' hx' hwb2 HRb1 HTb1 HSb1 HXb1
  go_upto_region 5 with (with_reducible refine wpList_string_of _ rfl _ rfl Try.underlying78 Try.underlying5 Try.underlying9 ad2 cc2 L2 rfl HDT2.out ?_; rw [HVL2.out])
  rw [← HWb2.out]
  clear xc2 xf2 HWb2
  go_wp2_with fail
  refine (rfInt_any 2 b Q3 wb2 o3 (by omega) HRb2.out (by omega)).mono ?_
  rintro e wa3 ⟨rfl, hs, Q4, hR, hE, hle⟩
  have hq3 := HE3.out.int
  obtain ⟨v3, hv3⟩ : ∃ v, (intR R3).1 = v := ⟨_, rfl⟩
  obtain ⟨R4, hR4⟩ : ∃ R, (intR R3).2 = R := ⟨_, rfl⟩
  have hlq4 : Q4.bs.length ≤ 1000000 := Nat.le_trans hle hlq3
  rw [hq3.1, hv3]
  have HE4 := Lib.hid (show Eqv Q4 R4 by rw [← hR4]; exact hE.trans hq3.2)
  have HV3 := Lib.hid hv3
  have HRN4 := Lib.hid hR4
  have hxa := HXb2.out.step hs (by unfold Own; omega)
  have xc3 := hxa.cell (j := 3) rfl
  have xf3 := hxa.frozen 3
  have hs' := hxa.setCellStep 3 (.int .i64 v3)
  have hx' := hxa.set 3 (.int .i64 v3)
  obtain ⟨wb3, hwb3⟩ : ∃ x, x = wa3.setCell ⟨gx, 3, none⟩ (.int .i64 v3) := ⟨_, rfl⟩
  rw [← hwb3] at hs' hx'
  have HXb3 := Lib.hid (show Blk wb3 o3 60 gx [.int .i64 v0, .int .i64 v1, .string v2, .int .i64 v3, .int .i64 0, .string ⟨#[]⟩] from hx')
  have HRb3 := Lib.hid (hR.step hs' (by omega) (fun l h => by unfold Own at h; omega))
  have HTb3 := Lib.hid ((HTb2.out.step hs (by unfold Own; omega)).step hs' (by omega))
  have HSb3 := Lib.hid ((HSb2.out.trans (hs.mono fun l hl e => by unfold Own at hl; omega)).trans (hs'.mono fun l hl e => by omega))
  have HWb3 := Lib.hid hwb3
  clear hs hR hv3 hR4 hE hle hq3 hxa hs' hx' hwb3 HRb2 HTb2 HSb2 HXb2
  go_upto_region 6 with fail
  rw [← HWb3.out]
  clear xc3 xf3 HWb3
  go_wp2_with fail
  refine (rfInt_any 2 b Q4 wb3 o3 (by omega) HRb3.out (by omega)).mono ?_
  rintro e wa4 ⟨rfl, hs, Q5, hR, hE, hle⟩
  have hq4 := HE4.out.int
  obtain ⟨v4, hv4⟩ : ∃ v, (intR R4).1 = v := ⟨_, rfl⟩
  obtain ⟨R5, hR5⟩ : ∃ R, (intR R4).2 = R := ⟨_, rfl⟩
  have hlq5 : Q5.bs.length ≤ 1000000 := Nat.le_trans hle hlq4
  rw [hq4.1, hv4]
  have HE5 := Lib.hid (show Eqv Q5 R5 by rw [← hR5]; exact hE.trans hq4.2)
  have HV4 := Lib.hid hv4
  have HRN5 := Lib.hid hR5
  have hxa := HXb3.out.step hs (by unfold Own; omega)
  have xc4 := hxa.cell (j := 4) rfl
  have xf4 := hxa.frozen 4
  have hs' := hxa.setCellStep 4 (.int .i64 v4)
  have hx' := hxa.set 4 (.int .i64 v4)
  obtain ⟨wb4, hwb4⟩ : ∃ x, x = wa4.setCell ⟨gx, 4, none⟩ (.int .i64 v4) := ⟨_, rfl⟩
  rw [← hwb4] at hs' hx'
  have HXb4 := Lib.hid (show Blk wb4 o3 60 gx [.int .i64 v0, .int .i64 v1, .string v2, .int .i64 v3, .int .i64 v4, .string ⟨#[]⟩] from hx')
  have HRb4 := Lib.hid (hR.step hs' (by omega) (fun l h => by unfold Own at h; omega))
  have HTb4 := Lib.hid ((HTb3.out.step hs (by unfold Own; omega)).step hs' (by omega))
  have HSb4 := Lib.hid ((HSb3.out.trans (hs.mono fun l hl e => by unfold Own at hl; omega)).trans (hs'.mono fun l hl e => by omega))
  have HWb4 := Lib.hid hwb4
  clear hs hR hv4 hR5 hE hle hq4 hxa hs' hx' hwb4 HRb3 HTb3 HSb3 HXb3
  go_upto_region 7 with fail
  rw [← HWb4.out]
  clear xc4 xf4 HWb4
  go_wp2_with fail
  refine (rfRaw_any 2 b Q5 wb4 o3 (by omega) HRb4.out (by omega)).mono ?_
  rintro e wa5 ⟨ad5, cc5, rfl, hs, ⟨Q6, hR, hE, hle⟩, hdat⟩
  have hq5 := HE5.out.raw
  rw [hq5.1] at hdat ⊢
  obtain ⟨L5, hL5⟩ : ∃ L, (rawR R5).1 = L := ⟨_, rfl⟩
  obtain ⟨v5, hv5⟩ : ∃ v : ByteArray, (⟨(rawR R5).1.toArray⟩ : ByteArray) = v := ⟨_, rfl⟩
  obtain ⟨R6, hR6⟩ : ∃ R, (rawR R5).2 = R := ⟨_, rfl⟩
  have hlq6 : Q6.bs.length ≤ 1000000 := Nat.le_trans hle hlq5
  have hz5 : v5.size ≤ 1000000 := by rw [← hv5, str_size, ← hq5.1]; exact Nat.le_trans (rawR_le _).2 hlq5
  have HE6 := Lib.hid (show Eqv Q6 R6 by rw [← hR6]; exact hE.trans hq5.2)
  have HV5 := Lib.hid hv5
  have HRN6 := Lib.hid hR6
  have hvL5 : (⟨L5.toArray⟩ : ByteArray) = v5 := by rw [← hL5]; exact hv5
  rw [hL5] at hdat ⊢
  have HDT5 := Lib.hid hdat.slice
  have HVL5 := Lib.hid hvL5
  clear hdat hL5 hvL5
  have hxa := HXb4.out.step hs (by unfold Own; omega)
  have xc5 := hxa.cell (j := 5) rfl
  have xf5 := hxa.frozen 5
  have hs' := hxa.setCellStep 5 (.string v5)
  have hx' := hxa.set 5 (.string v5)
  obtain ⟨wb5, hwb5⟩ : ∃ x, x = wa5.setCell ⟨gx, 5, none⟩ (.string v5) := ⟨_, rfl⟩
  rw [← hwb5] at hs' hx'
  have HXb5 := Lib.hid (show Blk wb5 o3 60 gx [.int .i64 v0, .int .i64 v1, .string v2, .int .i64 v3, .int .i64 v4, .string v5] from hx')
  have HRb5 := Lib.hid (hR.step hs' (by omega) (fun l h => by unfold Own at h; omega))
  have HTb5 := Lib.hid ((HTb4.out.step hs (by unfold Own; omega)).step hs' (by omega))
  have HSb5 := Lib.hid ((HSb4.out.trans (hs.mono fun l hl e => by unfold Own at hl; omega)).trans (hs'.mono fun l hl e => by omega))
  have HWb5 := Lib.hid hwb5
  clear hs hR hv5 hR6 hE hle hq5 hxa hs' hx' hwb5 HRb4 HTb4 HSb4 HXb4
  go_upto_region 8 with (with_reducible refine wpList_string_of _ rfl _ rfl Try.underlying78 Try.underlying5 Try.underlying9 ad5 cc5 L5 rfl HDT5.out ?_; rw [HVL5.out])
  rw [← HWb5.out]
  clear xc5 xf5 HWb5
  have e1 : rq1 R0 = R1 := HRN1.out
  have e2 : rq2 R0 = R2 := by
    show (intR (rq1 R0)).2 = R2
    rw [e1]
    exact HRN2.out
  have e3 : rq3 R0 = R3 := by
    show (rawR (rq2 R0)).2 = R3
    rw [e2]
    exact HRN3.out
  have e4 : rq4 R0 = R4 := by
    show (intR (rq3 R0)).2 = R4
    rw [e3]
    exact HRN4.out
  have e5 : rq5 R0 = R5 := by
    show (intR (rq4 R0)).2 = R5
    rw [e4]
    exact HRN5.out
  have e6 : rq6 R0 = R6 := by
    show (rawR (rq5 R0)).2 = R6
    rw [e5]
    exact HRN6.out
  have ed : rdRq R0 = ⟨v0, v1, v2, v3, v4, v5⟩ := by
    unfold rdRq
    rw [e1, e2, e3, e4, e5, HV0.out, HV1.out, HV2.out, HV3.out, HV4.out, HV5.out]
  have hcond : (decide (endR R6 = 0) && okR ⟨v0, v1, v2, v3, v4, v5⟩) = ok := by
    rw [← HOK.out, ed, e6]
  have hval : ok = true → D = ⟨v0, v1, v2, v3, v4, v5⟩ := by
    intro h
    rw [← HDD.out, if_pos h, ed]
  clear ed e1 e2 e3 e4 e5 e6
  have hno : ok = false → D = zeroR := by
    intro h
    rw [← HDD.out, if_neg (by rw [h]; decide)]
  have HC := Lib.hid hcond
  have HV := Lib.hid hval
  have HNO := Lib.hid hno
  clear hcond hval hno HDD HOK
  have x0 := HXb5.out.cell (j := 0) rfl
  have x1 := HXb5.out.cell (j := 1) rfl
  have x2 := HXb5.out.cell (j := 2) rfl
  have x3 := HXb5.out.cell (j := 3) rfl
  have x4 := HXb5.out.cell (j := 4) rfl
  have x5 := HXb5.out.cell (j := 5) rfl
  obtain ⟨okv, hokv⟩ : ∃ x, okR ⟨v0, v1, v2, v3, v4, v5⟩ = x := ⟨_, rfl⟩
  have kv := rok_any ⟨v0, v1, v2, v3, v4, v5⟩ wb5 (by simp only; omega) (by simp only; omega)
  rw [hokv] at kv HC
  have KV := Lib.hid kv
  clear kv hokv
  go_wp2_with fail
  refine KV.out.mono ?_
  rintro e w10 ⟨rfl, hb10⟩
  have HT10 := Lib.hid (HTb5.out.step (Step.same (L := fun _ => False) hb10) fun h => h)
  have HS10 := Lib.hid (HSb5.out.trans (Step.same hb10))
  have HX10 := Lib.hid (HXb5.out.step (Step.same (L := fun _ => False) hb10) fun h => h)
  have HR10 := Lib.hid (HRb5.out.step (Step.same (L := fun _ => False) hb10) (fun h => h) fun _ _ h => h)
  clear hb10 x0 x1 x2 x3 x4 x5 KV HTb5 HSb5 HXb5 HRb5
  go_wp2_with fail
  refine (rfEnd_any 2 b Q6 w10 o3 HR10.out).mono ?_
  rintro e w9 ⟨rfl, rfl⟩
  rw [HE6.out.endR]
  obtain ⟨E, hE⟩ : ∃ E, endR R6 = E := ⟨_, rfl⟩
  rw [hE] at HC ⊢
  clear hE
  by_cases hE0 : E = 0
  · subst hE0
    have hC := HC.out
    rw [decide_eq_true rfl, Bool.true_and] at hC
    subst hC
    cases okv with
    | true =>
      have hD := HV.out rfl
      have hgg : gt ≠ gx := fun e => by
        have h1 := HT10.out.lab
        have h2 := HX10.out.lab
        rw [e, h2] at h1
        omega
      have hgg' : gx ≠ gt := fun e => hgg e.symm
      have x0 := HX10.out.cell (j := 0) rfl
      have x1 := HX10.out.cell (j := 1) rfl
      have x2 := HX10.out.cell (j := 2) rfl
      have x3 := HX10.out.cell (j := 3) rfl
      have x4 := HX10.out.cell (j := 4) rfl
      have x5 := HX10.out.cell (j := 5) rfl
      have HD := Lib.hid hD
      clear hD
      obtain ⟨hsq, hbq⟩ := HT10.out.put6 (.int .i64 v0) (.int .i64 v1) (.string v2) (.int .i64 v3) (.int .i64 v4) (.string v5)
      have HSQ := Lib.hid (HS10.out.trans (hsq.mono fun l hl e => by omega))
      have HBQ := Lib.hid hbq
      have t0 := HT10.out.cell (j := 0) rfl
      have u0 := HT10.out.frozen 0
      have t1 := HT10.out.cell (j := 1) rfl
      have u1 := HT10.out.frozen 1
      have t2 := HT10.out.cell (j := 2) rfl
      have u2 := HT10.out.frozen 2
      have t3 := HT10.out.cell (j := 3) rfl
      have u3 := HT10.out.frozen 3
      have t4 := HT10.out.cell (j := 4) rfl
      have u4 := HT10.out.frozen 4
      have t5 := HT10.out.cell (j := 5) rfl
      have u5 := HT10.out.frozen 5
      clear hsq hbq
      go_wp2_with fail
      obtain ⟨tz, hz, _⟩ := HBQ.out
      exact bodyPost_ret (results_cell_two (fn := Try.f52) (p := 2) (u := 3) rfl _ _ _ _ _ _ _ rfl hz rfl rfl rfl) rfl ⟨by rw [HD.out]; rfl, by rw [HGT.out]; exact HSQ.out.toBelow (by rw [HGT.out]; exact Nat.le_refl _) fun k _ h => h rfl⟩
    | false =>
      have hD := HNO.out rfl
      have HD := Lib.hid hD
      clear hD
      obtain ⟨hsq, hbq⟩ := HT10.out.put6 (.int .i64 0) (.int .i64 0) (.string ⟨#[]⟩) (.int .i64 0) (.int .i64 0) (.string ⟨#[]⟩)
      have HSQ := Lib.hid (HS10.out.trans (hsq.mono fun l hl e => by omega))
      have HBQ := Lib.hid hbq
      have t0 := HT10.out.cell (j := 0) rfl
      have u0 := HT10.out.frozen 0
      have t1 := HT10.out.cell (j := 1) rfl
      have u1 := HT10.out.frozen 1
      have t2 := HT10.out.cell (j := 2) rfl
      have u2 := HT10.out.frozen 2
      have t3 := HT10.out.cell (j := 3) rfl
      have u3 := HT10.out.frozen 3
      have t4 := HT10.out.cell (j := 4) rfl
      have u4 := HT10.out.frozen 4
      have t5 := HT10.out.cell (j := 5) rfl
      have u5 := HT10.out.frozen 5
      clear hsq hbq
      go_wp2_with fail
      obtain ⟨tz, hz, _⟩ := HBQ.out
      exact bodyPost_ret (results_cell_two (fn := Try.f52) (p := 2) (u := 3) rfl _ _ _ _ _ _ _ rfl hz rfl rfl rfl) rfl ⟨by rw [HD.out]; rfl, by rw [HGT.out]; exact HSQ.out.toBelow (by rw [HGT.out]; exact Nat.le_refl _) fun k _ h => h rfl⟩
  · have hb1 : ((E : Int) != 0) = true := by simp; omega
    have hok : ok = false := by
      rw [← HC.out, decide_eq_false hE0, Bool.false_and]
    subst hok
    have hD := HNO.out rfl
    have HD := Lib.hid hD
    clear hD
    obtain ⟨hsq, hbq⟩ := HT10.out.put6 (.int .i64 0) (.int .i64 0) (.string ⟨#[]⟩) (.int .i64 0) (.int .i64 0) (.string ⟨#[]⟩)
    have HSQ := Lib.hid (HS10.out.trans (hsq.mono fun l hl e => by omega))
    have HBQ := Lib.hid hbq
    have t0 := HT10.out.cell (j := 0) rfl
    have u0 := HT10.out.frozen 0
    have t1 := HT10.out.cell (j := 1) rfl
    have u1 := HT10.out.frozen 1
    have t2 := HT10.out.cell (j := 2) rfl
    have u2 := HT10.out.frozen 2
    have t3 := HT10.out.cell (j := 3) rfl
    have u3 := HT10.out.frozen 3
    have t4 := HT10.out.cell (j := 4) rfl
    have u4 := HT10.out.frozen 4
    have t5 := HT10.out.cell (j := 5) rfl
    have u5 := HT10.out.frozen 5
    clear hsq hbq
    go_wp2_with fail
    obtain ⟨tz, hz, _⟩ := HBQ.out
    exact bodyPost_ret (results_cell_two (fn := Try.f52) (p := 2) (u := 3) rfl _ _ _ _ _ _ _ rfl hz rfl rfl rfl) rfl ⟨by rw [HD.out]; rfl, by rw [HGT.out]; exact HSQ.out.toBelow (by rw [HGT.out]; exact Nat.le_refl _) fun k _ h => h rfl⟩

set_option maxRecDepth 100000 in
set_option maxHeartbeats 8000000 in
theorem rdea_any (a : Option Addr) (c : Nat) (bs : List UInt8) (w : World) (hx : SliceAt w a c (bs.map byteV)) (hl : bs.length ≤ 1000000) :
    Calls Try.prog 54 #[.slice a bs.length c] w fun e w' => e = .returned (.tuple #[.agg #[.int .i64 (decAn bs).id, .int .i64 (decAn bs).err, .int .i64 (decAn bs).ver, .string (decAn bs).txt], .int .i64 (decE (adecOk bs))]) ∧ Below w.heap.size w w' := by
  obtain ⟨w1, hw1⟩ : ∃ x, x = w.alloc (.cells #[.int .i64 0, .int .i64 0, .int .i64 0, .string ⟨#[]⟩] 84) := ⟨_, rfl⟩
  obtain ⟨o1, ho1⟩ : ∃ x, newLab w (fun _ => 0) 50 = x := ⟨_, rfl⟩
  have hs1 : Step (fun _ => False) w (fun _ => 0) w1 o1 := by rw [hw1, ← ho1]; exact Step.newBlk _ _ _
  have ht1 : Blk w1 o1 50 w.heap.size [.int .i64 0, .int .i64 0, .int .i64 0, .string ⟨#[]⟩] := by rw [hw1, ← ho1]; exact ⟨_, heap_alloc_new _ _, newLab_new _ _ _ (Nat.le_refl _)⟩
  have hd1 : Dat w1 o1 0 a c (bs.map byteV) := Dat.step ⟨hx, fun _ _ _ _ => rfl⟩ hs1 (fun h => h)
  obtain ⟨w2, hw2⟩ : ∃ x, x = w1.alloc (.cells #[.slice a bs.length c, .int .i64 0] 166) := ⟨_, rfl⟩
  obtain ⟨o2, ho2⟩ : ∃ x, newLab w1 o1 (10 * 2) = x := ⟨_, rfl⟩
  have hs2 : Step (fun _ => False) w1 o1 w2 o2 := by rw [hw2, ← ho2]; exact Step.newBlk _ _ _
  have hR2 : RdAt w2 o2 2 w1.heap.size ⟨bs, 0⟩ := ⟨a, c, by rw [hw2, ← ho2]; exact ⟨_, heap_alloc_new _ _, newLab_new _ _ _ (Nat.le_refl _)⟩, hd1.step hs2 fun h => h⟩
  have hgt1 : w1.heap.size = w.heap.size + 1 := by rw [hw1]; simp
  rw [hgt1] at hR2
  obtain ⟨gt, hgt⟩ : ∃ g, w.heap.size = g := ⟨_, rfl⟩
  rw [hgt] at ht1 hR2
  obtain ⟨b, hbg⟩ : ∃ b, gt + 1 = b := ⟨_, rfl⟩
  rw [hbg] at hR2
  have HT2 := Lib.hid (ht1.step hs2 fun h => h)
  have HS2 := Lib.hid ((hs1.mono (L' := fun x => x ≠ 0) fun _ h => h.elim).trans (hs2.mono fun _ h => h.elim))
  have HW1 := Lib.hid hw1
  have HW2 := Lib.hid hw2
  have HGT := Lib.hid hgt
  have HBG := Lib.hid hbg
  obtain ⟨D, hD⟩ : ∃ D, decAn bs = D := ⟨_, rfl⟩
  obtain ⟨ok, hok⟩ : ∃ x, adecOk bs = x := ⟨_, rfl⟩
  rw [hD, hok]
  unfold decAn at hD
  rw [hok] at hD
  unfold adecOk at hok
  have HDD := Lib.hid hD
  have HOK := Lib.hid hok
  obtain ⟨R0, hR0⟩ : ∃ R : RdS, (⟨bs, 0⟩ : RdS) = R := ⟨_, rfl⟩
  have hlq0 : R0.bs.length ≤ 1000000 := by rw [← hR0]; exact hl
  obtain ⟨n, hn⟩ : ∃ n, bs.length = n := ⟨_, rfl⟩
  rw [hR0] at hR2 HDD HOK
  have HR2 := Lib.hid hR2
  have HE0 := Lib.hid (Eqv.refl R0)
  obtain ⟨Q0, hQ0⟩ : ∃ Q, Q = R0 := ⟨_, rfl⟩
  rw [← hQ0] at HR2 hlq0
  rw [show Eqv R0 R0 = Eqv Q0 R0 from by rw [hQ0]] at HE0
  have HN := Lib.hid hn
  clear hw1 ho1 hs1 ht1 hd1 hw2 ho2 hs2 hR2 hgt1 hgt hbg hx hD hok hR0 hQ0 hn
  go_enter Try.func54, Try.ntmps54
  go_upto_region 2 with fail
  rw [← HW1.out, ← HW2.out]
  try rw [show w1.heap.size = b from by rw [HW1.out, ← HBG.out, ← HGT.out]; simp]
  try rw [HGT.out]
  try rw [HBG.out]
  clear HW1 HW2
  go_wp2_with fail
  refine (rfInt_any 2 b Q0 w2 o2 (by omega) HR2.out (by omega)).mono ?_
  rintro e wa0 ⟨rfl, hs, Q1, hR, hE, hle⟩
  have hq0 := HE0.out.int
  obtain ⟨v0, hv0⟩ : ∃ v, (intR R0).1 = v := ⟨_, rfl⟩
  obtain ⟨R1, hR1⟩ : ∃ R, (intR R0).2 = R := ⟨_, rfl⟩
  have hlq1 : Q1.bs.length ≤ 1000000 := Nat.le_trans hle hlq0
  rw [hq0.1, hv0]
  have HE1 := Lib.hid (show Eqv Q1 R1 by rw [← hR1]; exact hE.trans hq0.2)
  have HV0 := Lib.hid hv0
  have HRN1 := Lib.hid hR1
  have HRa := Lib.hid hR
  have HTa := Lib.hid (HT2.out.step hs (by unfold Own; omega))
  have HSa := Lib.hid (HS2.out.trans (hs.mono fun l hl e => by unfold Own at hl; omega))
  clear hs hR hv0 hR1 hE hle hq0 HR2 HT2 HS2
  obtain ⟨w3, hw3⟩ : ∃ x, x = wa0.alloc (.cells #[.int .i64 v0, .int .i64 0, .int .i64 0, .string ⟨#[]⟩] 84) := ⟨_, rfl⟩
  obtain ⟨o3, ho3⟩ : ∃ x, newLab wa0 o2 60 = x := ⟨_, rfl⟩
  have hs3 : Step (fun _ => False) wa0 o2 w3 o3 := by rw [hw3, ← ho3]; exact Step.newBlk _ _ _
  have hx3 : Blk w3 o3 60 wa0.heap.size [.int .i64 v0, .int .i64 0, .int .i64 0, .string ⟨#[]⟩] := by rw [hw3, ← ho3]; exact ⟨_, heap_alloc_new _ _, newLab_new _ _ _ (Nat.le_refl _)⟩
  obtain ⟨gx, hgx⟩ : ∃ g, wa0.heap.size = g := ⟨_, rfl⟩
  rw [hgx] at hx3
  have HX3 := Lib.hid hx3
  have HR3 := Lib.hid (HRa.out.step hs3 (fun h => h) fun _ _ h => h)
  have HT3 := Lib.hid (HTa.out.step hs3 fun h => h)
  have HS3 := Lib.hid (HSa.out.trans (hs3.mono fun _ h => h.elim))
  have HW3 := Lib.hid hw3
  have HG3 := Lib.hid hgx
  clear hw3 ho3 hs3 hx3 hgx HRa HTa HSa
  go_upto_region 3 with fail
  rw [← HW3.out, HG3.out]
  go_wp2_with fail
  refine (rfInt_any 2 b Q1 w3 o3 (by omega) HR3.out (by omega)).mono ?_
  rintro e wa1 ⟨rfl, hs, Q2, hR, hE, hle⟩
  have hq1 := HE1.out.int
  obtain ⟨v1, hv1⟩ : ∃ v, (intR R1).1 = v := ⟨_, rfl⟩
  obtain ⟨R2, hR2⟩ : ∃ R, (intR R1).2 = R := ⟨_, rfl⟩
  have hlq2 : Q2.bs.length ≤ 1000000 := Nat.le_trans hle hlq1
  rw [hq1.1, hv1]
  have HE2 := Lib.hid (show Eqv Q2 R2 by rw [← hR2]; exact hE.trans hq1.2)
  have HV1 := Lib.hid hv1
  have HRN2 := Lib.hid hR2
  have hxa := HX3.out.step hs (by unfold Own; omega)
  have xc1 := hxa.cell (j := 1) rfl
  have xf1 := hxa.frozen 1
  have hs' := hxa.setCellStep 1 (.int .i64 v1)
  have hx' := hxa.set 1 (.int .i64 v1)
  obtain ⟨wb1, hwb1⟩ : ∃ x, x = wa1.setCell ⟨gx, 1, none⟩ (.int .i64 v1) := ⟨_, rfl⟩
  rw [← hwb1] at hs' hx'
  have HXb1 := Lib.hid (show Blk wb1 o3 60 gx [.int .i64 v0, .int .i64 v1, .int .i64 0, .string ⟨#[]⟩] from hx')
  have HRb1 := Lib.hid (hR.step hs' (by omega) (fun l h => by unfold Own at h; omega))
  have HTb1 := Lib.hid ((HT3.out.step hs (by unfold Own; omega)).step hs' (by omega))
  have HSb1 := Lib.hid ((HS3.out.trans (hs.mono fun l hl e => by unfold Own at hl; omega)).trans (hs'.mono fun l hl e => by omega))
  have HWb1 := Lib.hid hwb1
  clear hs hR hv1 hR2 hE hle hq1 hxa hs' hx' hwb1 HR3 HT3 HS3 HX3
  go_upto_region 4 with fail
  rw [← HWb1.out]
  clear xc1 xf1 HWb1
  go_wp2_with fail
  refine (rfInt_any 2 b Q2 wb1 o3 (by omega) HRb1.out (by omega)).mono ?_
  rintro e wa2 ⟨rfl, hs, Q3, hR, hE, hle⟩
  have hq2 := HE2.out.int
  obtain ⟨v2, hv2⟩ : ∃ v, (intR R2).1 = v := ⟨_, rfl⟩
  obtain ⟨R3, hR3⟩ : ∃ R, (intR R2).2 = R := ⟨_, rfl⟩
  have hlq3 : Q3.bs.length ≤ 1000000 := Nat.le_trans hle hlq2
  rw [hq2.1, hv2]
  have HE3 := Lib.hid (show Eqv Q3 R3 by rw [← hR3]; exact hE.trans hq2.2)
  have HV2 := Lib.hid hv2
  have HRN3 := Lib.hid hR3
  have hxa := HXb1.out.step hs (by unfold Own; omega)
  have xc2 := hxa.cell (j := 2) rfl
  have xf2 := hxa.frozen 2
  have hs' := hxa.setCellStep 2 (.int .i64 v2)
  have hx' := hxa.set 2 (.int .i64 v2)
  obtain ⟨wb2, hwb2⟩ : ∃ x, x = wa2.setCell ⟨gx, 2, none⟩ (.int .i64 v2) := ⟨_, rfl⟩
  rw [← hwb2] at hs' hx'
  have HXb2 := Lib.hid (show Blk wb2 o3 60 gx [.int .i64 v0, .int .i64 v1, .int .i64 v2, .string ⟨#[]⟩] from hx')
  have HRb2 := Lib.hid (hR.step hs' (by omega) (fun l h => by unfold Own at h; omega))
  have HTb2 := Lib.hid ((HTb1.out.step hs (by unfold Own; omega)).step hs' (by omega))
  have HSb2 := Lib.hid ((HSb1.out.trans (hs.mono fun l hl e => by unfold Own at hl; omega)).trans (hs'.mono fun l hl e => by omega))
  have HWb2 := Lib.hid hwb2
  clear hs hR hv2 hR3 hE hle hq2 hxa hs' hx' hwb2 HRb1 HTb1 HSb1 HXb1
  go_upto_region 5 with fail
  rw [← HWb2.out]
  clear xc2 xf2 HWb2
  go_wp2_with fail
  refine (rfRaw_any 2 b Q3 wb2 o3 (by omega) HRb2.out (by omega)).mono ?_
  rintro e wa3 ⟨ad3, cc3, rfl, hs, ⟨Q4, hR, hE, hle⟩, hdat⟩
  have hq3 := HE3.out.raw
  rw [hq3.1] at hdat ⊢
  obtain ⟨L3, hL3⟩ : ∃ L, (rawR R3).1 = L := ⟨_, rfl⟩
  obtain ⟨v3, hv3⟩ : ∃ v : ByteArray, (⟨(rawR R3).1.toArray⟩ : ByteArray) = v := ⟨_, rfl⟩
  obtain ⟨R4, hR4⟩ : ∃ R, (rawR R3).2 = R := ⟨_, rfl⟩
  have hlq4 : Q4.bs.length ≤ 1000000 := Nat.le_trans hle hlq3
  have hz3 : v3.size ≤ 1000000 := by rw [← hv3, str_size, ← hq3.1]; exact Nat.le_trans (rawR_le _).2 hlq3
  have HE4 := Lib.hid (show Eqv Q4 R4 by rw [← hR4]; exact hE.trans hq3.2)
  have HV3 := Lib.hid hv3
  have HRN4 := Lib.hid hR4
  have hvL3 : (⟨L3.toArray⟩ : ByteArray) = v3 := by rw [← hL3]; exact hv3
  rw [hL3] at hdat ⊢
  have HDT3 := Lib.hid hdat.slice
  have HVL3 := Lib.hid hvL3
  clear hdat hL3 hvL3
  have hxa := HXb2.out.step hs (by unfold Own; omega)
  have xc3 := hxa.cell (j := 3) rfl
  have xf3 := hxa.frozen 3
  have hs' := hxa.setCellStep 3 (.string v3)
  have hx' := hxa.set 3 (.string v3)
  obtain ⟨wb3, hwb3⟩ : ∃ x, x = wa3.setCell ⟨gx, 3, none⟩ (.string v3) := ⟨_, rfl⟩
  rw [← hwb3] at hs' hx'
  have HXb3 := Lib.hid (show Blk wb3 o3 60 gx [.int .i64 v0, .int .i64 v1, .int .i64 v2, .string v3] from hx')
  have HRb3 := Lib.hid (hR.step hs' (by omega) (fun l h => by unfold Own at h; omega))
  have HTb3 := Lib.hid ((HTb2.out.step hs (by unfold Own; omega)).step hs' (by omega))
  have HSb3 := Lib.hid ((HSb2.out.trans (hs.mono fun l hl e => by unfold Own at hl; omega)).trans (hs'.mono fun l hl e => by omega))
  have HWb3 := Lib.hid hwb3
  clear hs hR hv3 hR4 hE hle hq3 hxa hs' hx' hwb3 HRb2 HTb2 HSb2 HXb2
  go_upto_region 6 with (with_reducible refine wpList_string_of _ rfl _ rfl Try.underlying78 Try.underlying5 Try.underlying9 ad3 cc3 L3 rfl HDT3.out ?_; rw [HVL3.out])
  rw [← HWb3.out]
  clear xc3 xf3 HWb3
  have e1 : rq1 R0 = R1 := HRN1.out
  have e2 : rq2 R0 = R2 := by
    show (intR (rq1 R0)).2 = R2
    rw [e1]
    exact HRN2.out
  have e3 : an3 R0 = R3 := by
    show (intR (rq2 R0)).2 = R3
    rw [e2]
    exact HRN3.out
  have e4 : an4 R0 = R4 := by
    show (rawR (an3 R0)).2 = R4
    rw [e3]
    exact HRN4.out
  have ed : rdAn R0 = ⟨v0, v1, v2, v3⟩ := by
    unfold rdAn
    rw [e1, e2, e3, HV0.out, HV1.out, HV2.out, HV3.out]
  have hcond : (decide (endR R4 = 0) && okA ⟨v0, v1, v2, v3⟩) = ok := by
    rw [← HOK.out, ed, e4]
  have hval : ok = true → D = ⟨v0, v1, v2, v3⟩ := by
    intro h
    rw [← HDD.out, if_pos h, ed]
  clear ed e1 e2 e3 e4
  have hno : ok = false → D = zeroA := by
    intro h
    rw [← HDD.out, if_neg (by rw [h]; decide)]
  have HC := Lib.hid hcond
  have HV := Lib.hid hval
  have HNO := Lib.hid hno
  clear hcond hval hno HDD HOK
  have x0 := HXb3.out.cell (j := 0) rfl
  have x1 := HXb3.out.cell (j := 1) rfl
  have x2 := HXb3.out.cell (j := 2) rfl
  have x3 := HXb3.out.cell (j := 3) rfl
  obtain ⟨okv, hokv⟩ : ∃ x, okA ⟨v0, v1, v2, v3⟩ = x := ⟨_, rfl⟩
  have kv := raok_any ⟨v0, v1, v2, v3⟩ wb3 (by simp only; omega)
  rw [hokv] at kv HC
  have KV := Lib.hid kv
  clear kv hokv
  go_wp2_with fail
  refine KV.out.mono ?_
  rintro e w10 ⟨rfl, hb10⟩
  have HT10 := Lib.hid (HTb3.out.step (Step.same (L := fun _ => False) hb10) fun h => h)
  have HS10 := Lib.hid (HSb3.out.trans (Step.same hb10))
  have HX10 := Lib.hid (HXb3.out.step (Step.same (L := fun _ => False) hb10) fun h => h)
  have HR10 := Lib.hid (HRb3.out.step (Step.same (L := fun _ => False) hb10) (fun h => h) fun _ _ h => h)
  clear hb10 x0 x1 x2 x3 KV HTb3 HSb3 HXb3 HRb3
  go_wp2_with fail
  refine (rfEnd_any 2 b Q4 w10 o3 HR10.out).mono ?_
  rintro e w9 ⟨rfl, rfl⟩
  rw [HE4.out.endR]
  obtain ⟨E, hE⟩ : ∃ E, endR R4 = E := ⟨_, rfl⟩
  rw [hE] at HC ⊢
  clear hE
  by_cases hE0 : E = 0
  · subst hE0
    have hC := HC.out
    rw [decide_eq_true rfl, Bool.true_and] at hC
    subst hC
    cases okv with
    | true =>
      have hD := HV.out rfl
      have hgg : gt ≠ gx := fun e => by
        have h1 := HT10.out.lab
        have h2 := HX10.out.lab
        rw [e, h2] at h1
        omega
      have hgg' : gx ≠ gt := fun e => hgg e.symm
      have x0 := HX10.out.cell (j := 0) rfl
      have x1 := HX10.out.cell (j := 1) rfl
      have x2 := HX10.out.cell (j := 2) rfl
      have x3 := HX10.out.cell (j := 3) rfl
      have HD := Lib.hid hD
      clear hD
      obtain ⟨hsq, hbq⟩ := HT10.out.put4 (.int .i64 v0) (.int .i64 v1) (.int .i64 v2) (.string v3)
      have HSQ := Lib.hid (HS10.out.trans (hsq.mono fun l hl e => by omega))
      have HBQ := Lib.hid hbq
      have t0 := HT10.out.cell (j := 0) rfl
      have u0 := HT10.out.frozen 0
      have t1 := HT10.out.cell (j := 1) rfl
      have u1 := HT10.out.frozen 1
      have t2 := HT10.out.cell (j := 2) rfl
      have u2 := HT10.out.frozen 2
      have t3 := HT10.out.cell (j := 3) rfl
      have u3 := HT10.out.frozen 3
      clear hsq hbq
      go_wp2_with fail
      obtain ⟨tz, hz, _⟩ := HBQ.out
      exact bodyPost_ret (results_cell_two (fn := Try.f54) (p := 2) (u := 3) rfl _ _ _ _ _ _ _ rfl hz rfl rfl rfl) rfl ⟨by rw [HD.out]; rfl, by rw [HGT.out]; exact HSQ.out.toBelow (by rw [HGT.out]; exact Nat.le_refl _) fun k _ h => h rfl⟩
    | false =>
      have hD := HNO.out rfl
      have HD := Lib.hid hD
      clear hD
      obtain ⟨hsq, hbq⟩ := HT10.out.put4 (.int .i64 0) (.int .i64 0) (.int .i64 0) (.string ⟨#[]⟩)
      have HSQ := Lib.hid (HS10.out.trans (hsq.mono fun l hl e => by omega))
      have HBQ := Lib.hid hbq
      have t0 := HT10.out.cell (j := 0) rfl
      have u0 := HT10.out.frozen 0
      have t1 := HT10.out.cell (j := 1) rfl
      have u1 := HT10.out.frozen 1
      have t2 := HT10.out.cell (j := 2) rfl
      have u2 := HT10.out.frozen 2
      have t3 := HT10.out.cell (j := 3) rfl
      have u3 := HT10.out.frozen 3
      clear hsq hbq
      go_wp2_with fail
      obtain ⟨tz, hz, _⟩ := HBQ.out
      exact bodyPost_ret (results_cell_two (fn := Try.f54) (p := 2) (u := 3) rfl _ _ _ _ _ _ _ rfl hz rfl rfl rfl) rfl ⟨by rw [HD.out]; rfl, by rw [HGT.out]; exact HSQ.out.toBelow (by rw [HGT.out]; exact Nat.le_refl _) fun k _ h => h rfl⟩
  · have hb1 : ((E : Int) != 0) = true := by simp; omega
    have hok : ok = false := by
      rw [← HC.out, decide_eq_false hE0, Bool.false_and]
    subst hok
    have hD := HNO.out rfl
    have HD := Lib.hid hD
    clear hD
    obtain ⟨hsq, hbq⟩ := HT10.out.put4 (.int .i64 0) (.int .i64 0) (.int .i64 0) (.string ⟨#[]⟩)
    have HSQ := Lib.hid (HS10.out.trans (hsq.mono fun l hl e => by omega))
    have HBQ := Lib.hid hbq
    have t0 := HT10.out.cell (j := 0) rfl
    have u0 := HT10.out.frozen 0
    have t1 := HT10.out.cell (j := 1) rfl
    have u1 := HT10.out.frozen 1
    have t2 := HT10.out.cell (j := 2) rfl
    have u2 := HT10.out.frozen 2
    have t3 := HT10.out.cell (j := 3) rfl
    have u3 := HT10.out.frozen 3
    clear hsq hbq
    go_wp2_with fail
    obtain ⟨tz, hz, _⟩ := HBQ.out
    exact bodyPost_ret (results_cell_two (fn := Try.f54) (p := 2) (u := 3) rfl _ _ _ _ _ _ _ rfl hz rfl rfl rfl) rfl ⟨by rw [HD.out]; rfl, by rw [HGT.out]; exact HSQ.out.toBelow (by rw [HGT.out]; exact Nat.le_refl _) fun k _ h => h rfl⟩

end Go.Proofs.Ytaonhmdifinadaa
