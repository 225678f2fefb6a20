/-
  The codes of package session: DecodeRequest, DecodeAnswer.
-/
import Derived.Test.YtaonhmdifinadaaSesV
import Derived.Test.YtaonhmdifinadaaSesG
import Derived.Deep.DeepCutAuto
import Derived.Deep.CutBlock
namespace Go.Proofs.Ytaonhmdifinadaa
open Go Go.Proofs
open Go.RowKit
set_option linter.unusedVariables false
set_option linter.unusedSimpArgs false

def rq1 (R : RdS) : RdS := (intR R).2
def rq2 (R : RdS) : RdS := (intR (rq1 R)).2
def rq3 (R : RdS) : RdS := (rawR (rq2 R)).2
def rq4 (R : RdS) : RdS := (intR (rq3 R)).2
def rq5 (R : RdS) : RdS := (intR (rq4 R)).2
def rq6 (R : RdS) : RdS := (rawR (rq5 R)).2
def rdRq (R : RdS) : Rq := ⟨(intR R).1, (intR (rq1 R)).1, ⟨(rawR (rq2 R)).1.toArray⟩, (intR (rq3 R)).1, (intR (rq4 R)).1, ⟨(rawR (rq5 R)).1.toArray⟩⟩
def decOk (bs : List UInt8) : Bool := decide (endR (rq6 ⟨bs, 0⟩) = 0) && okR (rdRq ⟨bs, 0⟩)
def decRq (bs : List UInt8) : Rq := if decOk bs = true then rdRq ⟨bs, 0⟩ else zeroR
def decE (ok : Bool) : Int := if ok = true then 0 else 2
def an3 (R : RdS) : RdS := (intR (rq2 R)).2
def an4 (R : RdS) : RdS := (rawR (an3 R)).2
def rdAn (R : RdS) : An := ⟨(intR R).1, (intR (rq1 R)).1, (intR (rq2 R)).1, ⟨(rawR (an3 R)).1.toArray⟩⟩
def adecOk (bs : List UInt8) : Bool := decide (endR (an4 ⟨bs, 0⟩) = 0) && okA (rdAn ⟨bs, 0⟩)
def zeroA : An := ⟨0, 0, 0, ⟨#[]⟩⟩
def decAn (bs : List UInt8) : An := if adecOk bs = true then rdAn ⟨bs, 0⟩ else zeroA

theorem intR_le (R : RdS) : (intR R).2.bs.length ≤ R.bs.length := uintR_len R
theorem rawR_le (R : RdS) : (rawR R).2.bs.length ≤ R.bs.length ∧ (rawR R).1.length ≤ R.bs.length := by
  have h := lenR_len R
  unfold rawR
  split
  · simp only [List.length_drop, List.length_take]; omega
  · exact ⟨h, Nat.zero_le _⟩
theorem str_size (l : List UInt8) : (⟨l.toArray⟩ : ByteArray).size = l.length := by show l.toArray.size = _; simp
theorem Blk.put6 {w : World} {o : Nat → Nat} {l b : Nat} {z0 z1 z2 z3 z4 z5 : Value} (h : Blk w o l b [z0, z1, z2, z3, z4, z5]) (v0 v1 v2 v3 v4 v5 : Value) :
    Step (· = l) w o ((((((w.setCell ⟨b, 0, none⟩ v0).setCell ⟨b, 1, none⟩ v1).setCell ⟨b, 2, none⟩ v2).setCell ⟨b, 3, none⟩ v3).setCell ⟨b, 4, none⟩ v4).setCell ⟨b, 5, none⟩ v5) o ∧
    Blk ((((((w.setCell ⟨b, 0, none⟩ v0).setCell ⟨b, 1, none⟩ v1).setCell ⟨b, 2, none⟩ v2).setCell ⟨b, 3, none⟩ v3).setCell ⟨b, 4, none⟩ v4).setCell ⟨b, 5, none⟩ v5) o l b [v0, v1, v2, v3, v4, v5] := by
  have hl := h.lab
  exact ⟨((((((Step.refl _ w o).set (p := ⟨b, 0, none⟩) hl v0).set (p := ⟨b, 1, none⟩) hl v1).set (p := ⟨b, 2, none⟩) hl v2).set (p := ⟨b, 3, none⟩) hl v3).set (p := ⟨b, 4, none⟩) hl v4).set (p := ⟨b, 5, none⟩) hl v5,
    (((((h.set 0 v0).set 1 v1).set 2 v2).set 3 v3).set 4 v4).set 5 v5⟩
theorem Blk.put4 {w : World} {o : Nat → Nat} {l b : Nat} {z0 z1 z2 z3 : Value} (h : Blk w o l b [z0, z1, z2, z3]) (v0 v1 v2 v3 : Value) :
    Step (· = l) w o ((((w.setCell ⟨b, 0, none⟩ v0).setCell ⟨b, 1, none⟩ v1).setCell ⟨b, 2, none⟩ v2).setCell ⟨b, 3, none⟩ v3) o ∧
    Blk ((((w.setCell ⟨b, 0, none⟩ v0).setCell ⟨b, 1, none⟩ v1).setCell ⟨b, 2, none⟩ v2).setCell ⟨b, 3, none⟩ v3) o l b [v0, v1, v2, v3] := by
  have hl := h.lab
  exact ⟨((((Step.refl _ w o).set (p := ⟨b, 0, none⟩) hl v0).set (p := ⟨b, 1, none⟩) hl v1).set (p := ⟨b, 2, none⟩) hl v2).set (p := ⟨b, 3, none⟩) hl v3,
    (((h.set 0 v0).set 1 v1).set 2 v2).set 3 v3⟩

set_option maxRecDepth 100000 in
set_option maxHeartbeats 8000000 in
theorem deq_any (a : Option Addr) (c : Nat) (bs : List UInt8) (w : World) (hx : SliceAt w a c (bs.map byteV)) (hl : bs.length ≤ 1000000) :
    Calls Try.prog 51 #[.slice a bs.length c] w fun e w' => e = .returned (.tuple #[.agg #[.int .i64 (decRq bs).id, .int .i64 (decRq bs).kind, .string (decRq bs).doc, .int .i64 (decRq bs).ver, .int .i64 (decRq bs).off, .string (decRq bs).txt], .int .i64 (decE (decOk bs))]) ∧ Below w.heap.size w w' := by
  obtain ⟨w1, hw1⟩ : ∃ x, x = w.alloc (.cells #[.int .i64 0, .int .i64 0, .string ⟨#[]⟩, .int .i64 0, .int .i64 0, .string ⟨#[]⟩] 44) := ⟨_, rfl⟩
  obtain ⟨o1, ho1⟩ : ∃ x, newLab w (fun _ => 0) 50 = x := ⟨_, rfl⟩
  have hs1 : Step (fun _ => False) w (fun _ => 0) w1 o1 := by rw [hw1, ← ho1]; exact Step.newBlk _ _ _
  have ht1 : Blk w1 o1 50 w.heap.size [.int .i64 0, .int .i64 0, .string ⟨#[]⟩, .int .i64 0, .int .i64 0, .string ⟨#[]⟩] := by rw [hw1, ← ho1]; exact ⟨_, heap_alloc_new _ _, newLab_new _ _ _ (Nat.le_refl _)⟩
  have hB1 : Below w.heap.size w w1 := by rw [hw1]; exact (Below.refl _ w).alloc (Nat.le_refl _) _
  have HX := Lib.hid (hx.below hB1)
  obtain ⟨gt, hgt⟩ : ∃ g, w.heap.size = g := ⟨_, rfl⟩
  rw [hgt] at ht1
  have HT1 := Lib.hid ht1
  have HS1 := Lib.hid (hs1.mono (L' := fun x => x ≠ 0) fun _ h => h.elim)
  have HW1 := Lib.hid hw1
  obtain ⟨D, hD⟩ : ∃ D, decRq bs = D := ⟨_, rfl⟩
  obtain ⟨ok, hok⟩ : ∃ x, decOk bs = x := ⟨_, rfl⟩
  rw [hD, hok]
  unfold decRq at hD
  rw [hok] at hD
  unfold decOk at hok
  have HDD := Lib.hid hD
  have HOK := Lib.hid hok
  clear hw1 ho1 hs1 ht1 hB1 hx hD hok
  go_enter Try.func51, Try.ntmps51
  go_wp2_with fail
  rw [← HW1.out]
  refine (read_any 1 a c bs w1 o1 (by omega) HX.out (by omega)).mono ?_
  rintro e w2 ⟨b, rfl, o2, hs2, hR2⟩
  obtain ⟨R0, hR0⟩ : ∃ R : RdS, (⟨bs, 0⟩ : RdS) = R := ⟨_, rfl⟩
  have hl0 : R0.bs.length ≤ 1000000 := by rw [← hR0]; exact hl
  rw [hR0] at hR2 HDD HOK
  have HR2 := Lib.hid hR2
  have HT2 := Lib.hid (HT1.out.step hs2 (by unfold Own; omega))
  have HS2 := Lib.hid (HS1.out.trans (hs2.mono fun l hl e => by unfold Own at hl; omega))
  clear hs2 hR2 hR0 HT1 HS1 HW1 HX
  obtain ⟨w3, hw3⟩ : ∃ x, x = w2.alloc (.cells #[.int .i64 0, .int .i64 0, .string ⟨#[]⟩, .int .i64 0, .int .i64 0, .string ⟨#[]⟩] 44) := ⟨_, rfl⟩
  obtain ⟨o3, ho3⟩ : ∃ x, newLab w2 o2 60 = x := ⟨_, rfl⟩
  have hs3 : Step (fun _ => False) w2 o2 w3 o3 := by rw [hw3, ← ho3]; exact Step.newBlk _ _ _
  have hx3 : Blk w3 o3 60 w2.heap.size [.int .i64 0, .int .i64 0, .string ⟨#[]⟩, .int .i64 0, .int .i64 0, .string ⟨#[]⟩] := by rw [hw3, ← ho3]; exact ⟨_, heap_alloc_new _ _, newLab_new _ _ _ (Nat.le_refl _)⟩
  obtain ⟨gx, hgx⟩ : ∃ g, w2.heap.size = g := ⟨_, rfl⟩
  rw [hgx] at hx3
  have HX3 := Lib.hid hx3
  have HR3 := Lib.hid (HR2.out.step hs3 (fun h => h) fun _ _ h => h)
  have HT3 := Lib.hid (HT2.out.step hs3 fun h => h)
  have HS3 := Lib.hid (HS2.out.trans (hs3.mono fun _ h => h.elim))
  have HW3 := Lib.hid hw3
  have HG3 := Lib.hid hgx
  clear hw3 ho3 hs3 hx3 hgx
  go_wp2_with fail
  rw [← HW3.out, HG3.out]
  refine (rint_any 1 b R0 w3 o3 (by omega) HR3.out).mono ?_
  rintro e wa0 ⟨rfl, hs, hR⟩
  obtain ⟨v0, hv0⟩ : ∃ v, (intR R0).1 = v := ⟨_, rfl⟩
  obtain ⟨R1, hR1⟩ : ∃ R, (intR R0).2 = R := ⟨_, rfl⟩
  have hl1 : R1.bs.length ≤ 1000000 := by rw [← hR1]; exact Nat.le_trans (intR_le _) hl0
  rw [hv0]
  rw [hR1] at hR
  have HV0 := Lib.hid hv0
  have HRN1 := Lib.hid hR1
  have hxa := HX3.out.step hs (by unfold Own; omega)
  have xc0 := hxa.cell (j := 0) rfl
  have xf0 := hxa.frozen 0
  have hs' := hxa.setCellStep 0 (.int .i64 v0)
  have hx' := hxa.set 0 (.int .i64 v0)
  obtain ⟨wb0, hwb0⟩ : ∃ x, x = wa0.setCell ⟨gx, 0, none⟩ (.int .i64 v0) := ⟨_, rfl⟩
  rw [← hwb0] at hs' hx'
  have HXb0 := Lib.hid (show Blk wb0 o3 60 gx [.int .i64 v0, .int .i64 0, .string ⟨#[]⟩, .int .i64 0, .int .i64 0, .string ⟨#[]⟩] from hx')
  have HRb0 := Lib.hid (hR.step hs' (by omega) (fun l h => by unfold Own at h; omega))
  have HTb0 := Lib.hid ((HT3.out.step hs (by unfold Own; omega)).step hs' (by omega))
  have HSb0 := Lib.hid ((HS3.out.trans (hs.mono fun l hl e => by unfold Own at hl; omega)).trans (hs'.mono fun l hl e => by omega))
  have HWb0 := Lib.hid hwb0
  clear hs hR hv0 hR1 hxa hs' hx' hwb0 HR3 HT3 HS3 HX3
  go_upto_region 5 with fail
  rw [← HWb0.out]
  clear xc0 xf0 HWb0
  go_wp2_with fail
  refine (rint_any 1 b R1 wb0 o3 (by omega) HRb0.out).mono ?_
  rintro e wa1 ⟨rfl, hs, hR⟩
  obtain ⟨v1, hv1⟩ : ∃ v, (intR R1).1 = v := ⟨_, rfl⟩
  obtain ⟨R2, hR2⟩ : ∃ R, (intR R1).2 = R := ⟨_, rfl⟩
  have hl2 : R2.bs.length ≤ 1000000 := by rw [← hR2]; exact Nat.le_trans (intR_le _) hl1
  rw [hv1]
  rw [hR2] at hR
  have HV1 := Lib.hid hv1
  have HRN2 := Lib.hid hR2
  have hxa := HXb0.out.step hs (by unfold Own; omega)
  have xc1 := hxa.cell (j := 1) rfl
  have xf1 := hxa.frozen 1
  have hs' := hxa.setCellStep 1 (.int .i64 v1)
  have hx' := hxa.set 1 (.int .i64 v1)
  obtain ⟨wb1, hwb1⟩ : ∃ x, x = wa1.setCell ⟨gx, 1, none⟩ (.int .i64 v1) := ⟨_, rfl⟩
  rw [← hwb1] at hs' hx'
  have HXb1 := Lib.hid (show Blk wb1 o3 60 gx [.int .i64 v0, .int .i64 v1, .string ⟨#[]⟩, .int .i64 0, .int .i64 0, .string ⟨#[]⟩] from hx')
  have HRb1 := Lib.hid (hR.step hs' (by omega) (fun l h => by unfold Own at h; omega))
  have HTb1 := Lib.hid ((HTb0.out.step hs (by unfold Own; omega)).step hs' (by omega))
  have HSb1 := Lib.hid ((HSb0.out.trans (hs.mono fun l hl e => by unfold Own at hl; omega)).trans (hs'.mono fun l hl e => by omega))
  have HWb1 := Lib.hid hwb1
  clear hs hR hv1 hR2 hxa hs' hx' hwb1 HRb0 HTb0 HSb0 HXb0
  go_upto_region 6 with fail
  rw [← HWb1.out]
  clear xc1 xf1 HWb1
  go_wp2_with fail
  refine (rtext_any 1 b R2 wb1 o3 (by omega) HRb1.out (by omega)).mono ?_
  rintro e wa2 ⟨rfl, oa2, hs, hR⟩
  obtain ⟨v2, hv2⟩ : ∃ v : ByteArray, (⟨(rawR R2).1.toArray⟩ : ByteArray) = v := ⟨_, rfl⟩
  obtain ⟨R3, hR3⟩ : ∃ R, (rawR R2).2 = R := ⟨_, rfl⟩
  have hl3 : R3.bs.length ≤ 1000000 := by rw [← hR3]; exact Nat.le_trans (rawR_le _).1 hl2
  have hz2 : v2.size ≤ 1000000 := by rw [← hv2, str_size]; exact Nat.le_trans (rawR_le _).2 hl2
  rw [hv2]
  rw [hR3] at hR
  have HV2 := Lib.hid hv2
  have HRN3 := Lib.hid hR3
  have hxa := HXb1.out.step hs (by unfold Own; omega)
  have xc2 := hxa.cell (j := 2) rfl
  have xf2 := hxa.frozen 2
  have hs' := hxa.setCellStep 2 (.string v2)
  have hx' := hxa.set 2 (.string v2)
  obtain ⟨wb2, hwb2⟩ : ∃ x, x = wa2.setCell ⟨gx, 2, none⟩ (.string v2) := ⟨_, rfl⟩
  rw [← hwb2] at hs' hx'
  have HXb2 := Lib.hid (show Blk wb2 oa2 60 gx [.int .i64 v0, .int .i64 v1, .string v2, .int .i64 0, .int .i64 0, .string ⟨#[]⟩] from hx')
  have HRb2 := Lib.hid (hR.step hs' (by omega) (fun l h => by unfold Own at h; omega))
  have HTb2 := Lib.hid ((HTb1.out.step hs (by unfold Own; omega)).step hs' (by omega))
  have HSb2 := Lib.hid ((HSb1.out.trans (hs.mono fun l hl e => by unfold Own at hl; omega)).trans (hs'.mono fun l hl e => by omega))
  have HWb2 := Lib.hid hwb2
  clear hs hR hv2 hR3 hxa hs' hx' hwb2 HRb1 HTb1 HSb1 HXb1
  go_upto_region 7 with fail
  rw [← HWb2.out]
  clear xc2 xf2 HWb2
  go_wp2_with fail
  refine (rint_any 1 b R3 wb2 oa2 (by omega) HRb2.out).mono ?_
  rintro e wa3 ⟨rfl, hs, hR⟩
  obtain ⟨v3, hv3⟩ : ∃ v, (intR R3).1 = v := ⟨_, rfl⟩
  obtain ⟨R4, hR4⟩ : ∃ R, (intR R3).2 = R := ⟨_, rfl⟩
  have hl4 : R4.bs.length ≤ 1000000 := by rw [← hR4]; exact Nat.le_trans (intR_le _) hl3
  rw [hv3]
  rw [hR4] at hR
  have HV3 := Lib.hid hv3
  have HRN4 := Lib.hid hR4
  have hxa := HXb2.out.step hs (by unfold Own; omega)
  have xc3 := hxa.cell (j := 3) rfl
  have xf3 := hxa.frozen 3
  have hs' := hxa.setCellStep 3 (.int .i64 v3)
  have hx' := hxa.set 3 (.int .i64 v3)
  obtain ⟨wb3, hwb3⟩ : ∃ x, x = wa3.setCell ⟨gx, 3, none⟩ (.int .i64 v3) := ⟨_, rfl⟩
  rw [← hwb3] at hs' hx'
  have HXb3 := Lib.hid (show Blk wb3 oa2 60 gx [.int .i64 v0, .int .i64 v1, .string v2, .int .i64 v3, .int .i64 0, .string ⟨#[]⟩] from hx')
  have HRb3 := Lib.hid (hR.step hs' (by omega) (fun l h => by unfold Own at h; omega))
  have HTb3 := Lib.hid ((HTb2.out.step hs (by unfold Own; omega)).step hs' (by omega))
  have HSb3 := Lib.hid ((HSb2.out.trans (hs.mono fun l hl e => by unfold Own at hl; omega)).trans (hs'.mono fun l hl e => by omega))
  have HWb3 := Lib.hid hwb3
  clear hs hR hv3 hR4 hxa hs' hx' hwb3 HRb2 HTb2 HSb2 HXb2
  go_upto_region 8 with fail
  rw [← HWb3.out]
  clear xc3 xf3 HWb3
  go_wp2_with fail
  refine (rint_any 1 b R4 wb3 oa2 (by omega) HRb3.out).mono ?_
  rintro e wa4 ⟨rfl, hs, hR⟩
  obtain ⟨v4, hv4⟩ : ∃ v, (intR R4).1 = v := ⟨_, rfl⟩
  obtain ⟨R5, hR5⟩ : ∃ R, (intR R4).2 = R := ⟨_, rfl⟩
  have hl5 : R5.bs.length ≤ 1000000 := by rw [← hR5]; exact Nat.le_trans (intR_le _) hl4
  rw [hv4]
  rw [hR5] at hR
  have HV4 := Lib.hid hv4
  have HRN5 := Lib.hid hR5
  have hxa := HXb3.out.step hs (by unfold Own; omega)
  have xc4 := hxa.cell (j := 4) rfl
  have xf4 := hxa.frozen 4
  have hs' := hxa.setCellStep 4 (.int .i64 v4)
  have hx' := hxa.set 4 (.int .i64 v4)
  obtain ⟨wb4, hwb4⟩ : ∃ x, x = wa4.setCell ⟨gx, 4, none⟩ (.int .i64 v4) := ⟨_, rfl⟩
  rw [← hwb4] at hs' hx'
  have HXb4 := Lib.hid (show Blk wb4 oa2 60 gx [.int .i64 v0, .int .i64 v1, .string v2, .int .i64 v3, .int .i64 v4, .string ⟨#[]⟩] from hx')
  have HRb4 := Lib.hid (hR.step hs' (by omega) (fun l h => by unfold Own at h; omega))
  have HTb4 := Lib.hid ((HTb3.out.step hs (by unfold Own; omega)).step hs' (by omega))
  have HSb4 := Lib.hid ((HSb3.out.trans (hs.mono fun l hl e => by unfold Own at hl; omega)).trans (hs'.mono fun l hl e => by omega))
  have HWb4 := Lib.hid hwb4
  clear hs hR hv4 hR5 hxa hs' hx' hwb4 HRb3 HTb3 HSb3 HXb3
  go_upto_region 9 with fail
  rw [← HWb4.out]
  clear xc4 xf4 HWb4
  go_wp2_with fail
  refine (rtext_any 1 b R5 wb4 oa2 (by omega) HRb4.out (by omega)).mono ?_
  rintro e wa5 ⟨rfl, oa5, hs, hR⟩
  obtain ⟨v5, hv5⟩ : ∃ v : ByteArray, (⟨(rawR R5).1.toArray⟩ : ByteArray) = v := ⟨_, rfl⟩
  obtain ⟨R6, hR6⟩ : ∃ R, (rawR R5).2 = R := ⟨_, rfl⟩
  have hl6 : R6.bs.length ≤ 1000000 := by rw [← hR6]; exact Nat.le_trans (rawR_le _).1 hl5
  have hz5 : v5.size ≤ 1000000 := by rw [← hv5, str_size]; exact Nat.le_trans (rawR_le _).2 hl5
  rw [hv5]
  rw [hR6] at hR
  have HV5 := Lib.hid hv5
  have HRN6 := Lib.hid hR6
  have hxa := HXb4.out.step hs (by unfold Own; omega)
  have xc5 := hxa.cell (j := 5) rfl
  have xf5 := hxa.frozen 5
  have hs' := hxa.setCellStep 5 (.string v5)
  have hx' := hxa.set 5 (.string v5)
  obtain ⟨wb5, hwb5⟩ : ∃ x, x = wa5.setCell ⟨gx, 5, none⟩ (.string v5) := ⟨_, rfl⟩
  rw [← hwb5] at hs' hx'
  have HXb5 := Lib.hid (show Blk wb5 oa5 60 gx [.int .i64 v0, .int .i64 v1, .string v2, .int .i64 v3, .int .i64 v4, .string v5] from hx')
  have HRb5 := Lib.hid (hR.step hs' (by omega) (fun l h => by unfold Own at h; omega))
  have HTb5 := Lib.hid ((HTb4.out.step hs (by unfold Own; omega)).step hs' (by omega))
  have HSb5 := Lib.hid ((HSb4.out.trans (hs.mono fun l hl e => by unfold Own at hl; omega)).trans (hs'.mono fun l hl e => by omega))
  have HWb5 := Lib.hid hwb5
  clear hs hR hv5 hR6 hxa hs' hx' hwb5 HRb4 HTb4 HSb4 HXb4
  go_upto_region 10 with fail
  rw [← HWb5.out]
  clear xc5 xf5 HWb5
  have e1 : rq1 R0 = R1 := HRN1.out
  have e2 : rq2 R0 = R2 := by
    show (intR (rq1 R0)).2 = R2
    rw [e1]
    exact HRN2.out
  have e3 : rq3 R0 = R3 := by
    show (rawR (rq2 R0)).2 = R3
    rw [e2]
    exact HRN3.out
  have e4 : rq4 R0 = R4 := by
    show (intR (rq3 R0)).2 = R4
    rw [e3]
    exact HRN4.out
  have e5 : rq5 R0 = R5 := by
    show (intR (rq4 R0)).2 = R5
    rw [e4]
    exact HRN5.out
  have e6 : rq6 R0 = R6 := by
    show (rawR (rq5 R0)).2 = R6
    rw [e5]
    exact HRN6.out
  have ed : rdRq R0 = ⟨v0, v1, v2, v3, v4, v5⟩ := by
    unfold rdRq
    rw [e1, e2, e3, e4, e5, HV0.out, HV1.out, HV2.out, HV3.out, HV4.out, HV5.out]
  have hcond : (decide (endR R6 = 0) && okR ⟨v0, v1, v2, v3, v4, v5⟩) = ok := by
    rw [← HOK.out, ed, e6]
  have hval : ok = true → D = ⟨v0, v1, v2, v3, v4, v5⟩ := by
    intro h
    rw [← HDD.out, if_pos h, ed]
  clear ed e1 e2 e3 e4 e5 e6
  have hno : ok = false → D = zeroR := by
    intro h
    rw [← HDD.out, if_neg (by rw [h]; decide)]
  have HC := Lib.hid hcond
  have HV := Lib.hid hval
  have HNO := Lib.hid hno
  clear hcond hval hno HDD HOK
  go_wp2_with fail
  refine (rend_any 1 b R6 wb5 oa5 HRb5.out).mono ?_
  rintro e w9 ⟨rfl, rfl⟩
  obtain ⟨E, hE⟩ : ∃ E, endR R6 = E := ⟨_, rfl⟩
  rw [hE] at HC ⊢
  clear hE
  by_cases hE0 : E = 0
  · subst hE0
    have hC := HC.out
    rw [decide_eq_true rfl, Bool.true_and] at hC
    have x0 := HXb5.out.cell (j := 0) rfl
    have x1 := HXb5.out.cell (j := 1) rfl
    have x2 := HXb5.out.cell (j := 2) rfl
    have x3 := HXb5.out.cell (j := 3) rfl
    have x4 := HXb5.out.cell (j := 4) rfl
    have x5 := HXb5.out.cell (j := 5) rfl
    have kv := rvalid_any ⟨v0, v1, v2, v3, v4, v5⟩ wb5 (by simp only; omega) (by simp only; omega)
    rw [hC] at kv
    have KV := Lib.hid kv
    clear hC kv
    go_wp2_with fail
    refine KV.out.mono ?_
    rintro e w10 ⟨rfl, hb10⟩
    have HT10 := Lib.hid (HTb5.out.step (Step.same (L := fun _ => False) hb10) fun h => h)
    have HS10 := Lib.hid (HSb5.out.trans (Step.same hb10))
    have HX10 := Lib.hid (HXb5.out.step (Step.same (L := fun _ => False) hb10) fun h => h)
    clear hb10 x0 x1 x2 x3 x4 x5
    cases ok with
    | true =>
      have hD := HV.out rfl
      have HD := Lib.hid hD
      clear hD
      have hgg : gt ≠ gx := fun e => by
        have h1 := HT10.out.lab
        have h2 := HX10.out.lab
        rw [e, h2] at h1
        omega
      have hgg' : gx ≠ gt := fun e => hgg e.symm
      have x0 := HX10.out.cell (j := 0) rfl
      have x1 := HX10.out.cell (j := 1) rfl
      have x2 := HX10.out.cell (j := 2) rfl
      have x3 := HX10.out.cell (j := 3) rfl
      have x4 := HX10.out.cell (j := 4) rfl
      have x5 := HX10.out.cell (j := 5) rfl
      obtain ⟨hsq, hbq⟩ := HT10.out.put6 (.int .i64 v0) (.int .i64 v1) (.string v2) (.int .i64 v3) (.int .i64 v4) (.string v5)
      have HSQ := Lib.hid (HS10.out.trans (hsq.mono fun l hl e => by omega))
      have HBQ := Lib.hid hbq
      obtain ⟨t0, t1, t2, t3, t4, t5⟩ := HT10.out.six
      have u0 := HT10.out.frozen 0
      have u1 := HT10.out.frozen 1
      have u2 := HT10.out.frozen 2
      have u3 := HT10.out.frozen 3
      have u4 := HT10.out.frozen 4
      have u5 := HT10.out.frozen 5
      clear hsq hbq
      go_wp2_with fail
      obtain ⟨tz, hz, _⟩ := HBQ.out
      exact bodyPost_ret (results_cell_two (fn := Try.f51) (p := 2) (u := 3) rfl _ _ _ _ _ _ _ rfl hz rfl rfl rfl) rfl ⟨by rw [HD.out]; rfl, HSQ.out.toBelow (Nat.le_refl _) fun k _ h => h rfl⟩
    | false =>
      have hD := HNO.out rfl
      have HD := Lib.hid hD
      clear hD
      obtain ⟨hsq, hbq⟩ := HT10.out.put6 (.int .i64 0) (.int .i64 0) (.string ⟨#[]⟩) (.int .i64 0) (.int .i64 0) (.string ⟨#[]⟩)
      have HSQ := Lib.hid (HS10.out.trans (hsq.mono fun l hl e => by omega))
      have HBQ := Lib.hid hbq
      obtain ⟨t0, t1, t2, t3, t4, t5⟩ := HT10.out.six
      have u0 := HT10.out.frozen 0
      have u1 := HT10.out.frozen 1
      have u2 := HT10.out.frozen 2
      have u3 := HT10.out.frozen 3
      have u4 := HT10.out.frozen 4
      have u5 := HT10.out.frozen 5
      clear hsq hbq
      go_wp2_with fail
      obtain ⟨tz, hz, _⟩ := HBQ.out
      exact bodyPost_ret (results_cell_two (fn := Try.f51) (p := 2) (u := 3) rfl _ _ _ _ _ _ _ rfl hz rfl rfl rfl) rfl ⟨by rw [HD.out]; rfl, HSQ.out.toBelow (Nat.le_refl _) fun k _ h => h rfl⟩
  · have hb1 : ((E : Int) != 0) = true := by simp; omega
    have hok : ok = false := by
      rw [← HC.out, decide_eq_false hE0, Bool.false_and]
    subst hok
    have hD := HNO.out rfl
    have HD := Lib.hid hD
    clear hD
    obtain ⟨hsq, hbq⟩ := HTb5.out.put6 (.int .i64 0) (.int .i64 0) (.string ⟨#[]⟩) (.int .i64 0) (.int .i64 0) (.string ⟨#[]⟩)
    have HSQ := Lib.hid (HSb5.out.trans (hsq.mono fun l hl e => by omega))
    have HBQ := Lib.hid hbq
    obtain ⟨t0, t1, t2, t3, t4, t5⟩ := HTb5.out.six
    have u0 := HTb5.out.frozen 0
    have u1 := HTb5.out.frozen 1
    have u2 := HTb5.out.frozen 2
    have u3 := HTb5.out.frozen 3
    have u4 := HTb5.out.frozen 4
    have u5 := HTb5.out.frozen 5
    clear hsq hbq
    go_wp2_with fail
    obtain ⟨tz, hz, _⟩ := HBQ.out
    exact bodyPost_ret (results_cell_two (fn := Try.f51) (p := 2) (u := 3) rfl _ _ _ _ _ _ _ rfl hz rfl rfl rfl) rfl ⟨by rw [HD.out]; rfl, HSQ.out.toBelow (Nat.le_refl _) fun k _ h => h rfl⟩

set_option maxRecDepth 100000 in
set_option maxHeartbeats 8000000 in
theorem dea_any (a : Option Addr) (c : Nat) (bs : List UInt8) (w : World) (hx : SliceAt w a c (bs.map byteV)) (hl : bs.length ≤ 1000000) :
    Calls Try.prog 53 #[.slice a bs.length c] w fun e w' => e = .returned (.tuple #[.agg #[.int .i64 (decAn bs).id, .int .i64 (decAn bs).err, .int .i64 (decAn bs).ver, .string (decAn bs).txt], .int .i64 (decE (adecOk bs))]) ∧ Below w.heap.size w w' := by
  obtain ⟨w1, hw1⟩ : ∃ x, x = w.alloc (.cells #[.int .i64 0, .int .i64 0, .int .i64 0, .string ⟨#[]⟩] 53) := ⟨_, rfl⟩
  obtain ⟨o1, ho1⟩ : ∃ x, newLab w (fun _ => 0) 50 = x := ⟨_, rfl⟩
  have hs1 : Step (fun _ => False) w (fun _ => 0) w1 o1 := by rw [hw1, ← ho1]; exact Step.newBlk _ _ _
  have ht1 : Blk w1 o1 50 w.heap.size [.int .i64 0, .int .i64 0, .int .i64 0, .string ⟨#[]⟩] := by rw [hw1, ← ho1]; exact ⟨_, heap_alloc_new _ _, newLab_new _ _ _ (Nat.le_refl _)⟩
  have hB1 : Below w.heap.size w w1 := by rw [hw1]; exact (Below.refl _ w).alloc (Nat.le_refl _) _
  have HX := Lib.hid (hx.below hB1)
  obtain ⟨gt, hgt⟩ : ∃ g, w.heap.size = g := ⟨_, rfl⟩
  rw [hgt] at ht1
  have HT1 := Lib.hid ht1
  have HS1 := Lib.hid (hs1.mono (L' := fun x => x ≠ 0) fun _ h => h.elim)
  have HW1 := Lib.hid hw1
  obtain ⟨D, hD⟩ : ∃ D, decAn bs = D := ⟨_, rfl⟩
  obtain ⟨ok, hok⟩ : ∃ x, adecOk bs = x := ⟨_, rfl⟩
  rw [hD, hok]
  unfold decAn at hD
  rw [hok] at hD
  unfold adecOk at hok
  have HDD := Lib.hid hD
  have HOK := Lib.hid hok
  clear hw1 ho1 hs1 ht1 hB1 hx hD hok
  go_enter Try.func53, Try.ntmps53
  go_wp2_with fail
  rw [← HW1.out]
  refine (read_any 1 a c bs w1 o1 (by omega) HX.out (by omega)).mono ?_
  rintro e w2 ⟨b, rfl, o2, hs2, hR2⟩
  obtain ⟨R0, hR0⟩ : ∃ R : RdS, (⟨bs, 0⟩ : RdS) = R := ⟨_, rfl⟩
  have hl0 : R0.bs.length ≤ 1000000 := by rw [← hR0]; exact hl
  rw [hR0] at hR2 HDD HOK
  have HR2 := Lib.hid hR2
  have HT2 := Lib.hid (HT1.out.step hs2 (by unfold Own; omega))
  have HS2 := Lib.hid (HS1.out.trans (hs2.mono fun l hl e => by unfold Own at hl; omega))
  clear hs2 hR2 hR0 HT1 HS1 HW1 HX
  go_wp2_with fail
  refine (rint_any 1 b R0 w2 o2 (by omega) HR2.out).mono ?_
  rintro e wa0 ⟨rfl, hs, hR⟩
  obtain ⟨v0, hv0⟩ : ∃ v, (intR R0).1 = v := ⟨_, rfl⟩
  obtain ⟨R1, hR1⟩ : ∃ R, (intR R0).2 = R := ⟨_, rfl⟩
  have hl1 : R1.bs.length ≤ 1000000 := by rw [← hR1]; exact Nat.le_trans (intR_le _) hl0
  rw [hv0]
  rw [hR1] at hR
  have HV0 := Lib.hid hv0
  have HRN1 := Lib.hid hR1
  have HRa := Lib.hid hR
  have HTa := Lib.hid (HT2.out.step hs (by unfold Own; omega))
  have HSa := Lib.hid (HS2.out.trans (hs.mono fun l hl e => by unfold Own at hl; omega))
  clear hs hR hv0 hR1 HR2 HT2 HS2
  obtain ⟨w3, hw3⟩ : ∃ x, x = wa0.alloc (.cells #[.int .i64 v0, .int .i64 0, .int .i64 0, .string ⟨#[]⟩] 53) := ⟨_, rfl⟩
  obtain ⟨o3, ho3⟩ : ∃ x, newLab wa0 o2 60 = x := ⟨_, rfl⟩
  have hs3 : Step (fun _ => False) wa0 o2 w3 o3 := by rw [hw3, ← ho3]; exact Step.newBlk _ _ _
  have hx3 : Blk w3 o3 60 wa0.heap.size [.int .i64 v0, .int .i64 0, .int .i64 0, .string ⟨#[]⟩] := by rw [hw3, ← ho3]; exact ⟨_, heap_alloc_new _ _, newLab_new _ _ _ (Nat.le_refl _)⟩
  obtain ⟨gx, hgx⟩ : ∃ g, wa0.heap.size = g := ⟨_, rfl⟩
  rw [hgx] at hx3
  have HX3 := Lib.hid hx3
  have HR3 := Lib.hid (HRa.out.step hs3 (fun h => h) fun _ _ h => h)
  have HT3 := Lib.hid (HTa.out.step hs3 fun h => h)
  have HS3 := Lib.hid (HSa.out.trans (hs3.mono fun _ h => h.elim))
  have HW3 := Lib.hid hw3
  have HG3 := Lib.hid hgx
  clear hw3 ho3 hs3 hx3 hgx
  clear HRa HTa HSa
  go_wp2_with fail
  rw [← HW3.out, HG3.out]
  go_wp2_with fail
  refine (rint_any 1 b R1 w3 o3 (by omega) HR3.out).mono ?_
  rintro e wa1 ⟨rfl, hs, hR⟩
  obtain ⟨v1, hv1⟩ : ∃ v, (intR R1).1 = v := ⟨_, rfl⟩
  obtain ⟨R2, hR2⟩ : ∃ R, (intR R1).2 = R := ⟨_, rfl⟩
  have hl2 : R2.bs.length ≤ 1000000 := by rw [← hR2]; exact Nat.le_trans (intR_le _) hl1
  rw [hv1]
  rw [hR2] at hR
  have HV1 := Lib.hid hv1
  have HRN2 := Lib.hid hR2
  have hxa := HX3.out.step hs (by unfold Own; omega)
  have xc1 := hxa.cell (j := 1) rfl
  have xf1 := hxa.frozen 1
  have hs' := hxa.setCellStep 1 (.int .i64 v1)
  have hx' := hxa.set 1 (.int .i64 v1)
  obtain ⟨wb1, hwb1⟩ : ∃ x, x = wa1.setCell ⟨gx, 1, none⟩ (.int .i64 v1) := ⟨_, rfl⟩
  rw [← hwb1] at hs' hx'
  have HXb1 := Lib.hid (show Blk wb1 o3 60 gx [.int .i64 v0, .int .i64 v1, .int .i64 0, .string ⟨#[]⟩] from hx')
  have HRb1 := Lib.hid (hR.step hs' (by omega) (fun l h => by unfold Own at h; omega))
  have HTb1 := Lib.hid ((HT3.out.step hs (by unfold Own; omega)).step hs' (by omega))
  have HSb1 := Lib.hid ((HS3.out.trans (hs.mono fun l hl e => by unfold Own at hl; omega)).trans (hs'.mono fun l hl e => by omega))
  have HWb1 := Lib.hid hwb1
  clear hs hR hv1 hR2 hxa hs' hx' hwb1 HR3 HT3 HS3 HX3
  go_upto_region 4 with fail
  rw [← HWb1.out]
  clear xc1 xf1 HWb1
  go_wp2_with fail
  refine (rint_any 1 b R2 wb1 o3 (by omega) HRb1.out).mono ?_
  rintro e wa2 ⟨rfl, hs, hR⟩
  obtain ⟨v2, hv2⟩ : ∃ v, (intR R2).1 = v := ⟨_, rfl⟩
  obtain ⟨R3, hR3⟩ : ∃ R, (intR R2).2 = R := ⟨_, rfl⟩
  have hl3 : R3.bs.length ≤ 1000000 := by rw [← hR3]; exact Nat.le_trans (intR_le _) hl2
  rw [hv2]
  rw [hR3] at hR
  have HV2 := Lib.hid hv2
  have HRN3 := Lib.hid hR3
  have hxa := HXb1.out.step hs (by unfold Own; omega)
  have xc2 := hxa.cell (j := 2) rfl
  have xf2 := hxa.frozen 2
  have hs' := hxa.setCellStep 2 (.int .i64 v2)
  have hx' := hxa.set 2 (.int .i64 v2)
  obtain ⟨wb2, hwb2⟩ : ∃ x, x = wa2.setCell ⟨gx, 2, none⟩ (.int .i64 v2) := ⟨_, rfl⟩
  rw [← hwb2] at hs' hx'
  have HXb2 := Lib.hid (show Blk wb2 o3 60 gx [.int .i64 v0, .int .i64 v1, .int .i64 v2, .string ⟨#[]⟩] from hx')
  have HRb2 := Lib.hid (hR.step hs' (by omega) (fun l h => by unfold Own at h; omega))
  have HTb2 := Lib.hid ((HTb1.out.step hs (by unfold Own; omega)).step hs' (by omega))
  have HSb2 := Lib.hid ((HSb1.out.trans (hs.mono fun l hl e => by unfold Own at hl; omega)).trans (hs'.mono fun l hl e => by omega))
  have HWb2 := Lib.hid hwb2
  clear hs hR hv2 hR3 hxa hs' hx' hwb2 HRb1 HTb1 HSb1 HXb1
  go_upto_region 5 with fail
  rw [← HWb2.out]
  clear xc2 xf2 HWb2
  go_wp2_with fail
  refine (rtext_any 1 b R3 wb2 o3 (by omega) HRb2.out (by omega)).mono ?_
  rintro e wa3 ⟨rfl, oa3, hs, hR⟩
  obtain ⟨v3, hv3⟩ : ∃ v : ByteArray, (⟨(rawR R3).1.toArray⟩ : ByteArray) = v := ⟨_, rfl⟩
  obtain ⟨R4, hR4⟩ : ∃ R, (rawR R3).2 = R := ⟨_, rfl⟩
  have hl4 : R4.bs.length ≤ 1000000 := by rw [← hR4]; exact Nat.le_trans (rawR_le _).1 hl3
  have hz3 : v3.size ≤ 1000000 := by rw [← hv3, str_size]; exact Nat.le_trans (rawR_le _).2 hl3
  rw [hv3]
  rw [hR4] at hR
  have HV3 := Lib.hid hv3
  have HRN4 := Lib.hid hR4
  have hxa := HXb2.out.step hs (by unfold Own; omega)
  have xc3 := hxa.cell (j := 3) rfl
  have xf3 := hxa.frozen 3
  have hs' := hxa.setCellStep 3 (.string v3)
  have hx' := hxa.set 3 (.string v3)
  obtain ⟨wb3, hwb3⟩ : ∃ x, x = wa3.setCell ⟨gx, 3, none⟩ (.string v3) := ⟨_, rfl⟩
  rw [← hwb3] at hs' hx'
  have HXb3 := Lib.hid (show Blk wb3 oa3 60 gx [.int .i64 v0, .int .i64 v1, .int .i64 v2, .string v3] from hx')
  have HRb3 := Lib.hid (hR.step hs' (by omega) (fun l h => by unfold Own at h; omega))
  have HTb3 := Lib.hid ((HTb2.out.step hs (by unfold Own; omega)).step hs' (by omega))
  have HSb3 := Lib.hid ((HSb2.out.trans (hs.mono fun l hl e => by unfold Own at hl; omega)).trans (hs'.mono fun l hl e => by omega))
  have HWb3 := Lib.hid hwb3
  clear hs hR hv3 hR4 hxa hs' hx' hwb3 HRb2 HTb2 HSb2 HXb2
  go_upto_region 6 with fail
  rw [← HWb3.out]
  clear xc3 xf3 HWb3
  have e1 : rq1 R0 = R1 := HRN1.out
  have e2 : rq2 R0 = R2 := by
    show (intR (rq1 R0)).2 = R2
    rw [e1]
    exact HRN2.out
  have e3 : an3 R0 = R3 := by
    show (intR (rq2 R0)).2 = R3
    rw [e2]
    exact HRN3.out
  have e4 : an4 R0 = R4 := by
    show (rawR (an3 R0)).2 = R4
    rw [e3]
    exact HRN4.out
  have ed : rdAn R0 = ⟨v0, v1, v2, v3⟩ := by
    unfold rdAn
    rw [e1, e2, e3, HV0.out, HV1.out, HV2.out, HV3.out]
  have hcond : (decide (endR R4 = 0) && okA ⟨v0, v1, v2, v3⟩) = ok := by
    rw [← HOK.out, ed, e4]
  have hval : ok = true → D = ⟨v0, v1, v2, v3⟩ := by
    intro h
    rw [← HDD.out, if_pos h, ed]
  clear ed e1 e2 e3 e4
  have hno : ok = false → D = zeroA := by
    intro h
    rw [← HDD.out, if_neg (by rw [h]; decide)]
  have HC := Lib.hid hcond
  have HV := Lib.hid hval
  have HNO := Lib.hid hno
  clear hcond hval hno HDD HOK
  go_wp2_with fail
  refine (rend_any 1 b R4 wb3 oa3 HRb3.out).mono ?_
  rintro e w9 ⟨rfl, rfl⟩
  obtain ⟨E, hE⟩ : ∃ E, endR R4 = E := ⟨_, rfl⟩
  rw [hE] at HC ⊢
  clear hE
  by_cases hE0 : E = 0
  · subst hE0
    have hC := HC.out
    rw [decide_eq_true rfl, Bool.true_and] at hC
    have x0 := HXb3.out.cell (j := 0) rfl
    have x1 := HXb3.out.cell (j := 1) rfl
    have x2 := HXb3.out.cell (j := 2) rfl
    have x3 := HXb3.out.cell (j := 3) rfl
    have kv := avalid_any ⟨v0, v1, v2, v3⟩ wb3 (by simp only; omega)
    rw [hC] at kv
    have KV := Lib.hid kv
    clear hC kv
    go_wp2_with fail
    refine KV.out.mono ?_
    rintro e w10 ⟨rfl, hb10⟩
    have HT10 := Lib.hid (HTb3.out.step (Step.same (L := fun _ => False) hb10) fun h => h)
    have HS10 := Lib.hid (HSb3.out.trans (Step.same hb10))
    have HX10 := Lib.hid (HXb3.out.step (Step.same (L := fun _ => False) hb10) fun h => h)
    clear hb10 x0 x1 x2 x3
    cases ok with
    | true =>
      have hD := HV.out rfl
      have HD := Lib.hid hD
      clear hD
      have hgg : gt ≠ gx := fun e => by
        have h1 := HT10.out.lab
        have h2 := HX10.out.lab
        rw [e, h2] at h1
        omega
      have hgg' : gx ≠ gt := fun e => hgg e.symm
      have x0 := HX10.out.cell (j := 0) rfl
      have x1 := HX10.out.cell (j := 1) rfl
      have x2 := HX10.out.cell (j := 2) rfl
      have x3 := HX10.out.cell (j := 3) rfl
      obtain ⟨hsq, hbq⟩ := HT10.out.put4 (.int .i64 v0) (.int .i64 v1) (.int .i64 v2) (.string v3)
      have HSQ := Lib.hid (HS10.out.trans (hsq.mono fun l hl e => by omega))
      have HBQ := Lib.hid hbq
      have t0 := HT10.out.cell (j := 0) rfl; have t1 := HT10.out.cell (j := 1) rfl; have t2 := HT10.out.cell (j := 2) rfl; have t3 := HT10.out.cell (j := 3) rfl
      have u0 := HT10.out.frozen 0
      have u1 := HT10.out.frozen 1
      have u2 := HT10.out.frozen 2
      have u3 := HT10.out.frozen 3
      clear hsq hbq
      go_wp2_with fail
      obtain ⟨tz, hz, _⟩ := HBQ.out
      exact bodyPost_ret (results_cell_two (fn := Try.f53) (p := 2) (u := 3) rfl _ _ _ _ _ _ _ rfl hz rfl rfl rfl) rfl ⟨by rw [HD.out]; rfl, HSQ.out.toBelow (Nat.le_refl _) fun k _ h => h rfl⟩
    | false =>
      have hD := HNO.out rfl
      have HD := Lib.hid hD
      clear hD
      obtain ⟨hsq, hbq⟩ := HT10.out.put4 (.int .i64 0) (.int .i64 0) (.int .i64 0) (.string ⟨#[]⟩)
      have HSQ := Lib.hid (HS10.out.trans (hsq.mono fun l hl e => by omega))
      have HBQ := Lib.hid hbq
      have t0 := HT10.out.cell (j := 0) rfl; have t1 := HT10.out.cell (j := 1) rfl; have t2 := HT10.out.cell (j := 2) rfl; have t3 := HT10.out.cell (j := 3) rfl
      have u0 := HT10.out.frozen 0
      have u1 := HT10.out.frozen 1
      have u2 := HT10.out.frozen 2
      have u3 := HT10.out.frozen 3
      clear hsq hbq
      go_wp2_with fail
      obtain ⟨tz, hz, _⟩ := HBQ.out
      exact bodyPost_ret (results_cell_two (fn := Try.f53) (p := 2) (u := 3) rfl _ _ _ _ _ _ _ rfl hz rfl rfl rfl) rfl ⟨by rw [HD.out]; rfl, HSQ.out.toBelow (Nat.le_refl _) fun k _ h => h rfl⟩
  · have hb1 : ((E : Int) != 0) = true := by simp; omega
    have hok : ok = false := by
      rw [← HC.out, decide_eq_false hE0, Bool.false_and]
    subst hok
    have hD := HNO.out rfl
    have HD := Lib.hid hD
    clear hD
    obtain ⟨hsq, hbq⟩ := HTb3.out.put4 (.int .i64 0) (.int .i64 0) (.int .i64 0) (.string ⟨#[]⟩)
    have HSQ := Lib.hid (HSb3.out.trans (hsq.mono fun l hl e => by omega))
    have HBQ := Lib.hid hbq
    have t0 := HTb3.out.cell (j := 0) rfl; have t1 := HTb3.out.cell (j := 1) rfl; have t2 := HTb3.out.cell (j := 2) rfl; have t3 := HTb3.out.cell (j := 3) rfl
    have u0 := HTb3.out.frozen 0
    have u1 := HTb3.out.frozen 1
    have u2 := HTb3.out.frozen 2
    have u3 := HTb3.out.frozen 3
    clear hsq hbq
    go_wp2_with fail
    obtain ⟨tz, hz, _⟩ := HBQ.out
    exact bodyPost_ret (results_cell_two (fn := Try.f53) (p := 2) (u := 3) rfl _ _ _ _ _ _ _ rfl hz rfl rfl rfl) rfl ⟨by rw [HD.out]; rfl, HSQ.out.toBelow (Nat.le_refl _) fun k _ h => h rfl⟩

end Go.Proofs.Ytaonhmdifinadaa
