/-
  The reference's code of a packet: Decode.
-/
import Derived.Test.YtmonpnikdheokaaChnW
import Derived.Test.YtmonpnikdheokaaChnX
import Derived.Test.YtmonpnikdheokaaRefR
namespace Go.Proofs.Ytmonpnikdheokaa
open Go Go.Proofs
open Go.RowKit
set_option linter.unusedVariables false
set_option linter.unusedSimpArgs false

theorem Eqv.trans {A B C : RdS} (h : Eqv A B) (k : Eqv B C) : Eqv A C := ⟨h.1.trans k.1, fun hc => (h.2 (k.1.trans hc)).trans (k.2 hc)⟩
theorem intR_err {R : RdS} (h : R.e ≠ 0) : intR R = (unzN 0, R) := by unfold intR; rw [uintR_err h]
theorem rawR_err {R : RdS} (h : R.e ≠ 0) : rawR R = ([], R) := by
  have h1 : lenR R = (0, R) := by
    unfold lenR
    rw [uintR_err h]
    simp
  unfold rawR
  rw [h1]
  simp only
  rw [if_neg h]
theorem Eqv.int {Q R : RdS} (h : Eqv Q R) : (intR Q).1 = (intR R).1 ∧ Eqv (intR Q).2 (intR R).2 := by
  by_cases he : R.e = 0
  · rw [h.eq he]; exact ⟨rfl, Eqv.refl _⟩
  · rw [intR_err he, intR_err (by rw [h.1]; exact he)]; exact ⟨rfl, h⟩
theorem Eqv.uint {Q R : RdS} (h : Eqv Q R) : (uintR Q).1 = (uintR R).1 ∧ Eqv (uintR Q).2 (uintR R).2 := by
  by_cases he : R.e = 0
  · rw [h.eq he]; exact ⟨rfl, Eqv.refl _⟩
  · rw [uintR_err he, uintR_err (by rw [h.1]; exact he)]; exact ⟨rfl, h⟩
theorem Eqv.raw {Q R : RdS} (h : Eqv Q R) : (rawR Q).1 = (rawR R).1 ∧ Eqv (rawR Q).2 (rawR R).2 := by
  by_cases he : R.e = 0
  · rw [h.eq he]; exact ⟨rfl, Eqv.refl _⟩
  · rw [rawR_err he, rawR_err (by rw [h.1]; exact he)]; exact ⟨rfl, h⟩

set_option maxRecDepth 100000 in
set_option maxHeartbeats 8000000 in
theorem rchdec_any (a : Option Addr) (c : Nat) (bs : List UInt8) (w : World) (hx : SliceAt w a c (bs.map byteV)) (hl : bs.length ≤ 1000000) :
    Calls Try.prog 45 #[.slice a bs.length c] w fun e w' => ∃ a' c', e = .returned (.tuple #[.agg #[.int .i64 (decP bs).seq, .int .i64 (decP bs).ack, .slice a' (decP bs).b.length c'], .int .i64 (decErr bs)]) ∧ SliceAt w' a' c' ((decP bs).b.map byteV) ∧ Below w.heap.size w w' := by
  obtain ⟨w1, hw1⟩ : ∃ x, x = w.alloc (.cells #[.int .i64 0, .int .i64 0, .slice none 0 0] 40) := ⟨_, rfl⟩
  obtain ⟨o1, ho1⟩ : ∃ x, newLab w (fun _ => 0) 50 = x := ⟨_, rfl⟩
  have hs1 : Step (fun _ => False) w (fun _ => 0) w1 o1 := by rw [hw1, ← ho1]; exact Step.blkNew _ _ _
  have ht1 : Blk w1 o1 50 w.heap.size [.int .i64 0, .int .i64 0, .slice none 0 0] := by rw [hw1, ← ho1]; exact ⟨_, heap_alloc_new _ _, newLab_new _ _ _ (Nat.le_refl _)⟩
  have hd1 : Dat w1 o1 0 a c (bs.map byteV) := Dat.step ⟨hx, fun _ _ _ _ => rfl⟩ hs1 (fun h => h)
  obtain ⟨w2, hw2⟩ : ∃ x, x = w1.alloc (.cells #[.slice a bs.length c, .int .i64 0] 141) := ⟨_, rfl⟩
  obtain ⟨o2, ho2⟩ : ∃ x, newLab w1 o1 (10 * 2) = x := ⟨_, rfl⟩
  have hs2 : Step (fun _ => False) w1 o1 w2 o2 := by rw [hw2, ← ho2]; exact Step.blkNew _ _ _
  have hR2 : RdAt w2 o2 2 w1.heap.size ⟨bs, 0⟩ := ⟨a, c, by rw [hw2, ← ho2]; exact ⟨_, heap_alloc_new _ _, newLab_new _ _ _ (Nat.le_refl _)⟩, hd1.step hs2 fun h => h⟩
  have hgt1 : w1.heap.size = w.heap.size + 1 := by rw [hw1]; simp
  rw [hgt1] at hR2
  obtain ⟨gt, hgt⟩ : ∃ g, w.heap.size = g := ⟨_, rfl⟩
  rw [hgt] at ht1 hR2
  obtain ⟨b, hbg⟩ : ∃ b, gt + 1 = b := ⟨_, rfl⟩
  rw [hbg] at hR2
  have HT2 := Lib.hid (ht1.step hs2 fun h => h)
  have HS2 := Lib.hid ((hs1.mono (L' := fun x => x ≠ 0) fun _ h => h.elim).trans (hs2.mono fun _ h => h.elim))
  have HR2 := Lib.hid hR2
  have HW1 := Lib.hid hw1
  have HW2 := Lib.hid hw2
  have HGT := Lib.hid hgt
  have HBG := Lib.hid hbg
  obtain ⟨E, hE⟩ : ∃ E, decErr bs = E := ⟨_, rfl⟩
  obtain ⟨D, hD⟩ : ∃ D, decP bs = D := ⟨_, rfl⟩
  rw [hD, hE]
  unfold decP at hD
  rw [hE] at hD
  unfold decErr at hE
  have hlc : (dcore bs).length ≤ 1000000 := Nat.le_trans (rawR_le _).2 hl
  have kr := rfRaw_any 2 b ⟨bs, 0⟩ w2 o2 (by omega) HR2.out (by simp only; omega)
  have KR := Lib.hid kr
  obtain ⟨nb, hnb⟩ : ∃ n, bs.length = n := ⟨_, rfl⟩
  have HNB0 := Lib.hid hnb
  clear hw1 ho1 hs1 ht1 hx hd1 hw2 ho2 hs2 hR2 hgt1 hgt hbg kr hnb
  go_enter Try.func45, Try.ntmps45
  go_upto_region 2 with fail
  rw [← HW1.out, ← HW2.out]
  try rw [show w1.heap.size = b from by rw [HW1.out, ← HBG.out, ← HGT.out]; simp]
  try rw [HGT.out]
  try rw [HBG.out]
  clear HW1 HW2
  go_wp2_with fail
  refine KR.out.mono ?_
  rintro e w3 hh
  obtain ⟨ca, cc, rfl, hs3, ⟨Q1, hR3, hE3, hle3⟩, hd3⟩ := hh.out
  rw [show (rawR ⟨bs, 0⟩).1 = dcore bs from rfl] at hd3
  rw [show (rawR ⟨bs, 0⟩).2 = dR1 bs from rfl] at hE3
  rw [show (rawR ⟨bs, 0⟩).1 = dcore bs from rfl]
  have hlq1 : Q1.bs.length ≤ 1000000 := Nat.le_trans hle3 hl
  have HK3 := Lib.hid hd3
  have HR3 := Lib.hid hR3
  have HT3 := Lib.hid (HT2.out.step hs3 (by unfold Own; omega))
  have HS3 := Lib.hid (HS2.out.trans (hs3.mono fun l hl e => by unfold Own at hl; omega))
  have hu := hE3.uint
  clear hs3 hR3 hd3 hE3 hle3 hh HR2 HT2 HS2 KR
  obtain ⟨C, hC⟩ : ∃ C, dcore bs = C := ⟨_, rfl⟩
  obtain ⟨n, hn⟩ : ∃ n, C.length = n := ⟨_, rfl⟩
  rw [hC] at HK3 hlc hD hE
  rw [hn] at hlc
  rw [hC, hn]
  obtain ⟨S, hS⟩ : ∃ S, dsum bs = S := ⟨_, rfl⟩
  obtain ⟨E1, hE1⟩ : ∃ S, endR (dR2 bs) = S := ⟨_, rfl⟩
  rw [show (uintR (dR1 bs)).1 = dsum bs from rfl, hS] at hu
  rw [show (uintR (dR1 bs)).2 = dR2 bs from rfl] at hu
  rw [hS, hE1] at hE
  have HU := Lib.hid hu
  have HE := Lib.hid hE
  have HD := Lib.hid hD
  have HN := Lib.hid hn
  have HEE := Lib.hid hE1
  clear hE hD hC hn hS hE1 hu
  have kr := rfUint_any 2 b Q1 w3 o2 (by omega) HR3.out hlq1
  rw [HU.out.1] at kr
  have KR := Lib.hid kr
  clear kr
  go_wp2_with fail
  refine KR.out.mono ?_
  rintro e w4 ⟨rfl, hs4, Q2, hR4, hE4, hle4⟩
  have hend : endR Q2 = E1 := by rw [(hE4.trans HU.out.2).endR, HEE.out]
  have HK4 := Lib.hid (HK3.out.step hs4 (by unfold Own; omega))
  have HR4 := Lib.hid hR4
  have HT4 := Lib.hid (HT3.out.step hs4 (by unfold Own; omega))
  have HS4 := Lib.hid (HS3.out.trans (hs4.mono fun l hl e => by unfold Own at hl; omega))
  have kr := rfEnd_any 2 b Q2 w4 o2 hR4
  rw [hend] at kr
  have KE := Lib.hid kr
  clear hs4 hR4 hE4 hle4 hend HR3 HT3 HS3 HK3 KR HU HEE kr
  go_wp2_with fail
  refine KE.out.mono ?_
  rintro e w' ⟨rfl, rfl⟩
  clear KE
  by_cases h1 : E1 = 0
  · subst h1
    have hE := HE.out
    rw [if_neg (by omega)] at hE
    have HE1 := Lib.hid hE
    have hb := rbytesP ca cc n C w4 HK4.out.slice HN.out (by omega)
    obtain ⟨SC, hSC⟩ : ∃ S, sumP C = S := ⟨_, rfl⟩
    rw [hSC] at HE1 hb
    have HBY := Lib.hid hb
    clear hE HE hb hSC
    go_wp2_with fail
    refine HBY.out.mono ?_
    rintro e w5 ⟨rfl, hb⟩
    have hs : Step (fun _ => False) w4 o2 w5 o2 := Step.same hb
    have HT5 := Lib.hid (HT4.out.step hs fun h => h)
    have HS5 := Lib.hid (HS4.out.trans (hs.mono fun _ h => h.elim))
    have HK5 := Lib.hid (HK4.out.step hs fun h => h)
    clear hb hs HT4 HS4 HK4 HBY HR4
    by_cases h2 : S = SC
    · subst h2
      have hE := HE1.out
      rw [if_neg (fun h => h rfl)] at hE
      have HE2 := Lib.hid hE
      obtain ⟨w6, hw6⟩ : ∃ x, x = w5.alloc (.cells #[.slice ca n cc, .int .i64 0] 141) := ⟨_, rfl⟩
      obtain ⟨o6, ho6⟩ : ∃ x, newLab w5 o2 (10 * 3) = x := ⟨_, rfl⟩
      have hs6 : Step (fun _ => False) w5 o2 w6 o6 := by rw [hw6, ← ho6]; exact Step.blkNew _ _ _
      have hR6 : RdAt w6 o6 3 w5.heap.size ⟨C, 0⟩ := ⟨ca, cc, by simp only [HN.out]; rw [hw6, ← ho6]; exact ⟨_, heap_alloc_new _ _, newLab_new _ _ _ (Nat.le_refl _)⟩, HK5.out.step hs6 fun h => h⟩
      obtain ⟨b2, hb2⟩ : ∃ g, w5.heap.size = g := ⟨_, rfl⟩
      rw [hb2] at hR6
      have HR6 := Lib.hid hR6
      have HT6 := Lib.hid (HT5.out.step hs6 fun h => h)
      have HS6 := Lib.hid (HS5.out.trans (hs6.mono fun _ h => h.elim))
      have HW6 := Lib.hid hw6
      have HG6 := Lib.hid hb2
      have hlc0 : (⟨C, 0⟩ : RdS).bs.length ≤ 1000000 := by simp only; rw [HN.out]; omega
      clear hE HE1 hw6 ho6 hs6 hR6 hb2 HT5 HS5 HK5
      go_wp2_with fail
      rw [← HW6.out, HG6.out]
      clear HW6 HG6
      refine (rfInt_any 3 b2 ⟨C, 0⟩ w6 o6 (by omega) HR6.out hlc0).mono ?_
      rintro e w7 ⟨rfl, hs, Q3, hR, hEq, hle⟩
      rw [show (intR ⟨C, 0⟩).2 = cS1 C from rfl] at hEq
      have hlq3 : Q3.bs.length ≤ 1000000 := Nat.le_trans hle hlc0
      obtain ⟨v0, hv0⟩ : ∃ v, (intR ⟨C, 0⟩).1 = v := ⟨_, rfl⟩
      rw [hv0]
      have HV0 := Lib.hid hv0
      have HQ3 := Lib.hid hEq
      have HR7 := Lib.hid hR
      have HT7 := Lib.hid (HT6.out.step hs (by unfold Own; omega))
      have HS7 := Lib.hid (HS6.out.trans (hs.mono fun l hl e => by unfold Own at hl; omega))
      clear hs hR hv0 hEq hle HR6 HT6 HS6 hlc0
      obtain ⟨w8, hw8⟩ : ∃ x, x = w7.alloc (.cells #[.int .i64 v0, .int .i64 0, .slice none 0 0] 40) := ⟨_, rfl⟩
      obtain ⟨o8, ho8⟩ : ∃ x, newLab w7 o6 60 = x := ⟨_, rfl⟩
      have hs8 : Step (fun _ => False) w7 o6 w8 o8 := by rw [hw8, ← ho8]; exact Step.blkNew _ _ _
      have hx8 : Blk w8 o8 60 w7.heap.size [.int .i64 v0, .int .i64 0, .slice none 0 0] := by rw [hw8, ← ho8]; exact ⟨_, heap_alloc_new _ _, newLab_new _ _ _ (Nat.le_refl _)⟩
      obtain ⟨gx, hgx⟩ : ∃ g, w7.heap.size = g := ⟨_, rfl⟩
      rw [hgx] at hx8
      have HX8 := Lib.hid hx8
      have HR8 := Lib.hid (HR7.out.step hs8 (fun h => h) fun _ _ h => h)
      have HT8 := Lib.hid (HT7.out.step hs8 fun h => h)
      have HS8 := Lib.hid (HS7.out.trans (hs8.mono fun _ h => h.elim))
      have HW8 := Lib.hid hw8
      have HG8 := Lib.hid hgx
      clear hw8 ho8 hs8 hx8 hgx HR7 HT7 HS7
      go_wp2_with fail
      rw [← HW8.out, HG8.out]
      clear HW8 HG8
      refine (rfInt_any 3 b2 Q3 w8 o8 (by omega) HR8.out hlq3).mono ?_
      rintro e w9 ⟨rfl, hs, Q4, hR, hEq, hle⟩
      have hlq4 : Q4.bs.length ≤ 1000000 := Nat.le_trans hle hlq3
      have hq := HQ3.out.int
      rw [hq.1]
      have hEq := hEq.trans hq.2
      rw [show (intR (cS1 C)).2 = cS2 C from rfl] at hEq
      obtain ⟨v1, hv1⟩ : ∃ v, (intR (cS1 C)).1 = v := ⟨_, rfl⟩
      rw [hv1]
      have HV1 := Lib.hid hv1
      have HQ4 := Lib.hid hEq
      have hxa := HX8.out.step hs (by unfold Own; omega)
      have xc := hxa.cell (j := 1) rfl
      have xf := hxa.frozen 1
      have hs' := hxa.setStep 1 (.int .i64 v1)
      have hx' := hxa.set 1 (.int .i64 v1)
      obtain ⟨w10, hw10⟩ : ∃ x, x = w9.setCell ⟨gx, 1, none⟩ (.int .i64 v1) := ⟨_, rfl⟩
      rw [← hw10] at hs' hx'
      have HX10 := Lib.hid (show Blk w10 o8 60 gx [.int .i64 v0, .int .i64 v1, .slice none 0 0] from hx')
      have HR10 := Lib.hid (hR.step hs' (by omega) (fun l h => by unfold Own at h; omega))
      have HT10 := Lib.hid ((HT8.out.step hs (by unfold Own; omega)).step hs' (by omega))
      have HS10 := Lib.hid ((HS8.out.trans (hs.mono fun l hl e => by unfold Own at hl; omega)).trans (hs'.mono fun l hl e => by omega))
      have HW10 := Lib.hid hw10
      clear hs hR hv1 hxa hs' hx' hw10 hq hEq hle HR8 HT8 HS8 HX8 HQ3
      go_upto_region 11 with fail
      rw [← HW10.out]
      clear xc xf HW10
      have kr := rfRaw_any 3 b2 Q4 w10 o8 (by omega) HR10.out hlq4
      have KR := Lib.hid kr
      clear kr
      go_wp2_with fail
      refine KR.out.mono ?_
      rintro e w11 hh
      obtain ⟨va, vc, rfl, hs, ⟨Q5, hR, hEq, hle⟩, hd⟩ := hh.out
      have hq := HQ4.out.raw
      have hEq := hEq.trans hq.2
      rw [show (rawR (cS2 C)).2 = cS3 C from rfl] at hEq
      rw [hq.1] at hd ⊢
      have hz : (rawR (cS2 C)).1.length ≤ 1000000 := by
        have := (rawR_le Q4).2
        rw [hq.1] at this
        omega
      obtain ⟨B, hB⟩ : ∃ v, (rawR (cS2 C)).1 = v := ⟨_, rfl⟩
      rw [hB] at hd hz ⊢
      obtain ⟨nB, hnB⟩ : ∃ v, B.length = v := ⟨_, rfl⟩
      rw [hnB] at hz ⊢
      have HV2 := Lib.hid hB
      have HNB := Lib.hid hnB
      have HQ5 := Lib.hid hEq
      have hxa := HX10.out.step hs (by unfold Own; omega)
      have xc := hxa.cell (j := 2) rfl
      have xf := hxa.frozen 2
      have hs' := hxa.setStep 2 (.slice va nB vc)
      have hx' := hxa.set 2 (.slice va nB vc)
      obtain ⟨w12, hw12⟩ : ∃ x, x = w11.setCell ⟨gx, 2, none⟩ (.slice va nB vc) := ⟨_, rfl⟩
      rw [← hw12] at hs' hx'
      have HX12 := Lib.hid (show Blk w12 o8 60 gx [.int .i64 v0, .int .i64 v1, .slice va nB vc] from hx')
      have HR12 := Lib.hid (hR.step hs' (by omega) (fun l h => by unfold Own at h; omega))
      have HT12 := Lib.hid ((HT10.out.step hs (by unfold Own; omega)).step hs' (by omega))
      have HS12 := Lib.hid ((HS10.out.trans (hs.mono fun l hl e => by unfold Own at hl; omega)).trans (hs'.mono fun l hl e => by omega))
      have HK12 := Lib.hid (hd.step hs' (by omega))
      have HW12 := Lib.hid hw12
      clear hs hR hB hnB hd hxa hs' hx' hw12 hq hEq hle hh HR10 HT10 HS10 HX10 KR HQ4
      go_upto_region 12 with fail
      rw [← HW12.out]
      clear xc xf HW12
      have hrd : rdP C = ⟨v0, v1, B⟩ := by unfold rdP; rw [HV0.out, HV1.out, HV2.out]
      have hE := HE2.out
      unfold inOk at hE
      rw [hrd] at hE
      have hD := HD.out
      rw [hrd] at hD
      obtain ⟨E2, hE2⟩ : ∃ S, endR (cS3 C) = S := ⟨_, rfl⟩
      rw [hE2] at hE
      have kv := rvalidP v0 v1 va vc B w12 (by rw [HNB.out]; omega)
      obtain ⟨ok, hok⟩ : ∃ x, pvalid ⟨v0, v1, B⟩ = x := ⟨_, rfl⟩
      rw [hok] at kv hE
      rw [HNB.out] at kv
      have KV := Lib.hid kv
      have HEE := Lib.hid (show endR Q5 = E2 by rw [HQ5.out.endR, hE2])
      have HE3 := Lib.hid hE
      have HD3 := Lib.hid hD
      clear hrd hE hD hE2 kv hok HE2 HD HV0 HV1 HV2 HQ5
      have x0 := HX12.out.cell (j := 0) rfl
      have x1 := HX12.out.cell (j := 1) rfl
      have x2 := HX12.out.cell (j := 2) rfl
      go_wp2_with fail
      refine KV.out.mono ?_
      rintro e w13 ⟨rfl, hb⟩
      have hs : Step (fun _ => False) w12 o8 w13 o8 := Step.same hb
      have HT13 := Lib.hid (HT12.out.step hs fun h => h)
      have HS13 := Lib.hid (HS12.out.trans (hs.mono fun _ h => h.elim))
      have HX13 := Lib.hid (HX12.out.step hs fun h => h)
      have HK13 := Lib.hid (HK12.out.step hs fun h => h)
      have hR13 := HR12.out.step hs (fun h => h) fun _ _ h => h
      have kr := rfEnd_any 3 b2 Q5 w13 o8 hR13
      rw [HEE.out] at kr
      have KE := Lib.hid kr
      clear hb hs x0 x1 x2 hR13 kr HT12 HS12 HX12 HK12 HR12 KV HEE
      go_wp2_with fail
      refine KE.out.mono ?_
      rintro e w' ⟨rfl, rfl⟩
      clear KE
      by_cases h3 : E2 = 0
      · subst h3
        have hE := HE3.out
        rw [decide_eq_true rfl, Bool.true_and] at hE
        have HE4 := Lib.hid hE
        clear hE HE3
        cases ok with
        | true =>
          have hE := HE4.out
          rw [if_pos rfl] at hE
          have hD := HD3.out
          rw [if_pos hE.symm] at hD
          have HDD := Lib.hid hD
          have HEf := Lib.hid hE
          clear hE hD
          have x0 := HX13.out.cell (j := 0) rfl
          have x1 := HX13.out.cell (j := 1) rfl
          have x2 := HX13.out.cell (j := 2) rfl
          obtain ⟨hsq, hbq⟩ := HT13.out.put3 (.int .i64 v0) (.int .i64 v1) (.slice va nB vc)
          have HSQ := Lib.hid (HS13.out.trans (hsq.mono fun l hl e => by omega))
          have HBQ := Lib.hid hbq
          have HSQ0 := Lib.hid hsq
          have t0 := HT13.out.cell (j := 0) rfl
          have t1 := HT13.out.cell (j := 1) rfl
          have t2 := HT13.out.cell (j := 2) rfl
          have u0 := HT13.out.frozen 0
          have u1 := HT13.out.frozen 1
          have u2 := HT13.out.frozen 2
          clear hbq hsq
          go_wp2_with fail
          obtain ⟨tz, hz, _⟩ := HBQ.out
          exact bodyPost_ret (results_cell_two (fn := Try.f45) (p := 2) (u := 3) rfl _ _ _ _ _ _ _ rfl hz rfl rfl rfl) rfl ⟨va, vc, by rw [← HDD.out, ← HEf.out, HNB.out]; rfl, by rw [← HDD.out]; exact (HK13.out.step HSQ0.out (by omega)).slice, HSQ.out.toBelow (Nat.le_refl _) fun k _ h => h rfl⟩
        | false =>
          have hE := HE4.out
          rw [if_neg (by decide)] at hE
          have hD := HD3.out
          rw [if_neg (by omega)] at hD
          have HDD := Lib.hid hD
          have HEf := Lib.hid hE
          clear hE hD
          obtain ⟨hsq, hbq⟩ := HT13.out.put3 (.int .i64 0) (.int .i64 0) (.slice none 0 0)
          have HSQ := Lib.hid (HS13.out.trans (hsq.mono fun l hl e => by omega))
          have HBQ := Lib.hid hbq
          have HSQ0 := Lib.hid hsq
          have t0 := HT13.out.cell (j := 0) rfl
          have t1 := HT13.out.cell (j := 1) rfl
          have t2 := HT13.out.cell (j := 2) rfl
          have u0 := HT13.out.frozen 0
          have u1 := HT13.out.frozen 1
          have u2 := HT13.out.frozen 2
          clear hbq hsq
          go_wp2_with fail
          obtain ⟨tz, hz, _⟩ := HBQ.out
          exact bodyPost_ret (results_cell_two (fn := Try.f45) (p := 2) (u := 3) rfl _ _ _ _ _ _ _ rfl hz rfl rfl rfl) rfl ⟨none, 0, by rw [← HDD.out, ← HEf.out]; rfl, by rw [← HDD.out]; exact slice_nil byteV _, HSQ.out.toBelow (Nat.le_refl _) fun k _ h => h rfl⟩
      · have hE := HE3.out
        rw [decide_eq_false h3, Bool.false_and, if_neg (by decide)] at hE
        have hD := HD3.out
        rw [if_neg (by omega)] at hD
        have HDD := Lib.hid hD
        have HEf := Lib.hid hE
        clear hE hD
        have hb1 : ((E2 : Int) != 0) = true := by simp; omega
        obtain ⟨hsq, hbq⟩ := HT13.out.put3 (.int .i64 0) (.int .i64 0) (.slice none 0 0)
        have HSQ := Lib.hid (HS13.out.trans (hsq.mono fun l hl e => by omega))
        have HBQ := Lib.hid hbq
        have HSQ0 := Lib.hid hsq
        have t0 := HT13.out.cell (j := 0) rfl
        have t1 := HT13.out.cell (j := 1) rfl
        have t2 := HT13.out.cell (j := 2) rfl
        have u0 := HT13.out.frozen 0
        have u1 := HT13.out.frozen 1
        have u2 := HT13.out.frozen 2
        clear hbq hsq
        go_wp2_with fail
        obtain ⟨tz, hz, _⟩ := HBQ.out
        exact bodyPost_ret (results_cell_two (fn := Try.f45) (p := 2) (u := 3) rfl _ _ _ _ _ _ _ rfl hz rfl rfl rfl) rfl ⟨none, 0, by rw [← HDD.out, ← HEf.out]; rfl, by rw [← HDD.out]; exact slice_nil byteV _, HSQ.out.toBelow (Nat.le_refl _) fun k _ h => h rfl⟩
    · have hE := HE1.out
      rw [if_pos h2] at hE
      have hD := HD.out
      rw [if_neg (by omega)] at hD
      have HDD := Lib.hid hD
      have HEf := Lib.hid hE
      clear hE hD
      have hb1 : ((S : Int) != (SC : Int)) = true := by simp; omega
      obtain ⟨hsq, hbq⟩ := HT5.out.put3 (.int .i64 0) (.int .i64 0) (.slice none 0 0)
      have HSQ := Lib.hid (HS5.out.trans (hsq.mono fun l hl e => by omega))
      have HBQ := Lib.hid hbq
      have HSQ0 := Lib.hid hsq
      have t0 := HT5.out.cell (j := 0) rfl
      have t1 := HT5.out.cell (j := 1) rfl
      have t2 := HT5.out.cell (j := 2) rfl
      have u0 := HT5.out.frozen 0
      have u1 := HT5.out.frozen 1
      have u2 := HT5.out.frozen 2
      clear hbq hsq
      go_wp2_with fail
      obtain ⟨tz, hz, _⟩ := HBQ.out
      exact bodyPost_ret (results_cell_two (fn := Try.f45) (p := 2) (u := 3) rfl _ _ _ _ _ _ _ rfl hz rfl rfl rfl) rfl ⟨none, 0, by rw [← HDD.out, ← HEf.out]; rfl, by rw [← HDD.out]; exact slice_nil byteV _, HSQ.out.toBelow (Nat.le_refl _) fun k _ h => h rfl⟩
  · have hE := HE.out
    rw [if_pos h1] at hE
    have hD := HD.out
    rw [if_neg (by omega)] at hD
    have HDD := Lib.hid hD
    have HEf := Lib.hid hE
    clear hE hD
    have hb1 : ((E1 : Int) != 0) = true := by simp; omega
    obtain ⟨hsq, hbq⟩ := HT4.out.put3 (.int .i64 0) (.int .i64 0) (.slice none 0 0)
    have HSQ := Lib.hid (HS4.out.trans (hsq.mono fun l hl e => by omega))
    have HBQ := Lib.hid hbq
    have HSQ0 := Lib.hid hsq
    have t0 := HT4.out.cell (j := 0) rfl
    have t1 := HT4.out.cell (j := 1) rfl
    have t2 := HT4.out.cell (j := 2) rfl
    have u0 := HT4.out.frozen 0
    have u1 := HT4.out.frozen 1
    have u2 := HT4.out.frozen 2
    clear hbq hsq
    go_wp2_with fail
    obtain ⟨tz, hz, _⟩ := HBQ.out
    exact bodyPost_ret (results_cell_two (fn := Try.f45) (p := 2) (u := 3) rfl _ _ _ _ _ _ _ rfl hz rfl rfl rfl) rfl ⟨none, 0, by rw [← HDD.out, ← HEf.out]; rfl, by rw [← HDD.out]; exact slice_nil byteV _, HSQ.out.toBelow (Nat.le_refl _) fun k _ h => h rfl⟩
end Go.Proofs.Ytmonpnikdheokaa
