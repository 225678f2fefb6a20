/-
  The code of a packet: channel.Decode.
-/
import Derived.Test.YtmonpnikdheokaaChnV
import Derived.Test.YtmonpnikdheokaaEnds
import Derived.Deep.DeepCutAuto
import Derived.Deep.CutBlock
namespace Go.Proofs.Ytmonpnikdheokaa
open Go Go.Proofs
open Go.RowKit
set_option linter.unusedVariables false
set_option linter.unusedSimpArgs false

def dcore (bs : List UInt8) : List UInt8 := (rawR ⟨bs, 0⟩).1
def dR1 (bs : List UInt8) : RdS := (rawR ⟨bs, 0⟩).2
def dsum (bs : List UInt8) : Nat := (uintR (dR1 bs)).1
def dR2 (bs : List UInt8) : RdS := (uintR (dR1 bs)).2
def cS1 (c : List UInt8) : RdS := (intR ⟨c, 0⟩).2
def cS2 (c : List UInt8) : RdS := (intR (cS1 c)).2
def cS3 (c : List UInt8) : RdS := (rawR (cS2 c)).2
def rdP (c : List UInt8) : Pkt := ⟨(intR ⟨c, 0⟩).1, (intR (cS1 c)).1, (rawR (cS2 c)).1⟩
def inOk (c : List UInt8) : Bool := decide (endR (cS3 c) = 0) && pvalid (rdP c)
def decErr (bs : List UInt8) : Int := if endR (dR2 bs) ≠ 0 then 2 else if dsum bs ≠ sumP (dcore bs) then 20 else if inOk (dcore bs) = true then 0 else 2
def zeroP : Pkt := ⟨0, 0, []⟩
def decP (bs : List UInt8) : Pkt := if decErr bs = 0 then rdP (dcore bs) else zeroP

theorem intR_le (R : RdS) : (intR R).2.bs.length ≤ R.bs.length := uintR_len R
theorem rawR_le (R : RdS) : (rawR R).2.bs.length ≤ R.bs.length ∧ (rawR R).1.length ≤ R.bs.length := by
  have h := lenR_len R
  unfold rawR
  split
  · simp only [List.length_drop, List.length_take]; omega
  · exact ⟨h, Nat.zero_le _⟩
theorem Blk.setStep {w : World} {o : Nat → Nat} {l b : Nat} {cs : List Value} (h : Blk w o l b cs) (j : Nat) (u : Value) : Step (· = l) w o (w.setCell ⟨b, j, none⟩ u) o := (Step.refl _ _ _).set (p := ⟨b, j, none⟩) h.lab _
theorem Blk.put3 {w : World} {o : Nat → Nat} {l b : Nat} {z0 z1 z2 : Value} (h : Blk w o l b [z0, z1, z2]) (v0 v1 v2 : Value) :
    Step (· = l) w o (((w.setCell ⟨b, 0, none⟩ v0).setCell ⟨b, 1, none⟩ v1).setCell ⟨b, 2, none⟩ v2) o ∧
    Blk (((w.setCell ⟨b, 0, none⟩ v0).setCell ⟨b, 1, none⟩ v1).setCell ⟨b, 2, none⟩ v2) o l b [v0, v1, v2] := by
  have hl := h.lab
  exact ⟨(((Step.refl _ w o).set (p := ⟨b, 0, none⟩) hl v0).set (p := ⟨b, 1, none⟩) hl v1).set (p := ⟨b, 2, none⟩) hl v2, ((h.set 0 v0).set 1 v1).set 2 v2⟩

set_option maxRecDepth 100000 in
set_option maxHeartbeats 8000000 in
theorem chdec_any (a : Option Addr) (c : Nat) (bs : List UInt8) (w : World) (hx : SliceAt w a c (bs.map byteV)) (hl : bs.length ≤ 1000000) :
    Calls Try.prog 44 #[.slice a bs.length c] w fun e w' => ∃ a' c', e = .returned (.tuple #[.agg #[.int .i64 (decP bs).seq, .int .i64 (decP bs).ack, .slice a' (decP bs).b.length c'], .int .i64 (decErr bs)]) ∧ SliceAt w' a' c' ((decP bs).b.map byteV) ∧ Below w.heap.size w w' := by
  obtain ⟨w1, hw1⟩ : ∃ x, x = w.alloc (.cells #[.int .i64 0, .int .i64 0, .slice none 0 0] 44) := ⟨_, rfl⟩
  obtain ⟨o1, ho1⟩ : ∃ x, newLab w (fun _ => 0) 50 = x := ⟨_, rfl⟩
  have hs1 : Step (fun _ => False) w (fun _ => 0) w1 o1 := by rw [hw1, ← ho1]; exact Step.blkNew _ _ _
  have ht1 : Blk w1 o1 50 w.heap.size [.int .i64 0, .int .i64 0, .slice none 0 0] := by rw [hw1, ← ho1]; exact ⟨_, heap_alloc_new _ _, newLab_new _ _ _ (Nat.le_refl _)⟩
  have hB1 : Below w.heap.size w w1 := by rw [hw1]; exact (Below.refl _ w).alloc (Nat.le_refl _) _
  have HX := Lib.hid (hx.below hB1)
  obtain ⟨gt, hgt⟩ : ∃ g, w.heap.size = g := ⟨_, rfl⟩
  rw [hgt] at ht1
  have HT1 := Lib.hid ht1
  have HS1 := Lib.hid (hs1.mono (L' := fun x => x ≠ 0) fun _ h => h.elim)
  have HW1 := Lib.hid hw1
  obtain ⟨E, hE⟩ : ∃ E, decErr bs = E := ⟨_, rfl⟩
  obtain ⟨D, hD⟩ : ∃ D, decP bs = D := ⟨_, rfl⟩
  rw [hD, hE]
  unfold decP at hD
  rw [hE] at hD
  unfold decErr at hE
  have hlc : (dcore bs).length ≤ 1000000 := Nat.le_trans (rawR_le _).2 hl
  have hl1 : (dR1 bs).bs.length ≤ 1000000 := Nat.le_trans (rawR_le _).1 hl
  clear hw1 ho1 hs1 ht1 hB1 hx
  go_enter Try.func44, Try.ntmps44
  go_wp2_with fail
  rw [← HW1.out]
  refine (read_any 1 a c bs w1 o1 (by omega) HX.out (by omega)).mono ?_
  rintro e w2 ⟨b, rfl, o2, hs2, hR2⟩
  have HR2 := Lib.hid hR2
  have HT2 := Lib.hid (HT1.out.step hs2 (by unfold Own; omega))
  have HS2 := Lib.hid (HS1.out.trans (hs2.mono fun l hl e => by unfold Own at hl; omega))
  clear hs2 hR2 HT1 HS1 HW1 HX
  go_wp2_with fail
  refine (rraw_any 1 b 90 ⟨bs, 0⟩ w2 o2 (by omega) HR2.out (by simp only; omega) (by unfold Own; omega) (by omega)).mono ?_
  rintro e w3 ⟨v, rfl, o3, hs3, hR3, hrow⟩
  rw [show (rawR ⟨bs, 0⟩).1 = dcore bs from rfl] at hrow
  rw [show (rawR ⟨bs, 0⟩).2 = dR1 bs from rfl] at hR3
  obtain ⟨ca, cc, rfl⟩ := hrow.form
  have HK3 := Lib.hid hrow.slice
  have HKR3 := Lib.hid hrow
  have HR3 := Lib.hid hR3
  have HT3 := Lib.hid (HT2.out.step hs3 (by unfold rdL Own; omega))
  have HS3 := Lib.hid (HS2.out.trans (hs3.mono fun l hl e => by unfold rdL Own at hl; omega))
  clear hs3 hR3 hrow HR2 HT2 HS2
  go_wp2_with fail
  refine (ruint_any 1 b (dR1 bs) w3 o3 (by omega) HR3.out).mono ?_
  rintro e w4 ⟨rfl, hs4, hR4⟩
  rw [show (uintR (dR1 bs)).2 = dR2 bs from rfl] at hR4
  rw [show (uintR (dR1 bs)).1 = dsum bs from rfl]
  have HK4 := Lib.hid (RowL.step HKR3.out hs4 (by unfold Own; omega))
  have HR4 := Lib.hid hR4
  have HT4 := Lib.hid (HT3.out.step hs4 (by unfold Own; omega))
  have HS4 := Lib.hid (HS3.out.trans (hs4.mono fun l hl e => by unfold Own at hl; omega))
  clear hs4 hR4 HR3 HT3 HS3 HK3 HKR3
  obtain ⟨C, hC⟩ : ∃ C, dcore bs = C := ⟨_, rfl⟩
  obtain ⟨n, hn⟩ : ∃ n, C.length = n := ⟨_, rfl⟩
  obtain ⟨S, hS⟩ : ∃ S, dsum bs = S := ⟨_, rfl⟩
  obtain ⟨E1, hE1⟩ : ∃ S, endR (dR2 bs) = S := ⟨_, rfl⟩
  rw [hC] at HK4 hlc hD hE
  rw [hn] at HK4 hlc
  rw [hC, hn]
  rw [hS] at hE ⊢
  rw [hE1] at hE
  have HE := Lib.hid hE
  have HD := Lib.hid hD
  have HN := Lib.hid hn
  have HEE := Lib.hid hE1
  clear hE hD hC hn hS hE1
  go_wp2_with fail
  refine (rend_any 1 b (dR2 bs) w4 o3 HR4.out).mono ?_
  rintro e w' ⟨rfl, rfl⟩
  rw [HEE.out]
  clear HEE
  by_cases h1 : E1 = 0
  · subst h1
    have hE := HE.out
    rw [if_neg (by omega)] at hE
    have HE1 := Lib.hid hE
    have hb := bytesP ca cc n C w4 HK4.out.slice HN.out (by omega)
    obtain ⟨SC, hSC⟩ : ∃ S, sumP C = S := ⟨_, rfl⟩
    rw [hSC] at HE1 hb
    have HBY := Lib.hid hb
    clear hE HE hb hSC
    go_wp2_with fail
    refine HBY.out.mono ?_
    rintro e w5 ⟨rfl, hb⟩
    have hs : Step (fun _ => False) w4 o3 w5 o3 := Step.same hb
    have HT5 := Lib.hid (HT4.out.step hs fun h => h)
    have HS5 := Lib.hid (HS4.out.trans (hs.mono fun _ h => h.elim))
    have HK5 := Lib.hid (RowL.step HK4.out hs fun h => h)
    clear hb hs HT4 HS4 HK4 HBY HR4
    by_cases h2 : S = SC
    · subst h2
      have hE := HE1.out
      rw [if_neg (fun h => h rfl)] at hE
      have HE2 := Lib.hid hE
      have kr := read_any 2 ca cc C w5 o3 (by omega) HK5.out.slice (by rw [HN.out]; omega)
      rw [HN.out] at kr
      have KR := Lib.hid kr
      clear hE HE1 kr
      go_wp2_with fail
      refine KR.out.mono ?_
      rintro e w6 ⟨b2, rfl, o6, hs, hR⟩
      have HR6 := Lib.hid hR
      have HT6 := Lib.hid (HT5.out.step hs (by unfold Own; omega))
      have HS6 := Lib.hid (HS5.out.trans (hs.mono fun l hl e => by unfold Own at hl; omega))
      clear hs hR HT5 HS5 KR HK5
      go_wp2_with fail
      refine (rint_any 2 b2 ⟨C, 0⟩ w6 o6 (by omega) HR6.out).mono ?_
      rintro e w7 ⟨rfl, hs, hR⟩
      rw [show (intR ⟨C, 0⟩).2 = cS1 C from rfl] at hR
      have hls1 : (cS1 C).bs.length ≤ 1000000 := Nat.le_trans (intR_le _) (by simp only; rw [HN.out]; omega)
      obtain ⟨v0, hv0⟩ : ∃ v, (intR ⟨C, 0⟩).1 = v := ⟨_, rfl⟩
      rw [hv0]
      have HV0 := Lib.hid hv0
      have HR7 := Lib.hid hR
      have HT7 := Lib.hid (HT6.out.step hs (by unfold Own; omega))
      have HS7 := Lib.hid (HS6.out.trans (hs.mono fun l hl e => by unfold Own at hl; omega))
      clear hs hR hv0 HR6 HT6 HS6
      obtain ⟨w8, hw8⟩ : ∃ x, x = w7.alloc (.cells #[.int .i64 v0, .int .i64 0, .slice none 0 0] 44) := ⟨_, rfl⟩
      obtain ⟨o8, ho8⟩ : ∃ x, newLab w7 o6 60 = x := ⟨_, rfl⟩
      have hs8 : Step (fun _ => False) w7 o6 w8 o8 := by rw [hw8, ← ho8]; exact Step.blkNew _ _ _
      have hx8 : Blk w8 o8 60 w7.heap.size [.int .i64 v0, .int .i64 0, .slice none 0 0] := by rw [hw8, ← ho8]; exact ⟨_, heap_alloc_new _ _, newLab_new _ _ _ (Nat.le_refl _)⟩
      obtain ⟨gx, hgx⟩ : ∃ g, w7.heap.size = g := ⟨_, rfl⟩
      rw [hgx] at hx8
      have HX8 := Lib.hid hx8
      have HR8 := Lib.hid (HR7.out.step hs8 (fun h => h) fun _ _ h => h)
      have HT8 := Lib.hid (HT7.out.step hs8 fun h => h)
      have HS8 := Lib.hid (HS7.out.trans (hs8.mono fun _ h => h.elim))
      have HW8 := Lib.hid hw8
      have HG8 := Lib.hid hgx
      clear hw8 ho8 hs8 hx8 hgx HR7 HT7 HS7
      go_wp2_with fail
      rw [← HW8.out, HG8.out]
      clear HW8 HG8
      refine (rint_any 2 b2 (cS1 C) w8 o8 (by omega) HR8.out).mono ?_
      rintro e w9 ⟨rfl, hs, hR⟩
      rw [show (intR (cS1 C)).2 = cS2 C from rfl] at hR
      have hls2 : (cS2 C).bs.length ≤ 1000000 := Nat.le_trans (intR_le _) hls1
      obtain ⟨v1, hv1⟩ : ∃ v, (intR (cS1 C)).1 = v := ⟨_, rfl⟩
      rw [hv1]
      have HV1 := Lib.hid hv1
      have hxa := HX8.out.step hs (by unfold Own; omega)
      have xc := hxa.cell (j := 1) rfl
      have xf := hxa.frozen 1
      have hs' := hxa.setStep 1 (.int .i64 v1)
      have hx' := hxa.set 1 (.int .i64 v1)
      obtain ⟨w10, hw10⟩ : ∃ x, x = w9.setCell ⟨gx, 1, none⟩ (.int .i64 v1) := ⟨_, rfl⟩
      rw [← hw10] at hs' hx'
      have HX10 := Lib.hid (show Blk w10 o8 60 gx [.int .i64 v0, .int .i64 v1, .slice none 0 0] from hx')
      have HR10 := Lib.hid (hR.step hs' (by omega) (fun l h => by unfold Own at h; omega))
      have HT10 := Lib.hid ((HT8.out.step hs (by unfold Own; omega)).step hs' (by omega))
      have HS10 := Lib.hid ((HS8.out.trans (hs.mono fun l hl e => by unfold Own at hl; omega)).trans (hs'.mono fun l hl e => by omega))
      have HW10 := Lib.hid hw10
      clear hs hR hv1 hxa hs' hx' hw10 HR8 HT8 HS8 HX8
      go_upto_region 11 with fail
      rw [← HW10.out]
      clear xc xf HW10
      go_wp2_with fail
      refine (rraw_any 2 b2 91 (cS2 C) w10 o8 (by omega) HR10.out (by omega) (by unfold Own; omega) (by omega)).mono ?_
      rintro e w11 ⟨v, rfl, o11, hs, hR, hrow⟩
      rw [show (rawR (cS2 C)).2 = cS3 C from rfl] at hR
      have hz : (rawR (cS2 C)).1.length ≤ 1000000 := Nat.le_trans (rawR_le _).2 hls2
      obtain ⟨B, hB⟩ : ∃ v, (rawR (cS2 C)).1 = v := ⟨_, rfl⟩
      rw [hB] at hrow hz
      obtain ⟨nB, hnB⟩ : ∃ v, B.length = v := ⟨_, rfl⟩
      rw [hnB] at hrow hz
      obtain ⟨va, vc, rfl⟩ := hrow.form
      have HV2 := Lib.hid hB
      have HNB := Lib.hid hnB
      have hxa := HX10.out.step hs (by unfold rdL Own; omega)
      have xc := hxa.cell (j := 2) rfl
      have xf := hxa.frozen 2
      have hs' := hxa.setStep 2 (.slice va nB vc)
      have hx' := hxa.set 2 (.slice va nB vc)
      obtain ⟨w12, hw12⟩ : ∃ x, x = w11.setCell ⟨gx, 2, none⟩ (.slice va nB vc) := ⟨_, rfl⟩
      rw [← hw12] at hs' hx'
      have HX12 := Lib.hid (show Blk w12 o11 60 gx [.int .i64 v0, .int .i64 v1, .slice va nB vc] from hx')
      have HR12 := Lib.hid (hR.step hs' (by omega) (fun l h => by unfold Own at h; omega))
      have HT12 := Lib.hid ((HT10.out.step hs (by unfold rdL Own; omega)).step hs' (by omega))
      have HS12 := Lib.hid ((HS10.out.trans (hs.mono fun l hl e => by unfold rdL Own at hl; omega)).trans (hs'.mono fun l hl e => by omega))
      have HK12 := Lib.hid (RowL.step hrow hs' (by omega))
      have HW12 := Lib.hid hw12
      clear hs hR hB hnB hrow hxa hs' hx' hw12 HR10 HT10 HS10 HX10
      go_upto_region 12 with fail
      rw [← HW12.out]
      clear xc xf HW12
      have hrd : rdP C = ⟨v0, v1, B⟩ := by unfold rdP; rw [HV0.out, HV1.out, HV2.out]
      have hE := HE2.out
      unfold inOk at hE
      rw [hrd] at hE
      have hD := HD.out
      rw [hrd] at hD
      obtain ⟨E2, hE2⟩ : ∃ S, endR (cS3 C) = S := ⟨_, rfl⟩
      rw [hE2] at hE
      have HEE := Lib.hid hE2
      have HE3 := Lib.hid hE
      have HD3 := Lib.hid hD
      clear hrd hE hD hE2 HE2 HD HV0 HV1 HV2
      go_wp2_with fail
      refine (rend_any 2 b2 (cS3 C) w12 o11 HR12.out).mono ?_
      rintro e w' ⟨rfl, rfl⟩
      rw [HEE.out]
      clear HEE
      by_cases h3 : E2 = 0
      · subst h3
        have kv := valid_any v0 v1 va vc B w12 (by rw [HNB.out]; omega)
        have hE := HE3.out
        rw [decide_eq_true rfl, Bool.true_and] at hE
        obtain ⟨ok, hok⟩ : ∃ x, pvalid ⟨v0, v1, B⟩ = x := ⟨_, rfl⟩
        rw [hok] at kv hE
        rw [HNB.out] at kv
        have KV := Lib.hid kv
        have HE4 := Lib.hid hE
        clear kv hE hok HE3
        have x0 := HX12.out.cell (j := 0) rfl
        have x1 := HX12.out.cell (j := 1) rfl
        have x2 := HX12.out.cell (j := 2) rfl
        go_wp2_with fail
        refine KV.out.mono ?_
        rintro e w13 ⟨rfl, hb⟩
        have hs : Step (fun _ => False) w12 o11 w13 o11 := Step.same hb
        have HT13 := Lib.hid (HT12.out.step hs fun h => h)
        have HS13 := Lib.hid (HS12.out.trans (hs.mono fun _ h => h.elim))
        have HX13 := Lib.hid (HX12.out.step hs fun h => h)
        have HK13 := Lib.hid (RowL.step HK12.out hs fun h => h)
        clear hb hs x0 x1 x2 HT12 HS12 HX12 HK12 KV
        cases ok with
        | true =>
          have hE := HE4.out
          rw [if_pos rfl] at hE
          have hD := HD3.out
          rw [if_pos hE.symm] at hD
          have HDD := Lib.hid hD
          have HEf := Lib.hid hE
          clear hE hD
          have x0 := HX13.out.cell (j := 0) rfl
          have x1 := HX13.out.cell (j := 1) rfl
          have x2 := HX13.out.cell (j := 2) rfl
          obtain ⟨hsq, hbq⟩ := HT13.out.put3 (.int .i64 v0) (.int .i64 v1) (.slice va nB vc)
          have HSQ := Lib.hid (HS13.out.trans (hsq.mono fun l hl e => by omega))
          have HBQ := Lib.hid hbq
          have HSQ0 := Lib.hid hsq
          have t0 := HT13.out.cell (j := 0) rfl
          have t1 := HT13.out.cell (j := 1) rfl
          have t2 := HT13.out.cell (j := 2) rfl
          have u0 := HT13.out.frozen 0
          have u1 := HT13.out.frozen 1
          have u2 := HT13.out.frozen 2
          clear hbq hsq
          go_wp2_with fail
          obtain ⟨tz, hz, _⟩ := HBQ.out
          exact bodyPost_ret (results_cell_two (fn := Try.f44) (p := 2) (u := 3) rfl _ _ _ _ _ _ _ rfl hz rfl rfl rfl) rfl ⟨va, vc, by rw [← HDD.out, ← HEf.out, HNB.out]; rfl, by rw [← HDD.out]; exact (RowL.step HK13.out HSQ0.out (by omega)).slice, HSQ.out.toBelow (Nat.le_refl _) fun k _ h => h rfl⟩
        | false =>
          have hE := HE4.out
          rw [if_neg (by decide)] at hE
          have hD := HD3.out
          rw [if_neg (by omega)] at hD
          have HDD := Lib.hid hD
          have HEf := Lib.hid hE
          clear hE hD
          obtain ⟨hsq, hbq⟩ := HT13.out.put3 (.int .i64 0) (.int .i64 0) (.slice none 0 0)
          have HSQ := Lib.hid (HS13.out.trans (hsq.mono fun l hl e => by omega))
          have HBQ := Lib.hid hbq
          have HSQ0 := Lib.hid hsq
          have t0 := HT13.out.cell (j := 0) rfl
          have t1 := HT13.out.cell (j := 1) rfl
          have t2 := HT13.out.cell (j := 2) rfl
          have u0 := HT13.out.frozen 0
          have u1 := HT13.out.frozen 1
          have u2 := HT13.out.frozen 2
          clear hbq hsq
          go_wp2_with fail
          obtain ⟨tz, hz, _⟩ := HBQ.out
          exact bodyPost_ret (results_cell_two (fn := Try.f44) (p := 2) (u := 3) rfl _ _ _ _ _ _ _ rfl hz rfl rfl rfl) rfl ⟨none, 0, by rw [← HDD.out, ← HEf.out]; rfl, by rw [← HDD.out]; exact slice_nil byteV _, HSQ.out.toBelow (Nat.le_refl _) fun k _ h => h rfl⟩
      · have hE := HE3.out
        rw [decide_eq_false h3, Bool.false_and, if_neg (by decide)] at hE
        have hD := HD3.out
        rw [if_neg (by omega)] at hD
        have HDD := Lib.hid hD
        have HEf := Lib.hid hE
        clear hE hD
        have hb1 : ((E2 : Int) != 0) = true := by simp; omega
        obtain ⟨hsq, hbq⟩ := HT12.out.put3 (.int .i64 0) (.int .i64 0) (.slice none 0 0)
        have HSQ := Lib.hid (HS12.out.trans (hsq.mono fun l hl e => by omega))
        have HBQ := Lib.hid hbq
        have HSQ0 := Lib.hid hsq
        have t0 := HT12.out.cell (j := 0) rfl
        have t1 := HT12.out.cell (j := 1) rfl
        have t2 := HT12.out.cell (j := 2) rfl
        have u0 := HT12.out.frozen 0
        have u1 := HT12.out.frozen 1
        have u2 := HT12.out.frozen 2
        clear hbq hsq
        go_wp2_with fail
        obtain ⟨tz, hz, _⟩ := HBQ.out
        exact bodyPost_ret (results_cell_two (fn := Try.f44) (p := 2) (u := 3) rfl _ _ _ _ _ _ _ rfl hz rfl rfl rfl) rfl ⟨none, 0, by rw [← HDD.out, ← HEf.out]; rfl, by rw [← HDD.out]; exact slice_nil byteV _, HSQ.out.toBelow (Nat.le_refl _) fun k _ h => h rfl⟩
    · have hE := HE1.out
      rw [if_pos h2] at hE
      have hD := HD.out
      rw [if_neg (by omega)] at hD
      have HDD := Lib.hid hD
      have HEf := Lib.hid hE
      clear hE hD
      have hb1 : ((S : Int) != (SC : Int)) = true := by simp; omega
      obtain ⟨hsq, hbq⟩ := HT5.out.put3 (.int .i64 0) (.int .i64 0) (.slice none 0 0)
      have HSQ := Lib.hid (HS5.out.trans (hsq.mono fun l hl e => by omega))
      have HBQ := Lib.hid hbq
      have HSQ0 := Lib.hid hsq
      have t0 := HT5.out.cell (j := 0) rfl
      have t1 := HT5.out.cell (j := 1) rfl
      have t2 := HT5.out.cell (j := 2) rfl
      have u0 := HT5.out.frozen 0
      have u1 := HT5.out.frozen 1
      have u2 := HT5.out.frozen 2
      clear hbq hsq
      go_wp2_with fail
      obtain ⟨tz, hz, _⟩ := HBQ.out
      exact bodyPost_ret (results_cell_two (fn := Try.f44) (p := 2) (u := 3) rfl _ _ _ _ _ _ _ rfl hz rfl rfl rfl) rfl ⟨none, 0, by rw [← HDD.out, ← HEf.out]; rfl, by rw [← HDD.out]; exact slice_nil byteV _, HSQ.out.toBelow (Nat.le_refl _) fun k _ h => h rfl⟩
  · have hE := HE.out
    rw [if_pos h1] at hE
    have hD := HD.out
    rw [if_neg (by omega)] at hD
    have HDD := Lib.hid hD
    have HEf := Lib.hid hE
    clear hE hD
    have hb1 : ((E1 : Int) != 0) = true := by simp; omega
    obtain ⟨hsq, hbq⟩ := HT4.out.put3 (.int .i64 0) (.int .i64 0) (.slice none 0 0)
    have HSQ := Lib.hid (HS4.out.trans (hsq.mono fun l hl e => by omega))
    have HBQ := Lib.hid hbq
    have HSQ0 := Lib.hid hsq
    have t0 := HT4.out.cell (j := 0) rfl
    have t1 := HT4.out.cell (j := 1) rfl
    have t2 := HT4.out.cell (j := 2) rfl
    have u0 := HT4.out.frozen 0
    have u1 := HT4.out.frozen 1
    have u2 := HT4.out.frozen 2
    clear hbq hsq
    go_wp2_with fail
    obtain ⟨tz, hz, _⟩ := HBQ.out
    exact bodyPost_ret (results_cell_two (fn := Try.f44) (p := 2) (u := 3) rfl _ _ _ _ _ _ _ rfl hz rfl rfl rfl) rfl ⟨none, 0, by rw [← HDD.out, ← HEf.out]; rfl, by rw [← HDD.out]; exact slice_nil byteV _, HSQ.out.toBelow (Nat.le_refl _) fun k _ h => h rfl⟩
end Go.Proofs.Ytmonpnikdheokaa
