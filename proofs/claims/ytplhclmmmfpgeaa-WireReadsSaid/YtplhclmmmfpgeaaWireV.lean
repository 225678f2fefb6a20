/-
  The reader of the reference model: Ints.
-/
import Derived.Test.YtplhclmmmfpgeaaWireU
namespace Go.Proofs.Ytplhclmmmfpgeaa
open Go Go.Proofs
open Go.RowKit
set_option linter.unusedVariables false
set_option linter.unusedSimpArgs false

theorem lenN_le (Q : RdS) : lenN Q ≤ Q.bs.length := by
  unfold lenN
  split
  · rename_i h
    have h1 := lenR_ok h
    have h2 := lenR_len Q
    omega
  · omega
theorem intsN (Q : RdS) : intsR Q = (if (manyR (lenN Q) (lenR Q).2).2.e = 0 then (manyR (lenN Q) (lenR Q).2).1 else [], (manyR (lenN Q) (lenR Q).2).2) := by
  by_cases h : (lenR Q).2.e = 0
  · rw [show lenN Q = (lenR Q).1 from by unfold lenN; rw [if_pos h]]
    rfl
  · unfold intsR
    rw [manyR_err h, manyR_err h]
set_option maxRecDepth 100000 in
set_option maxHeartbeats 4000000 in
theorem rfInts_any (i b lr : Nat) (Q : RdS) (w : World) (o : Nat → Nat) (hi : 1 ≤ i) (hQ : RdAt w o i b Q) (hl : Q.bs.length ≤ 1000) (hlr : ¬ Own i lr) (hlr0 : lr ≠ 0) :
    Calls Try.prog 54 #[.pointer (some ⟨b, 0, none⟩)] w fun e w' => Hid (∃ v o', e = .returned v ∧ Step (rdL lr i) w o w' o' ∧ (∃ Q', RdAt w' o' i b Q' ∧ Eqv Q' (intsR Q).2 ∧ Q'.bs.length ≤ Q.bs.length) ∧ RowL w' o' lr 3 1 v (intsR Q).1.length ((intsR Q).1.map intV)) := by
  have HQ := Lib.hid hQ
  have hln := lenN_le Q
  have hin := intsN Q
  clear hQ
  go_enter Try.func54, Try.ntmps54
  go_wp2_with fail
  refine (rfLength_any i b Q w o hi HQ.out hl).mono ?_
  obtain ⟨R2, hR2⟩ : ∃ R2, (lenR Q).2 = R2 := ⟨_, rfl⟩
  rw [hR2] at hin
  rw [hR2]
  generalize lenN Q = n at *
  rintro e w1 ⟨rfl, h1, Q2, h2, h3, h4⟩
  have HIN := Lib.hid hin
  have HS1 := Lib.hid h1
  have HQ2 := Lib.hid h2
  have HE2 := Lib.hid h3
  clear hin hR2 HQ h1 h2 h3
  go_wp2_with fail
  go_loopw [4, 5] (fun vv kv wr => ∃ (k : Nat) (A : List Int) (Q3 R3 : RdS) (o' : Nat → Nat), k ≤ n ∧ kv = .int .i64 k ∧ Q3.bs.length ≤ Q.bs.length ∧ Hid (Step (rdL lr i) w o wr o') ∧ Hid (RdAt wr o' i b Q3) ∧ Hid (Eqv Q3 R3) ∧ Hid (RowL wr o' lr 3 1 vv k (A.map intV)) ∧ Hid (A.length = k ∧ manyR n R2 = (A ++ (manyR (n - k) R3).1, (manyR (n - k) R3).2))) (fun _ kv _ => n - (intOf kv).toNat)
  case atStart => exact ⟨0, [], Q2, R2, o, by omega, rfl, h4, HS1.out.mono fun _ h => .inl h, HQ2.out, HE2.out, RowL.nil _ _ _ _ _, rfl, rfl⟩
  case round =>
    clear HQ2 HS1 HE2 h4
    obtain ⟨k, A, Q3, R3, o1, hk, rfl, h4, HS, HR, HEV, HV, HA⟩ := hrel
    have c1 : wr.cell? ⟨b, 1, none⟩ = some (.int .i64 Q3.e) := by obtain ⟨_, _, h, _⟩ := HR.out; exact h.cell rfl
    have hv0 := HV.out
    obtain ⟨va, vc, rfl⟩ := hv0.form
    clear hv0
    by_cases hkn : k < n
    · have d1 : decide ((k : Int) < (n : Int)) = true := decide_eq_true (by omega)
      have d2 : decide (k < n) = true := decide_eq_true hkn
      have hnk : n - k = (n - (k + 1)) + 1 := by omega
      by_cases he3 : R3.e = 0
      · have hq := HEV.out.eq he3
        subst hq
        have hz3 : ((Q3.e : Int) == 0) = true := by simpa using he3
        have hma : manyR (n - k) Q3 = ((intR Q3).1 :: (manyR (n - (k + 1)) (intR Q3).2).1, (manyR (n - (k + 1)) (intR Q3).2).2) := by
          rw [hnk]; simp only [manyR]; rw [if_pos he3]
        have hA2 : (A ++ [(intR Q3).1]).length = k + 1 ∧ manyR n R2 = (A ++ [(intR Q3).1] ++ (manyR (n - (k + 1)) (intR Q3).2).1, (manyR (n - (k + 1)) (intR Q3).2).2) := by
          refine ⟨by simp [HA.out.1], ?_⟩
          rw [HA.out.2, hma, List.append_assoc]
          rfl
        have HA2 := Lib.hid hA2
        clear hnk he3 hma hA2
        go_wp2_with fail
        refine (rfInt_any i b _ wr o1 hi HR.out (by omega)).mono ?_
        obtain ⟨z, hzz⟩ : ∃ z, (intR Q3).1 = z := ⟨_, rfl⟩
        rw [hzz] at HA2 ⊢
        rintro e w4 ⟨rfl, hs4, Q4, hr4, hev4, hl4⟩
        have HS4 := Lib.hid (HS.out.trans (hs4.mono fun _ h => .inl h))
        have HR4 := Lib.hid hr4
        have HEV4 := Lib.hid hev4
        have HV4 := Lib.hid (HV.out.step hs4 hlr)
        have hk7 : k ≤ 1000 := by omega
        clear hs4 hr4 c1 hzz hev4
        go_wp2_with (at_builtin; refine wpList_append_row rfl (.tmp 20) (.tmp 23) 33 rfl elemI rfl HV4.out ((Below.refl _ w4).alloc (Nat.le_refl _) _) (some ⟨w4.heap.size, 0, none⟩) 1 1 [.int .i64 z] rfl (row_new (cs := [.int .i64 z]) (by simp) (by omega)) (by simp [Value.oneCell']) (by omega) (by omega) ?_)
        intro v5 w5 hrow5 hs5
        have HS5 := Lib.hid (HS4.out.trans (hs5.mono fun _ h => .inr h))
        have HR5 := Lib.hid (HR4.out.step hs5 (fun e => hlr0 e.symm) (fun l h e => hlr (by rw [← e]; exact h)))
        have HV5 : Hid (RowL w5 (newLab w4 o1 lr) lr 3 1 v5 (k + 1) ((A ++ [z]).map intV)) := by rw [List.map_append]; exact hrow5
        clear hrow5 hs5
        go_wp2_with fail
        go_roundw
        case rel => exact ⟨k + 1, A ++ [z], _, _, _, by omega, by go_num, by omega, HS5.out, HR5.out, HEV4.out, HV5.out, HA2.out⟩
        case measure => simp [intOf]; omega
      · have hz3 : ((Q3.e : Int) == 0) = false := by rw [HEV.out.1]; simpa using he3
        have hz3' : ((Q3.e : Int) != 0) = true := by rw [HEV.out.1]; simpa using he3
        have e1 : intsR Q = ([], R3) := by
          have hma : manyR (n - k) R3 = ([], R3) := manyR_err he3 _
          rw [HIN.out, HA.out.2, hma]
          simp only
          rw [if_neg he3]
        have E1 := Lib.hid e1
        clear e1 he3 hnk
        go_wp2_with fail
        go_ret
        unfold Hid
        rw [E1.out]
        exact ⟨_, o1, rfl, HS.out, ⟨_, HR.out, HEV.out, h4⟩, RowL.nil _ _ _ _ _⟩
    · have d1 : decide ((k : Int) < (n : Int)) = false := decide_eq_false (by omega)
      have d2 : decide (k < n) = false := decide_eq_false hkn
      obtain rfl : k = n := by omega
      have hma : manyR (k - k) R3 = ([], R3) := by rw [Nat.sub_self]; rfl
      by_cases he3 : R3.e = 0
      · have hz3 : ((Q3.e : Int) != 0) = false := by rw [HEV.out.1]; simpa using he3
        have e1 : intsR Q = (A, R3) := by
          rw [HIN.out, HA.out.2, hma]
          simp only [List.append_nil]
          rw [if_pos he3]
        have E1 := Lib.hid e1
        clear e1 he3 hma
        go_wp2_with fail
        go_ret
        unfold Hid
        rw [E1.out]
        simp only
        rw [HA.out.1]
        exact ⟨_, o1, rfl, HS.out, ⟨_, HR.out, HEV.out, h4⟩, HV.out⟩
      · have hz3 : ((Q3.e : Int) != 0) = true := by rw [HEV.out.1]; simpa using he3
        have e1 : intsR Q = ([], R3) := by
          rw [HIN.out, HA.out.2, hma]
          simp only
          rw [if_neg he3]
        have E1 := Lib.hid e1
        clear e1 he3 hma
        go_wp2_with fail
        go_ret
        unfold Hid
        rw [E1.out]
        exact ⟨_, o1, rfl, HS.out, ⟨_, HR.out, HEV.out, h4⟩, RowL.nil _ _ _ _ _⟩
theorem rfInts0_any (i b : Nat) (Q : RdS) (w : World) (o : Nat → Nat) (hi : 1 ≤ i) (hQ : RdAt w o i b Q) (hl : Q.bs.length ≤ 1000) :
    Calls Try.prog 54 #[.pointer (some ⟨b, 0, none⟩)] w fun e w' => ∃ a c, e = .returned (.slice a (intsR Q).1.length c) ∧ ∃ o', Step (Own i) w o w' o' ∧ (∃ Q', RdAt w' o' i b Q' ∧ Eqv Q' (intsR Q).2 ∧ Q'.bs.length ≤ Q.bs.length) ∧ Dat w' o' 0 a c ((intsR Q).1.map intV) := by
  obtain ⟨lr, h1, h2, hf⟩ := fresh_lab w o i 0
  refine (rfInts_any i b lr Q w o hi hQ hl (by unfold Own; omega) (by omega)).mono ?_
  intro e w' h
  obtain ⟨v, o', rfl, hs, ⟨Q', hr, hev, hlq⟩, hv⟩ := h.out
  obtain ⟨a, c, rfl⟩ := hv.form
  exact ⟨a, c, rfl, reLab o' lr, (hs.sub fun k hk h => h.elim id fun h => absurd h (hf k hk)).relabel hf, ⟨Q', hr.relabel (by omega) (by omega), hev, hlq⟩, hv.relabel⟩
end Go.Proofs.Ytplhclmmmfpgeaa
