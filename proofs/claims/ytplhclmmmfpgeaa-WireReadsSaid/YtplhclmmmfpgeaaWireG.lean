/-
  Lists of numbers read; what is written is read again.
-/
import Derived.Test.YtplhclmmmfpgeaaWireD
namespace Go.Proofs.Ytplhclmmmfpgeaa
open Go Go.Proofs
open Go.RowKit
set_option linter.unusedVariables false
set_option linter.unusedSimpArgs false

set_option maxHeartbeats 4000000 in
theorem listi_any (i b lr : Nat) (R : RdS) (w : World) (o : Nat → Nat) (hi : 1 ≤ i) (hR : RdAt w o i b R) (hl : R.bs.length ≤ 8796093022208) (hlr : ¬ Own i lr) (hlr0 : lr ≠ 0) :
    Calls Try.prog 57 #[.pointer (some ⟨b, 0, none⟩), .func (.func 42) #[.pointer (some ⟨b, 0, none⟩)] #[]] w fun e w' => ∃ v, e = .returned v ∧ ∃ o', Step (rdL lr i) w o w' o' ∧ RdAt w' o' i b (intsR R).2 ∧ RowL w' o' lr 3 1 v (intsR R).1.length ((intsR R).1.map intV) := by
  have HR := Lib.hid hR
  have hLO := @lenR_ok R
  have hLL := lenR_len R
  have hul := uintR_lt R
  have hub := uintR_len R
  have HLO := Lib.hid hLO
  obtain ⟨n, hn⟩ : ∃ n, (uintR R).1 = n := ⟨_, rfl⟩
  obtain ⟨R1, hR1⟩ : ∃ R1, (uintR R).2 = R1 := ⟨_, rfl⟩
  have hlen : lenR R = (n, if R1.bs.length < n then failR R1 3 else R1) := by unfold lenR; rw [hn, hR1]
  rw [hn] at hul
  rw [hR1] at hub
  have HN := Lib.hid hn
  have HR1 := Lib.hid hR1
  have HLEN := Lib.hid hlen
  clear hR hLO hn hR1 hlen
  go_enter Try.func57, Try.ntmps57
  go_wp2_with fail
  refine (ruint_any i b R w o hi HR.out).mono ?_
  rw [HN.out, HR1.out]
  rintro e w1 ⟨rfl, hs1, hr1⟩
  have c0 : ∃ a c, w1.cell? ⟨b, 0, none⟩ = some (.slice a R1.bs.length c) := by obtain ⟨a, c, h, _⟩ := hr1; exact ⟨a, c, h.cell rfl⟩
  obtain ⟨a0, k0, c0⟩ := c0
  have HS1 := Lib.hid hs1
  have HRA := Lib.hid hr1
  clear hs1 hr1
  have key : ∀ (R2 : RdS) (w2 : World), Hid (lenR R = (n, R2)) → Hid (Step (Own i) w o w2 o) → Hid (RdAt w2 o i b R2) → True := fun _ _ _ _ _ => trivial
  clear key
  go_upto_if 17 with fail
  go_cut [] (fun wx => ∃ R2, Hid (lenR R = (n, R2)) ∧ Hid (Step (Own i) w o wx o) ∧ Hid (RdAt wx o i b R2))
  case first =>
    by_cases hbig : R1.bs.length < n
    · have d1 : decide ((R1.bs.length : Int) < (n : Int)) = true := decide_eq_true (by omega)
      have d2 : decide (R1.bs.length < n) = true := decide_eq_true hbig
      go_wp2_with fail
      refine (fail_any i b R1 3 w1 o hi HRA.out).mono ?_
      rintro e w2 ⟨rfl, hs2, hr2⟩
      have HS2 := Lib.hid (HS1.out.trans hs2)
      have HR2 := Lib.hid hr2
      clear hs2 hr2
      go_wp2_with fail
      go_meet
      exact ⟨_, by have h := HLEN.out; rw [if_pos (by omega)] at h; exact h, HS2.out, HR2.out⟩
    · have d1 : decide ((R1.bs.length : Int) < (n : Int)) = false := decide_eq_false (by omega)
      have d2 : decide (R1.bs.length < n) = false := decide_eq_false hbig
      go_wp2_with fail
      go_meet
      exact ⟨_, by have h := HLEN.out; rw [if_neg (by omega)] at h; exact h, HS1.out, HRA.out⟩
  case rest =>
    clear HLEN HRA c0 HS1
    obtain ⟨R2, HLEN, HS2, HR2⟩ := hcut
    obtain ⟨w2, hw2⟩ : ∃ x, x = wc := ⟨_, rfl⟩
    subst hw2
    have c1 : w2.cell? ⟨b, 1, none⟩ = some (.int .i64 R2.e) := by obtain ⟨_, _, h, _⟩ := HR2.out; exact h.cell rfl
    have hraw : intsR R = (if (manyR n R2).2.e = 0 then (manyR n R2).1 else [], (manyR n R2).2) := by unfold intsR; rw [HLEN.out]
    have HRAW := Lib.hid hraw
    have hLO := HLO.out
    rw [HLEN.out] at hLO hLL
    simp only at hLO hLL
    by_cases he : R2.e = 0
    · have hz : ((R2.e : Int) == 0) = true := by simpa using he
      have hnl := (hLO he).1
      have HE := Lib.hid he
      clear hraw hLO he
      go_wp2_with fail
      go_loopw [6, 7] (fun vv kv wr => ∃ (k : Nat) (A : List Int) (R3 : RdS) (o' : Nat → Nat), k ≤ n ∧ kv = .int .u64 k ∧ Hid (Step (rdL lr i) w o wr o') ∧ Hid (RdAt wr o' i b R3) ∧ Hid (RowL wr o' lr 3 1 vv k (A.map intV)) ∧ Hid (A.length = k ∧ manyR n R2 = (A ++ (manyR (n - k) R3).1, (manyR (n - k) R3).2))) (fun _ kv _ => n - (intOf kv).toNat)
      case atStart => exact ⟨0, [], R2, o, by omega, rfl, HS2.out.mono fun _ h => .inl h, HR2.out, RowL.nil _ _ _ _ _, rfl, rfl⟩
      case round =>
        clear HR2 HS2 c1
        obtain ⟨k, A, R3, o1, hk, rfl, HS, HR, HV, HA⟩ := hrel
        have c1 : wr.cell? ⟨b, 1, none⟩ = some (.int .i64 R3.e) := by obtain ⟨_, _, h, _⟩ := HR.out; exact h.cell rfl
        by_cases hkn : k < n
        · have d1 : decide ((k : Int) < (n : Int)) = true := decide_eq_true (by omega)
          have d2 : decide (k < n) = true := decide_eq_true hkn
          have hnk : n - k = (n - (k + 1)) + 1 := by omega
          by_cases he3 : R3.e = 0
          · have hz3 : ((R3.e : Int) == 0) = true := by simpa using he3
            have hma : manyR (n - k) R3 = ((intR R3).1 :: (manyR (n - (k + 1)) (intR R3).2).1, (manyR (n - (k + 1)) (intR R3).2).2) := by
              rw [hnk]; simp only [manyR]; rw [if_pos he3]
            have hA2 : (A ++ [(intR R3).1]).length = k + 1 ∧ manyR n R2 = (A ++ [(intR R3).1] ++ (manyR (n - (k + 1)) (intR R3).2).1, (manyR (n - (k + 1)) (intR R3).2).2) := by
              refine ⟨by simp [HA.out.1], ?_⟩
              rw [HA.out.2, hma, List.append_assoc]
              rfl
            have HA2 := Lib.hid hA2
            clear hnk he3 hma hA2
            go_wp2_with fail
            refine (rint_any i b _ wr o1 hi HR.out).mono ?_
            obtain ⟨z, hzz⟩ : ∃ z, (intR R3).1 = z := ⟨_, rfl⟩
            rw [hzz] at HA2 ⊢
            rintro e w4 ⟨rfl, hs4, hr4⟩
            have HS4 := Lib.hid (HS.out.trans (hs4.mono fun _ h => .inl h))
            have HR4 := Lib.hid hr4
            have hv4 := HV.out.step hs4 hlr
            obtain ⟨va, vc, rfl⟩ := hv4.form
            have HV4 := Lib.hid hv4
            have hk7 : k ≤ 8796093022208 := by omega
            clear hs4 hr4 hv4 c1 hzz
            go_wp2_with (at_builtin; refine wpList_append_row rfl (.tmp 32) (.tmp 35) 33 rfl elemI rfl HV4.out ((Below.refl _ w4).alloc (Nat.le_refl _) _) (some ⟨w4.heap.size, 0, none⟩) 1 1 [.int .i64 z] rfl (row_new (cs := [.int .i64 z]) (by simp) (by omega)) (by simp [Value.oneCell']) (by omega) (by omega) ?_)
            intro v5 w5 hrow5 hs5
            have HS5 := Lib.hid (HS4.out.trans (hs5.mono fun _ h => .inr h))
            have HR5 := Lib.hid (HR4.out.step hs5 (fun e => hlr0 e.symm) (fun l h e => hlr (by rw [← e]; exact h)))
            have HV5 : Hid (RowL w5 (newLab w4 o1 lr) lr 3 1 v5 (k + 1) ((A ++ [z]).map intV)) := by rw [List.map_append]; exact hrow5
            clear hrow5 hs5
            go_wp2_with fail
            go_roundw
            case rel => exact ⟨k + 1, A ++ [z], _, _, by omega, by go_num, HS5.out, HR5.out, HV5.out, HA2.out⟩
            case measure => simp [intOf]; omega
          · have hz3 : ((R3.e : Int) == 0) = false := by simpa using he3
            have hz3' : ((R3.e : Int) != 0) = true := by simpa using he3
            have e1 : intsR R = ([], R3) := by
              have hma : manyR (n - k) R3 = ([], R3) := by rw [hnk]; simp only [manyR]; rw [if_neg he3]
              rw [HRAW.out, HA.out.2, hma]
              simp only
              rw [if_neg he3]
            have E1 := Lib.hid e1
            clear e1 he3 hnk
            go_wp2_with fail
            go_ret
            rw [E1.out]
            exact ⟨_, rfl, o1, HS.out, HR.out, RowL.nil _ _ _ _ _⟩
        · have d1 : decide ((k : Int) < (n : Int)) = false := decide_eq_false (by omega)
          have d2 : decide (k < n) = false := decide_eq_false hkn
          obtain rfl : k = n := by omega
          have hma : manyR (k - k) R3 = ([], R3) := by rw [Nat.sub_self]; rfl
          by_cases he3 : R3.e = 0
          · have hz3 : ((R3.e : Int) != 0) = false := by simpa using he3
            have e1 : intsR R = (A, R3) := by
              rw [HRAW.out, HA.out.2, hma]
              simp only [List.append_nil]
              rw [if_pos he3]
            have E1 := Lib.hid e1
            clear e1 he3 hma
            go_wp2_with fail
            go_ret
            rw [E1.out]
            simp only
            rw [HA.out.1]
            exact ⟨_, rfl, o1, HS.out, HR.out, HV.out⟩
          · have hz3 : ((R3.e : Int) != 0) = true := by simpa using he3
            have e1 : intsR R = ([], R3) := by
              rw [HRAW.out, HA.out.2, hma]
              simp only
              rw [if_neg he3]
            have E1 := Lib.hid e1
            clear e1 he3 hma
            go_wp2_with fail
            go_ret
            rw [E1.out]
            exact ⟨_, rfl, o1, HS.out, HR.out, RowL.nil _ _ _ _ _⟩
    · have hz : ((R2.e : Int) == 0) = false := by simpa using he
      have hz' : ((R2.e : Int) != 0) = true := by simpa using he
      have HE := Lib.hid he
      have hma : manyR n R2 = ([], R2) := by
        cases n with
        | zero => rfl
        | succ n => simp only [manyR]; rw [if_neg he]
      have e1 : intsR R = ([], R2) := by rw [HRAW.out, hma]; simp only; rw [if_neg he]
      have E1 := Lib.hid e1
      clear hraw hLO he e1 hma
      go_wp2_with fail
      go_loopw [6, 7] (fun vv kv wr => vv = .slice none 0 0 ∧ kv = .int .u64 0 ∧ wr = w2) (fun _ kv _ => 0)
      case atStart => exact ⟨rfl, rfl, rfl⟩
      case round =>
        obtain ⟨rfl, rfl, rfl⟩ := hrel
        by_cases hn0 : 0 < n
        all_goals
          first
          | have d1 : decide ((0 : Int) < (n : Int)) = true := decide_eq_true (by omega)
            have d2 : decide (0 < n) = true := decide_eq_true (by omega)
            go_wp2_with fail
            go_ret
            rw [E1.out]
            exact ⟨_, rfl, o, HS2.out.mono fun _ h => .inl h, HR2.out, RowL.nil _ _ _ _ _⟩
          | have d1 : decide ((0 : Int) < (n : Int)) = false := decide_eq_false (by omega)
            have d2 : decide (0 < n) = false := decide_eq_false (by omega)
            go_wp2_with fail
            go_ret
            rw [E1.out]
            exact ⟨_, rfl, o, HS2.out.mono fun _ h => .inl h, HR2.out, RowL.nil _ _ _ _ _⟩

theorem rints_any (i b lr : Nat) (R : RdS) (w : World) (o : Nat → Nat) (hi : 1 ≤ i) (hR : RdAt w o i b R) (hl : R.bs.length ≤ 8796093022208) (hlr : ¬ Own i lr) (hlr0 : lr ≠ 0) :
    Calls Try.prog 33 #[.pointer (some ⟨b, 0, none⟩)] w fun e w' => ∃ v, e = .returned v ∧ ∃ o', Step (rdL lr i) w o w' o' ∧ RdAt w' o' i b (intsR R).2 ∧ RowL w' o' lr 3 1 v (intsR R).1.length ((intsR R).1.map intV) := by
  have HR := Lib.hid hR
  clear hR
  go_enter Try.func33, Try.ntmps33
  go_wp2_with fail
  refine (listi_any i b lr R w o hi HR.out hl hlr hlr0).mono ?_
  rintro e w1 ⟨v, rfl, o1, hs, hr, hv⟩
  go_wp2_with fail
  go_ret
  exact ⟨v, rfl, o1, hs, hr, hv⟩

/-! ### What is written is read again -/
theorem rdU_enc : ∀ (k m i n : Nat) (t : List UInt8), m ≤ k → i ≤ 9 → m * 128 ^ i < 18446744073709551616 → (0 < i → 0 < m) → rdU i n (encU m ++ t) = (n + m * 128 ^ i, ⟨t, 0⟩) := by
  intro k
  induction k with
  | zero =>
    intro m i n t hm hi hlt h0
    obtain rfl : m = 0 := by omega
    rw [encU_small (by omega)]
    obtain rfl : i = 0 := by omega
    rfl
  | succ k ih =>
    intro m i n t hm hi hlt h0
    by_cases h : m < 128
    · rw [encU_small h]
      have hc : (UInt8.ofNat m).toNat = m := by rw [UInt8.toNat_ofNat']; omega
      simp only [List.cons_append, List.nil_append, rdU, hc]
      have hbad : ¬ ((i = 9 ∧ 1 < m) ∨ (0 < i ∧ m = 0)) := by
        rintro (⟨h1, h2⟩ | ⟨h1, h2⟩)
        · subst h1; have := Nat.mul_le_mul_right (128 ^ 9) (show 2 ≤ m from h2); omega
        · have := h0 h1; omega
      rw [if_neg hbad, if_pos h]
    · rw [encU_big (by omega)]
      have hc : (UInt8.ofNat (m % 128 + 128)).toNat = m % 128 + 128 := by rw [UInt8.toNat_ofNat']; omega
      have hi9 : i ≠ 9 := by
        intro h1; subst h1; have := Nat.mul_le_mul_right (128 ^ 9) (show 2 ≤ m by omega); omega
      simp only [List.cons_append, rdU, hc]
      rw [if_neg (by omega), if_neg (by omega)]
      have hd : m / 128 * 128 + m % 128 = m := by omega
      have hmul : m / 128 * 128 ^ (i + 1) + m % 128 * 128 ^ i = m * 128 ^ i := by
        rw [Nat.pow_succ, Nat.mul_comm (128 ^ i) 128, ← Nat.mul_assoc, ← Nat.add_mul, hd]
      rw [ih (m / 128) (i + 1) _ t (by omega) (by omega) (by omega) (by omega)]
      rw [show m % 128 + 128 - 128 = m % 128 by omega]
      congr 1
      omega
theorem uintR_enc {m : Nat} (h : m < 18446744073709551616) (t : List UInt8) : uintR ⟨encU m ++ t, 0⟩ = (m, ⟨t, 0⟩) := by
  unfold uintR
  rw [if_pos rfl]
  have := rdU_enc m m 0 0 t (Nat.le_refl _) (by omega) (by omega) (by omega)
  simpa using this
theorem unz_zig {n : Int} : unzN (zigN n) = n := by
  unfold unzN zigN
  split <;> split <;> omega
theorem intR_enc {n : Int} (h1 : -9223372036854775808 ≤ n) (h2 : n ≤ 9223372036854775807) (t : List UInt8) : intR ⟨encI n ++ t, 0⟩ = (n, ⟨t, 0⟩) := by
  unfold intR encI
  rw [uintR_enc (zigN_lt h1 h2)]
  simp only [unz_zig]
theorem rawR_enc {bs : List UInt8} (h : bs.length < 18446744073709551616) (t : List UInt8) : rawR ⟨encR bs ++ t, 0⟩ = (bs, ⟨t, 0⟩) := by
  have hl : lenR ⟨encR bs ++ t, 0⟩ = (bs.length, ⟨bs ++ t, 0⟩) := by
    unfold lenR encR
    rw [List.append_assoc, uintR_enc h]
    simp only
    rw [if_neg (by simp)]
  unfold rawR
  rw [hl]
  simp
theorem manyR_enc : ∀ (l : List Int) (t : List UInt8), (∀ n ∈ l, -9223372036854775808 ≤ n ∧ n ≤ 9223372036854775807) → manyR l.length ⟨l.flatMap encI ++ t, 0⟩ = (l, ⟨t, 0⟩)
  | [], t, _ => rfl
  | n :: l, t, h => by
    have h1 := h n (by simp)
    simp only [List.length_cons, manyR, List.flatMap_cons, List.append_assoc]
    rw [if_pos trivial, intR_enc h1.1 h1.2]
    simp only
    rw [manyR_enc l t fun m hm => h m (by simp [hm])]
theorem encI_pos (n : Int) : 1 ≤ (encI n).length := by
  unfold encI
  by_cases h : zigN n < 128
  · rw [encU_small h]; simp
  · rw [encU_big (by omega)]; simp
theorem encIs_pos (l : List Int) : l.length ≤ (l.flatMap encI).length := by
  induction l with
  | nil => simp
  | cons n l ih => have := encI_pos n; simp only [List.flatMap_cons, List.length_append, List.length_cons]; omega
theorem intsR_enc {l : List Int} (hl : l.length < 18446744073709551616) (h : ∀ n ∈ l, -9223372036854775808 ≤ n ∧ n ≤ 9223372036854775807) (t : List UInt8) : intsR ⟨encIs l ++ t, 0⟩ = (l, ⟨t, 0⟩) := by
  have hlen : lenR ⟨encIs l ++ t, 0⟩ = (l.length, ⟨l.flatMap encI ++ t, 0⟩) := by
    unfold lenR encIs
    rw [List.append_assoc, uintR_enc hl]
    simp only
    rw [if_neg (by have := encIs_pos l; simp only [List.length_append]; omega)]
  unfold intsR
  rw [hlen]
  simp only
  rw [manyR_enc l t h]
  simp
end Go.Proofs.Ytplhclmmmfpgeaa
