/-
  The reader of the reference model: Int, Bool, length, End.
-/
import Derived.Test.YtplhclmmmfpgeaaWireS
namespace Go.Proofs.Ytplhclmmmfpgeaa
open Go Go.Proofs
open Go.RowKit
set_option linter.unusedVariables false
set_option linter.unusedSimpArgs false

theorem rfBack_any (z : Nat) (w : World) (h : z < 18446744073709551616) :
    Calls Try.prog 63 #[.int .u64 z] w fun e w' => e = .returned (.int .i64 (unzN z)) ∧ w = w' := by
  by_cases hz : z % 2 = 1
  · have d1 : (((z : Int) % 2) == 1) = true := beq_iff_eq.2 (by omega)
    have e1 : unzN z = -((z / 2 : Nat) : Int) - 1 := by unfold unzN; rw [if_pos hz]
    obtain ⟨q, hq⟩ : ∃ q : Nat, q = z / 2 := ⟨_, rfl⟩
    have hq1 : (z : Int) / 2 = (q : Int) := by omega
    have hq2 : q < 9223372036854775808 := by omega
    have HE := Lib.hid e1
    have HQ := Lib.hid hq
    clear e1 hq hz
    go_enter Try.func63, Try.ntmps63
    go_wp2_with fail
    go_ret
    exact ⟨ret_int (by first | (rw [HE.out, ← HQ.out]; done) | (rw [HE.out, ← HQ.out]; omega) | (rw [HE.out, ← HQ.out]; simp only [IntKind.wrap, IntKind.bits, IntKind.signed]; omega)), rfl⟩
  · have d1 : (((z : Int) % 2) == 1) = false := beq_eq_false_iff_ne.2 (by omega)
    have e1 : unzN z = ((z / 2 : Nat) : Int) := by unfold unzN; rw [if_neg hz]
    obtain ⟨q, hq⟩ : ∃ q : Nat, q = z / 2 := ⟨_, rfl⟩
    have hq1 : (z : Int) / 2 = (q : Int) := by omega
    have hq2 : q < 9223372036854775808 := by omega
    have HE := Lib.hid e1
    have HQ := Lib.hid hq
    clear e1 hq hz
    go_enter Try.func63, Try.ntmps63
    go_wp2_with fail
    go_ret
    exact ⟨ret_int (by first | (rw [HE.out, ← HQ.out]; done) | (rw [HE.out, ← HQ.out]; omega) | (rw [HE.out, ← HQ.out]; simp only [IntKind.wrap, IntKind.bits, IntKind.signed]; omega)), rfl⟩
theorem rfInt_any (i b : Nat) (Q : RdS) (w : World) (o : Nat → Nat) (hi : 1 ≤ i) (hQ : RdAt w o i b Q) (hl : Q.bs.length ≤ 1000) :
    Calls Try.prog 51 #[.pointer (some ⟨b, 0, none⟩)] w fun e w' => e = .returned (.int .i64 (intR Q).1) ∧ Step (Own i) w o w' o ∧ ∃ Q', RdAt w' o i b Q' ∧ Eqv Q' (intR Q).2 ∧ Q'.bs.length ≤ Q.bs.length := by
  have HQ := Lib.hid hQ
  clear hQ
  go_enter Try.func51, Try.ntmps51
  go_wp2_with fail
  refine (rfUint_any i b Q w o hi HQ.out hl).mono ?_
  rintro e w1 ⟨rfl, h1, Q', h2, h3, h4⟩
  have H1 := Lib.hid h1
  have H2 := Lib.hid h2
  clear h1 h2
  go_wp2_with fail
  refine (rfBack_any _ w1 (uintR_lt Q)).mono ?_
  rintro e w2 ⟨rfl, rfl⟩
  go_wp2_with fail
  go_ret
  exact ⟨rfl, H1.out, Q', H2.out, h3, h4⟩
theorem rfEnd_any (i b : Nat) (R : RdS) (w : World) (o : Nat → Nat) (hR : RdAt w o i b R) :
    Calls Try.prog 26 #[.pointer (some ⟨b, 0, none⟩)] w fun e w' => e = .returned (.int .i64 (endR R)) ∧ w = w' := by
  obtain ⟨a, c, h1, h2⟩ := hR
  have c0 := h1.cell (j := 0) rfl
  have c1 := h1.cell (j := 1) rfl
  clear h1 h2
  by_cases he : R.e = 0
  · have hz : ((R.e : Int) == 0) = true := by rw [he]; rfl
    by_cases hb : 0 < R.bs.length
    · have d1 : decide ((0 : Int) < (R.bs.length : Int)) = true := decide_eq_true (by omega)
      have e1 : endR R = 2 := by unfold endR; rw [if_pos ⟨he, hb⟩]
      rw [e1]
      clear e1 he
      go_enter Try.func26, Try.ntmps26
      go_wp2_with fail
      go_ret
      exact ⟨rfl, rfl⟩
    · have d1 : decide ((0 : Int) < (R.bs.length : Int)) = false := decide_eq_false (by omega)
      have e1 : endR R = R.e := by unfold endR; rw [if_neg (fun h => hb h.2)]
      rw [e1]
      clear e1 he
      go_enter Try.func26, Try.ntmps26
      go_wp2_with fail
      go_ret
      exact ⟨rfl, rfl⟩
  · have hz : ((R.e : Int) == 0) = false := by simpa using he
    have e1 : endR R = R.e := by unfold endR; rw [if_neg (fun h => he h.1)]
    rw [e1]
    clear e1 he
    go_enter Try.func26, Try.ntmps26
    go_wp2_with fail
    go_ret
    exact ⟨rfl, rfl⟩
set_option maxRecDepth 100000 in
set_option maxHeartbeats 4000000 in
theorem rfBool_any (i b : Nat) (Q : RdS) (w : World) (o : Nat → Nat) (hi : 1 ≤ i) (hQ : RdAt w o i b Q) (hl : Q.bs.length ≤ 1000) :
    Calls Try.prog 52 #[.pointer (some ⟨b, 0, none⟩)] w fun e w' => e = .returned (.bool (boolR Q).1) ∧ Step (Own i) w o w' o ∧ ∃ Q', RdAt w' o i b Q' ∧ Eqv Q' (boolR Q).2 ∧ Q'.bs.length ≤ Q.bs.length := by
  have HQ := Lib.hid hQ
  obtain ⟨a, c, h1, h2⟩ := hQ
  have c0 := h1.cell (j := 0) rfl
  have c1 := h1.cell (j := 1) rfl
  have f0 := h1.frozen 0
  have f1 := h1.frozen 1
  have hle := h2.slice.le
  have hmx := h2.slice.max
  simp only [List.length_map] at hle
  have H2 := Lib.hid h2
  clear h1 h2
  by_cases he : Q.e = 0
  · have hz : ((Q.e : Int) == 0) = true := by rw [he]; rfl
    have hz' : ((Q.e : Int) != 0) = false := by rw [he]; rfl
    by_cases hk : 0 < Q.bs.length
    · have d1 : ((Q.bs.length : Int) == 0) = false := beq_eq_false_iff_ne.2 (by omega)
      obtain ⟨db, off, rfl⟩ := H2.out.slice.addr (by simp; omega)
      have f := H2.out.slice.byteV hk
      rw [Nat.add_zero] at f
      obtain ⟨x, hx⟩ : ∃ x, x = Q.bs[0] := ⟨_, rfl⟩
      have hdr : Q.bs = x :: Q.bs.drop 1 := by rw [hx]; exact List.drop_eq_getElem_cons hk
      rw [← hx] at f
      have hb : boolR Q = (decide (x.toNat = 1), if 1 < x.toNat then ⟨Q.bs.drop 1, 2⟩ else ⟨Q.bs.drop 1, 0⟩) := by
        have hn : nextR Q = (x, ⟨Q.bs.drop 1, 0⟩) := by
          unfold nextR
          rw [if_neg (fun h => h he)]
          split
          · rename_i h; rw [h] at hk; simp at hk
          · rename_i y ys h
            have h5 := h.symm.trans hdr
            injection h5 with h6 h7
            rw [h6, h7]
        unfold boolR
        rw [hn]
        simp [failR]
      obtain ⟨xn, hxn⟩ : ∃ xn : Nat, xn = x.toNat := ⟨_, rfl⟩
      rw [← hxn] at hb f
      have HB := Lib.hid hb
      have HHE := Lib.hid he
      clear hb he hx hdr hxn
      by_cases h1 : 1 < xn
      · have t1 : decide ((1 : Int) < (xn : Int)) = true := decide_eq_true (by omega)
        have HSE := Lib.hid (HQ.out.seterr hi 2)
        have hb : boolR Q = (false, ⟨Q.bs.drop 1, 2⟩) := by rw [HB.out, if_pos h1, decide_eq_false (by omega)]
        have HB2 := Lib.hid hb
        clear hb HB H2
        go_enter Try.func52, Try.ntmps52
        go_wp2_with fail
        go_ret
        rw [HB2.out]
        exact ⟨rfl, HSE.out.2, _, HSE.out.1, .err (n := 2) (by omega) rfl rfl, Nat.le_refl _⟩
      · have t1 : decide ((1 : Int) < (xn : Int)) = false := decide_eq_false (by omega)
        have t2 : ((xn : Int) == 1) = decide (xn = 1) := by rw [Bool.eq_iff_iff]; simp; omega
        have hb : boolR Q = (decide (xn = 1), ⟨Q.bs.drop 1, 0⟩) := by rw [HB.out, if_neg h1]
        have hlt : (Q.bs.drop 1).length = Q.bs.length - 1 := List.length_drop
        have HL3 := Lib.hid hlt
        have HB2 := Lib.hid hb
        generalize decide (xn = 1) = D at *
        by_cases hck : c = 1
        · have HSB := Lib.hid (HQ.out.setbs hi (some ⟨db, off, none⟩) (Q.bs.length - 1) 0 (Q.bs.drop 1) hlt.symm (Dat.dropAll (by omega)))
          clear hb hlt HB H2
          go_enter Try.func52, Try.ntmps52
          go_wp2_with fail
          go_ret
          rw [HB2.out]
          exact ⟨rfl, HSB.out.2, _, HSB.out.1, ⟨HHE.out, fun _ => rfl⟩, by show (Q.bs.drop 1).length ≤ _; rw [HL3.out]; omega⟩
        · have HSB := Lib.hid (HQ.out.setbs hi (some ⟨db, off + 1, none⟩) (Q.bs.length - 1) (c - 1) (Q.bs.drop 1) hlt.symm (H2.out.drop (by omega) (by omega) hck))
          clear hb hlt HB H2
          go_enter Try.func52, Try.ntmps52
          go_wp2_with fail
          go_ret
          rw [HB2.out]
          exact ⟨rfl, HSB.out.2, _, HSB.out.1, ⟨HHE.out, fun _ => rfl⟩, by show (Q.bs.drop 1).length ≤ _; rw [HL3.out]; omega⟩
    · have d1 : ((Q.bs.length : Int) == 0) = true := beq_iff_eq.2 (by omega)
      have hb : boolR Q = (false, ⟨[], 3⟩) := by
        have hn : nextR Q = (0, ⟨[], 3⟩) := by
          unfold nextR
          rw [if_neg (fun h => h he), List.eq_nil_of_length_eq_zero (show Q.bs.length = 0 by omega)]
        unfold boolR
        rw [hn]
        simp
      have HB2 := Lib.hid hb
      have HSE := Lib.hid (HQ.out.seterr hi 3)
      clear hb he H2
      go_enter Try.func52, Try.ntmps52
      go_wp2_with fail
      go_ret
      rw [HB2.out]
      exact ⟨rfl, HSE.out.2, _, HSE.out.1, .err (n := 3) (by omega) rfl rfl, Nat.le_refl _⟩
  · have hz : ((Q.e : Int) == 0) = false := by simpa using he
    have hz' : ((Q.e : Int) != 0) = true := by simpa using he
    have hb : boolR Q = (false, Q) := by
      have hn : nextR Q = (0, Q) := by unfold nextR; rw [if_pos he]
      unfold boolR
      rw [hn]
      simp
    have HB2 := Lib.hid hb
    clear hb he H2
    go_enter Try.func52, Try.ntmps52
    go_wp2_with fail
    go_ret
    rw [HB2.out]
    exact ⟨rfl, Step.refl _ _ _, _, HQ.out, Eqv.refl _, Nat.le_refl _⟩
end Go.Proofs.Ytplhclmmmfpgeaa
