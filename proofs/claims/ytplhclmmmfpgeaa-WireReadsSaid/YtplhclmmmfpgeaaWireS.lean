/-
  The reader of the reference model: Uint, Int, Bool, length, End.
-/
import Derived.Test.YtplhclmmmfpgeaaRead
import Derived.Test.YtplhclmmmfpgeaaWireL
import Derived.Deep.DeepCutAuto
namespace Go.Proofs.Ytplhclmmmfpgeaa
open Go Go.Proofs
open Go.RowKit
set_option linter.unusedVariables false
set_option linter.unusedSimpArgs false

/-- Two readers that cannot be told apart: the same error; the same bytes, where there is no error. -/
def Eqv (Q R : RdS) : Prop := Q.e = R.e ∧ (R.e = 0 → Q.bs = R.bs)
theorem Eqv.eq {Q R : RdS} (h : Eqv Q R) (he : R.e = 0) : Q = R := by
  obtain ⟨qb, qe⟩ := Q
  obtain ⟨rb, re⟩ := R
  obtain ⟨h1, h2⟩ := h
  have h2 := h2 he
  simp only at h1 h2
  rw [h1, h2]
theorem Eqv.refl (R : RdS) : Eqv R R := ⟨rfl, fun _ => rfl⟩
theorem Eqv.err {Q R : RdS} {n : Nat} (hn : n ≠ 0) (hq : Q.e = n) (hr : R.e = n) : Eqv Q R := ⟨by omega, fun h => by omega⟩
theorem Eqv.endR {Q R : RdS} (h : Eqv Q R) : endR Q = endR R := by
  by_cases he : R.e = 0
  · rw [h.eq he]
  · have := h.1
    unfold Go.Proofs.Ytplhclmmmfpgeaa.endR
    rw [if_neg (by omega), if_neg (by omega), this]
theorem Dat.drop {w : World} {o : Nat → Nat} {l db off c : Nat} {bs : List UInt8} (h : Dat w o l (some ⟨db, off, none⟩) c (bs.map byteV)) (hp : 0 < bs.length) {m : Nat} (hm : m ≤ bs.length) (hc : c ≠ m) : Dat w o l (some ⟨db, off + m, none⟩) (c - m) ((bs.drop m).map byteV) := by
  have hle := h.slice.le
  have hmx := h.slice.max
  simp only [List.length_map] at hle
  refine ⟨⟨by simp; omega, by omega, by simp, fun hp => ⟨db, off + m, rfl, fun j v hj => ?_⟩⟩, fun hq b' off' he => ?_⟩
  · rw [Nat.add_assoc]
    refine h.slice.cell ?_
    rw [← hj, List.map_drop, List.getElem?_drop]
  · simp at he
    rw [← he.1]
    exact h.2 (by simpa using hp) db off rfl
theorem Dat.dropAll {w : World} {o : Nat → Nat} {l db off : Nat} {bs : List UInt8} {m : Nat} (hm : bs.length ≤ m) : Dat w o l (some ⟨db, off, none⟩) 0 ((bs.drop m).map byteV) := by
  rw [List.drop_eq_nil_of_le hm]
  exact ⟨⟨by simp, by omega, by simp, fun h => by simp at h⟩, fun h => by simp at h⟩
theorem RdAt.seterr {w : World} {o : Nat → Nat} {i b : Nat} {R : RdS} (h : RdAt w o i b R) (hi : 1 ≤ i) (n : Nat) : RdAt (w.setCell ⟨b, 1, none⟩ (.int .i64 n)) o i b ⟨R.bs, n⟩ ∧ Step (Own i) w o (w.setCell ⟨b, 1, none⟩ (.int .i64 n)) o := by
  obtain ⟨a, c, h1, h2⟩ := h
  have hs : Step (· = 10 * i) w o (w.setCell ⟨b, 1, none⟩ (.int .i64 n)) o := (Step.refl _ _ _).set (p := ⟨b, 1, none⟩) h1.lab _
  exact ⟨⟨a, c, h1.set 1 _, h2.step hs (by omega)⟩, hs.mono fun l hl => by subst hl; exact Own.at0 i⟩
theorem RdAt.setbs {w : World} {o : Nat → Nat} {i b : Nat} {R : RdS} (h : RdAt w o i b R) (hi : 1 ≤ i) (a : Option Addr) (n c : Nat) (bs : List UInt8) (hn : n = bs.length) (hd : Dat w o 0 a c (bs.map byteV)) : RdAt (w.setCell ⟨b, 0, none⟩ (.slice a n c)) o i b ⟨bs, R.e⟩ ∧ Step (Own i) w o (w.setCell ⟨b, 0, none⟩ (.slice a n c)) o := by
  obtain ⟨a', c', h1, h2⟩ := h
  subst hn
  have hs : Step (· = 10 * i) w o (w.setCell ⟨b, 0, none⟩ (.slice a bs.length c)) o := (Step.refl _ _ _).set (p := ⟨b, 0, none⟩) h1.lab _
  exact ⟨⟨a, c, h1.set 0 _, hd.step hs (by omega)⟩, hs.mono fun l hl => by subst hl; exact Own.at0 i⟩

set_option maxRecDepth 100000 in
set_option maxHeartbeats 4000000 in
theorem rfUint_any (i b : Nat) (Q : RdS) (w : World) (o : Nat → Nat) (hi : 1 ≤ i) (hQ : RdAt w o i b Q) (hl : Q.bs.length ≤ 1000) :
    Calls Try.prog 50 #[.pointer (some ⟨b, 0, none⟩)] w fun e w' => e = .returned (.int .u64 ((uintR Q).1 : Nat)) ∧ Step (Own i) w o w' o ∧ ∃ Q', RdAt w' o i b Q' ∧ Eqv Q' (uintR Q).2 ∧ Q'.bs.length ≤ Q.bs.length := by
  have HQ := Lib.hid hQ
  obtain ⟨a, c, h1, h2⟩ := hQ
  have c0 := h1.cell (j := 0) rfl
  have c1 := h1.cell (j := 1) rfl
  have f0 := h1.frozen 0
  have f1 := h1.frozen 1
  have hle := h2.slice.le
  have hmx := h2.slice.max
  simp only [List.length_map] at hle
  have H2 := Lib.hid h2
  clear h1 h2
  go_enter Try.func50, Try.ntmps50
  go_wp2_with fail
  go_loopw [3, 4, 5] (fun nv uv iv wr => ∃ k n U : Nat, k ≤ 9 ∧ n < U ∧ Hid (U = 128 ^ k) ∧ nv = .int .u64 n ∧ uv = .int .u64 U ∧ iv = .int .i64 k ∧ wr = w ∧ Hid (Q.e = 0 → rdU k n (Q.bs.drop k) = uintR Q)) (fun _ _ iv _ => 10 - (intOf iv).toNat)
  case atStart => exact ⟨0, 0, 1, by omega, by omega, rfl, rfl, rfl, rfl, rfl, fun h => by unfold uintR; rw [if_pos h]; rfl⟩
  case round =>
    obtain ⟨k, n, U, hk9, hnU, HU, rfl, rfl, rfl, hw, HR⟩ := hrel
    subst hw
    by_cases he : Q.e = 0
    · have hz : ((Q.e : Int) == 0) = true := by rw [he]; rfl
      have hR := HR.out he
      by_cases hk : k < Q.bs.length
      · have d1 : decide ((Q.bs.length : Int) ≤ (k : Int)) = false := decide_eq_false (by omega)
        have d1' : decide (Q.bs.length ≤ k) = false := decide_eq_false (by omega)
        obtain ⟨db, off, rfl⟩ := H2.out.slice.addr (by simp; omega)
        have f := H2.out.slice.byteV hk
        obtain ⟨x, hx⟩ : ∃ x, x = Q.bs[k] := ⟨_, rfl⟩
        have hdr : Q.bs.drop k = x :: Q.bs.drop (k + 1) := by rw [hx]; exact List.drop_eq_getElem_cons hk
        rw [← hx] at f
        obtain ⟨xn, hxn⟩ : ∃ xn : Nat, xn = x.toNat := ⟨_, rfl⟩
        have hx8 : xn < 256 := by rw [hxn]; exact x.toNat_lt
        rw [hdr] at hR
        unfold rdU at hR
        rw [← hxn] at hR f
        obtain ⟨D, hD⟩ : ∃ D, D = decide ((k = 9 ∧ 1 < xn) ∨ (0 < k ∧ xn = 0)) := ⟨_, rfl⟩
        have HDD := Lib.hid hD
        have HRR := Lib.hid hR
        have HHE := Lib.hid he
        clear hD hR HR hx hdr he hxn
        go_upto_region 9 with fail
        go_cut [44] (fun s44 wx => s44 = .bool D ∧ wx = wr)
        case first =>
          have t9 : ((k : Int) == 9) = decide (k = 9) := by rw [Bool.eq_iff_iff]; simp; omega
          have t0 : decide ((0 : Int) < (k : Int)) = decide (0 < k) := by rw [Bool.eq_iff_iff]; simp
          have t1 : decide ((1 : Int) < (xn : Int)) = decide (1 < xn) := by rw [Bool.eq_iff_iff]; simp; omega
          have tx : ((xn : Int) == 0) = decide (xn = 0) := by rw [Bool.eq_iff_iff]; simp
          by_cases h9 : k = 9 <;> by_cases h1 : 1 < xn <;> by_cases h0 : 0 < k <;> by_cases hx : xn = 0 <;> first
            | (exfalso; omega)
            | ((first | rw [decide_eq_true h9] at t9 | rw [decide_eq_false h9] at t9)
               (first | rw [decide_eq_true h1] at t1 | rw [decide_eq_false h1] at t1)
               (first | rw [decide_eq_true h0] at t0 | rw [decide_eq_false h0] at t0)
               (first | rw [decide_eq_true hx] at tx | rw [decide_eq_false hx] at tx)
               (first | have q : D = true := HDD.out.trans (decide_eq_true (by omega)) | have q : D = false := HDD.out.trans (decide_eq_false (by omega)))
               clear HDD h9 hx
               subst q
               go_wp2_with fail
               go_meet
               exact ⟨rfl, rfl⟩)
        case rest =>
          obtain ⟨rfl, hwc⟩ := hcut
          have hwc := hwc.symm
          subst hwc
          cases D with
          | true =>
            have hc := of_decide_eq_true HDD.out.symm
            have hR2 : uintR Q = (0, ⟨Q.bs.drop (k + 1), 2⟩) := by rw [← HRR.out, if_pos hc]
            have HR2 := Lib.hid hR2
            have HSE := Lib.hid (HQ.out.seterr hi 2)
            clear hR2 hc HDD HRR
            go_wp2_with fail
            go_ret
            rw [HR2.out]
            exact ⟨rfl, HSE.out.2, _, HSE.out.1, .err (n := 2) (by omega) rfl rfl, Nat.le_refl _⟩
          | false =>
            have hc := of_decide_eq_false HDD.out.symm
            have hR2 := HRR.out
            rw [if_neg hc] at hR2
            have hU := HU.out
            have hU9 : U ≤ 9223372036854775808 := by
              rw [hU]
              exact Nat.le_trans (Nat.pow_le_pow_right (by omega) hk9) (by decide)
            have hU8 : k ≠ 9 → U ≤ 72057594037927936 := by
              intro h
              rw [hU]
              exact Nat.le_trans (Nat.pow_le_pow_right (by omega) (show k ≤ 8 by omega)) (by decide)
            have hUn : k ≠ 9 → 128 ^ (k + 1) = U * 128 := fun _ => by rw [hU, Nat.pow_succ]
            rw [← hU] at hR2
            obtain ⟨P, hP⟩ : ∃ P, P = xn % 128 * U := ⟨_, rfl⟩
            have hP1 : P ≤ 127 * U := by rw [hP]; exact Nat.mul_le_mul_right _ (by omega)
            have hP2 : xn ≤ 1 → P ≤ U := fun h => by rw [hP]; exact Nat.le_trans (Nat.mul_le_mul_right _ (show xn % 128 ≤ 1 by omega)) (by omega)
            have hnP : n + P < 18446744073709551616 := by
              by_cases h9 : k = 9
              · have := hP2 (by omega)
                omega
              · have := hU8 h9
                omega
            have w1 : (xn : Int) % 128 * (U : Int) = (P : Int) := by rw [hP]; simp
            have w2 : IntKind.u64.wrap (P : Int) = (P : Int) := by rw [wrap_u64]; omega
            obtain ⟨N, hN⟩ : ∃ N, N = n + P := ⟨_, rfl⟩
            have w3 : (n : Int) + (P : Int) = (N : Int) := by omega
            have w4 : IntKind.u64.wrap (N : Int) = (N : Int) := by rw [wrap_u64]; omega
            obtain ⟨V, hV⟩ : ∃ V, V = (U * 128) % 18446744073709551616 := ⟨_, rfl⟩
            have w5 : IntKind.u64.wrap ((U : Int) * 128) = (V : Int) := by rw [wrap_u64]; omega
            by_cases hs : xn < 128
            · have d2 : decide ((xn : Int) < 128) = true := decide_eq_true (by omega)
              have d2' : decide (xn < 128) = true := decide_eq_true hs
              rw [if_pos hs] at hR2
              have hR3 : uintR Q = (N, ⟨Q.bs.drop (k + 1), 0⟩) := by rw [← hR2, hN, hP, Nat.mod_eq_of_lt hs]
              have hlt : (Q.bs.drop (k + 1)).length = Q.bs.length - (k + 1) := List.length_drop
              have r6 : IntKind.i64.wrap ((k : Int) + 1) = (k : Int) + 1 := IntWalk.i64_in _ (by omega)
              have HR3 := Lib.hid hR3
              have HL3 := Lib.hid hlt
              by_cases hck : c = k + 1
              · have HSB := Lib.hid (HQ.out.setbs hi (some ⟨db, off, none⟩) (Q.bs.length - (k + 1)) 0 (Q.bs.drop (k + 1)) hlt.symm (Dat.dropAll (by omega)))
                clear hR3 hlt hR2 hUn hU8 hU9 hU hP hP1 hP2 hnP hN hV HDD HRR hc
                go_wp2_with fail
                go_ret
                rw [HR3.out]
                exact ⟨rfl, HSB.out.2, _, HSB.out.1, ⟨HHE.out, fun _ => rfl⟩, by show (Q.bs.drop (k + 1)).length ≤ _; rw [HL3.out]; omega⟩
              · have HSB := Lib.hid (HQ.out.setbs hi (some ⟨db, off + (k + 1), none⟩) (Q.bs.length - (k + 1)) (c - (k + 1)) (Q.bs.drop (k + 1)) hlt.symm (H2.out.drop (by omega) (by omega) hck))
                clear hR3 hlt hR2 hUn hU8 hU9 hU hP hP1 hP2 hnP hN hV HDD HRR hc
                go_wp2_with fail
                go_ret
                rw [HR3.out]
                exact ⟨rfl, HSB.out.2, _, HSB.out.1, ⟨HHE.out, fun _ => rfl⟩, by show (Q.bs.drop (k + 1)).length ≤ _; rw [HL3.out]; omega⟩
            · have d2 : decide ((xn : Int) < 128) = false := decide_eq_false (by omega)
              have d2' : decide (xn < 128) = false := decide_eq_false hs
              rw [if_neg hs] at hR2
              have hk8 : k ≠ 9 := by omega
              have h8 := hU8 hk8
              have hn8 := hUn hk8
              have hV2 : V = 128 ^ (k + 1) := by omega
              have hNV : N < V := by omega
              have hR3 : rdU (k + 1) N (Q.bs.drop (k + 1)) = uintR Q := by rw [← hR2, hN, hP, show xn % 128 = xn - 128 by omega]
              have HR3 := Lib.hid hR3
              have HV2 := Lib.hid hV2
              clear hR3 hR2 hUn hU8 hU9 hU hP hP1 hP2 hnP hN hV HDD HRR hc hn8 h8 hV2
              go_wp2_with fail
              go_roundw
              case rel => exact ⟨k + 1, N, V, by omega, hNV, HV2.out, rfl, rfl, by go_num, trivial, fun _ => HR3.out⟩
              case measure => simp [intOf]; omega
      · have d1 : decide ((Q.bs.length : Int) ≤ (k : Int)) = true := decide_eq_true (by omega)
        have d1' : decide (Q.bs.length ≤ k) = true := decide_eq_true (by omega)
        rw [List.drop_eq_nil_of_le (by omega)] at hR
        have hR2 : uintR Q = (0, ⟨[], 3⟩) := hR.symm
        have HR2 := Lib.hid hR2
        have HSE := Lib.hid (HQ.out.seterr hi 3)
        clear hR hR2 HR he H2
        go_wp2_with fail
        go_ret
        rw [HR2.out]
        exact ⟨rfl, HSE.out.2, _, HSE.out.1, .err (n := 3) (by omega) rfl rfl, Nat.le_refl _⟩
    · have hz : ((Q.e : Int) == 0) = false := by simpa using he
      have hR2 : uintR Q = (0, Q) := by unfold uintR; rw [if_neg he]
      have HR2 := Lib.hid hR2
      clear hR2 HR he H2
      go_wp2_with fail
      go_ret
      rw [HR2.out]
      exact ⟨rfl, Step.refl _ _ _, _, HQ.out, Eqv.refl _, Nat.le_refl _⟩
end Go.Proofs.Ytplhclmmmfpgeaa
