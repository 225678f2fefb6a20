/-
  The reader of the reference (Uint, Int, length, Raw, End).
-/
import Derived.Test.YtmonpnikdheokaaRefW
import Derived.Test.YtmonpnikdheokaaWireC
import Derived.Deep.DeepCutAuto
namespace Go.Proofs.Ytmonpnikdheokaa
open Go Go.Proofs
open Go.RowKit
set_option linter.unusedVariables false
set_option linter.unusedSimpArgs false

theorem uintR_err {R : RdS} (h : R.e ≠ 0) : uintR R = (0, R) := by unfold uintR; rw [if_neg h]
theorem intR_len (R : RdS) : (intR R).2.bs.length ≤ R.bs.length := uintR_len R
/-- Two readers that cannot be told apart: the same error; the same bytes, where there is no error. -/
def Eqv (Q R : RdS) : Prop := Q.e = R.e ∧ (R.e = 0 → Q.bs = R.bs)
theorem Eqv.eq {Q R : RdS} (h : Eqv Q R) (he : R.e = 0) : Q = R := by
  obtain ⟨qb, qe⟩ := Q
  obtain ⟨rb, re⟩ := R
  obtain ⟨h1, h2⟩ := h
  have h2 := h2 he
  simp only at h1 h2
  rw [h1, h2]
theorem Eqv.refl (R : RdS) : Eqv R R := ⟨rfl, fun _ => rfl⟩
theorem Eqv.err {Q R : RdS} {n : Nat} (hn : n ≠ 0) (hq : Q.e = n) (hr : R.e = n) : Eqv Q R := ⟨by omega, fun h => by omega⟩
theorem Eqv.endR {Q R : RdS} (h : Eqv Q R) : endR Q = endR R := by
  by_cases he : R.e = 0
  · rw [h.eq he]
  · have := h.1
    unfold Go.Proofs.Ytmonpnikdheokaa.endR
    rw [if_neg (by omega), if_neg (by omega), this]
theorem Dat.drop {w : World} {o : Nat → Nat} {l db off c : Nat} {bs : List UInt8} (h : Dat w o l (some ⟨db, off, none⟩) c (bs.map byteV)) (hp : 0 < bs.length) {m : Nat} (hm : m ≤ bs.length) (hc : c ≠ m) : Dat w o l (some ⟨db, off + m, none⟩) (c - m) ((bs.drop m).map byteV) := by
  have hle := h.slice.le
  have hmx := h.slice.max
  simp only [List.length_map] at hle
  refine ⟨⟨by simp; omega, by omega, by simp, fun hp => ⟨db, off + m, rfl, fun j v hj => ?_⟩⟩, fun hq b' off' he => ?_⟩
  · rw [Nat.add_assoc]
    refine h.slice.cell ?_
    rw [← hj, List.map_drop, List.getElem?_drop]
  · simp at he
    rw [← he.1]
    exact h.2 (by simpa using hp) db off rfl
theorem Dat.dropAll {w : World} {o : Nat → Nat} {l db off : Nat} {bs : List UInt8} {m : Nat} (hm : bs.length ≤ m) : Dat w o l (some ⟨db, off, none⟩) 0 ((bs.drop m).map byteV) := by
  rw [List.drop_eq_nil_of_le hm]
  exact ⟨⟨by simp, by omega, by simp, fun h => by simp at h⟩, fun h => by simp at h⟩
theorem RdAt.seterr {w : World} {o : Nat → Nat} {i b : Nat} {R : RdS} (h : RdAt w o i b R) (hi : 1 ≤ i) (n : Nat) : RdAt (w.setCell ⟨b, 1, none⟩ (.int .i64 n)) o i b ⟨R.bs, n⟩ ∧ Step (Own i) w o (w.setCell ⟨b, 1, none⟩ (.int .i64 n)) o := by
  obtain ⟨a, c, h1, h2⟩ := h
  have hs : Step (· = 10 * i) w o (w.setCell ⟨b, 1, none⟩ (.int .i64 n)) o := (Step.refl _ _ _).set (p := ⟨b, 1, none⟩) h1.lab _
  exact ⟨⟨a, c, h1.set 1 _, h2.step hs (by omega)⟩, hs.mono fun l hl => by subst hl; exact Own.at0 i⟩
theorem RdAt.setbs {w : World} {o : Nat → Nat} {i b : Nat} {R : RdS} (h : RdAt w o i b R) (hi : 1 ≤ i) (a : Option Addr) (n c : Nat) (bs : List UInt8) (hn : n = bs.length) (hd : Dat w o 0 a c (bs.map byteV)) : RdAt (w.setCell ⟨b, 0, none⟩ (.slice a n c)) o i b ⟨bs, R.e⟩ ∧ Step (Own i) w o (w.setCell ⟨b, 0, none⟩ (.slice a n c)) o := by
  obtain ⟨a', c', h1, h2⟩ := h
  subst hn
  have hs : Step (· = 10 * i) w o (w.setCell ⟨b, 0, none⟩ (.slice a bs.length c)) o := (Step.refl _ _ _).set (p := ⟨b, 0, none⟩) h1.lab _
  exact ⟨⟨a, c, h1.set 0 _, hd.step hs (by omega)⟩, hs.mono fun l hl => by subst hl; exact Own.at0 i⟩
set_option maxRecDepth 100000 in
set_option maxHeartbeats 4000000 in
theorem rfUint_any (i b : Nat) (Q : RdS) (w : World) (o : Nat → Nat) (hi : 1 ≤ i) (hQ : RdAt w o i b Q) (hl : Q.bs.length ≤ 1000000) :
    Calls Try.prog 74 #[.pointer (some ⟨b, 0, none⟩)] w fun e w' => e = .returned (.int .u64 ((uintR Q).1 : Nat)) ∧ Step (Own i) w o w' o ∧ ∃ Q', RdAt w' o i b Q' ∧ Eqv Q' (uintR Q).2 ∧ Q'.bs.length ≤ Q.bs.length := by
  have HQ := Lib.hid hQ
  obtain ⟨a, c, h1, h2⟩ := hQ
  have c0 := h1.cell (j := 0) rfl
  have c1 := h1.cell (j := 1) rfl
  have f0 := h1.frozen 0
  have f1 := h1.frozen 1
  have hle := h2.slice.le
  have hmx := h2.slice.max
  simp only [List.length_map] at hle
  have H2 := Lib.hid h2
  clear h1 h2
  go_enter Try.func74, Try.ntmps74
  go_wp2_with fail
  go_loopw [3, 4, 5] (fun nv uv iv wr => ∃ k n U : Nat, k ≤ 9 ∧ n < U ∧ Hid (U = 128 ^ k) ∧ nv = .int .u64 n ∧ uv = .int .u64 U ∧ iv = .int .i64 k ∧ wr = w ∧ Hid (Q.e = 0 → rdU k n (Q.bs.drop k) = uintR Q)) (fun _ _ iv _ => 10 - (intOf iv).toNat)
  case atStart => exact ⟨0, 0, 1, by omega, by omega, rfl, rfl, rfl, rfl, rfl, fun h => by unfold uintR; rw [if_pos h]; rfl⟩
  case round =>
    obtain ⟨k, n, U, hk9, hnU, HU, rfl, rfl, rfl, hw, HR⟩ := hrel
    subst hw
    by_cases he : Q.e = 0
    · have hz : ((Q.e : Int) == 0) = true := by rw [he]; rfl
      have hR := HR.out he
      by_cases hk : k < Q.bs.length
      · have d1 : decide ((Q.bs.length : Int) ≤ (k : Int)) = false := decide_eq_false (by omega)
        have d1' : decide (Q.bs.length ≤ k) = false := decide_eq_false (by omega)
        obtain ⟨db, off, rfl⟩ := H2.out.slice.addr (by simp; omega)
        have f := H2.out.slice.byteV hk
        obtain ⟨x, hx⟩ : ∃ x, x = Q.bs[k] := ⟨_, rfl⟩
        have hdr : Q.bs.drop k = x :: Q.bs.drop (k + 1) := by rw [hx]; exact List.drop_eq_getElem_cons hk
        rw [← hx] at f
        obtain ⟨xn, hxn⟩ : ∃ xn : Nat, xn = x.toNat := ⟨_, rfl⟩
        have hx8 : xn < 256 := by rw [hxn]; exact x.toNat_lt
        rw [hdr] at hR
        unfold rdU at hR
        rw [← hxn] at hR f
        obtain ⟨D, hD⟩ : ∃ D, D = decide ((k = 9 ∧ 1 < xn) ∨ (0 < k ∧ xn = 0)) := ⟨_, rfl⟩
        have HDD := Lib.hid hD
        have HRR := Lib.hid hR
        have HHE := Lib.hid he
        clear hD hR HR hx hdr he hxn
        go_upto_region 9 with fail
        go_cut [44] (fun s44 wx => s44 = .bool D ∧ wx = wr)
        case first =>
          have t9 : ((k : Int) == 9) = decide (k = 9) := by rw [Bool.eq_iff_iff]; simp; omega
          have t0 : decide ((0 : Int) < (k : Int)) = decide (0 < k) := by rw [Bool.eq_iff_iff]; simp
          have t1 : decide ((1 : Int) < (xn : Int)) = decide (1 < xn) := by rw [Bool.eq_iff_iff]; simp; omega
          have tx : ((xn : Int) == 0) = decide (xn = 0) := by rw [Bool.eq_iff_iff]; simp
          by_cases h9 : k = 9 <;> by_cases h1 : 1 < xn <;> by_cases h0 : 0 < k <;> by_cases hx : xn = 0 <;> first
            | (exfalso; omega)
            | ((first | rw [decide_eq_true h9] at t9 | rw [decide_eq_false h9] at t9)
               (first | rw [decide_eq_true h1] at t1 | rw [decide_eq_false h1] at t1)
               (first | rw [decide_eq_true h0] at t0 | rw [decide_eq_false h0] at t0)
               (first | rw [decide_eq_true hx] at tx | rw [decide_eq_false hx] at tx)
               (first | have q : D = true := HDD.out.trans (decide_eq_true (by omega)) | have q : D = false := HDD.out.trans (decide_eq_false (by omega)))
               clear HDD h9 hx
               subst q
               go_wp2_with fail
               go_meet
               exact ⟨rfl, rfl⟩)
        case rest =>
          obtain ⟨rfl, hwc⟩ := hcut
          have hwc := hwc.symm
          subst hwc
          cases D with
          | true =>
            have hc := of_decide_eq_true HDD.out.symm
            have hR2 : uintR Q = (0, ⟨Q.bs.drop (k + 1), 2⟩) := by rw [← HRR.out, if_pos hc]
            have HR2 := Lib.hid hR2
            have HSE := Lib.hid (HQ.out.seterr hi 2)
            clear hR2 hc HDD HRR
            go_wp2_with fail
            go_ret
            rw [HR2.out]
            exact ⟨rfl, HSE.out.2, _, HSE.out.1, .err (n := 2) (by omega) rfl rfl, Nat.le_refl _⟩
          | false =>
            have hc := of_decide_eq_false HDD.out.symm
            have hR2 := HRR.out
            rw [if_neg hc] at hR2
            have hU := HU.out
            have hU9 : U ≤ 9223372036854775808 := by
              rw [hU]
              exact Nat.le_trans (Nat.pow_le_pow_right (by omega) hk9) (by decide)
            have hU8 : k ≠ 9 → U ≤ 72057594037927936 := by
              intro h
              rw [hU]
              exact Nat.le_trans (Nat.pow_le_pow_right (by omega) (show k ≤ 8 by omega)) (by decide)
            have hUn : k ≠ 9 → 128 ^ (k + 1) = U * 128 := fun _ => by rw [hU, Nat.pow_succ]
            rw [← hU] at hR2
            obtain ⟨P, hP⟩ : ∃ P, P = xn % 128 * U := ⟨_, rfl⟩
            have hP1 : P ≤ 127 * U := by rw [hP]; exact Nat.mul_le_mul_right _ (by omega)
            have hP2 : xn ≤ 1 → P ≤ U := fun h => by rw [hP]; exact Nat.le_trans (Nat.mul_le_mul_right _ (show xn % 128 ≤ 1 by omega)) (by omega)
            have hnP : n + P < 18446744073709551616 := by
              by_cases h9 : k = 9
              · have := hP2 (by omega)
                omega
              · have := hU8 h9
                omega
            have w1 : (xn : Int) % 128 * (U : Int) = (P : Int) := by rw [hP]; simp
            have w2 : IntKind.u64.wrap (P : Int) = (P : Int) := by rw [wrap_u64]; omega
            obtain ⟨N, hN⟩ : ∃ N, N = n + P := ⟨_, rfl⟩
            have w3 : (n : Int) + (P : Int) = (N : Int) := by omega
            have w4 : IntKind.u64.wrap (N : Int) = (N : Int) := by rw [wrap_u64]; omega
            obtain ⟨V, hV⟩ : ∃ V, V = (U * 128) % 18446744073709551616 := ⟨_, rfl⟩
            have w5 : IntKind.u64.wrap ((U : Int) * 128) = (V : Int) := by rw [wrap_u64]; omega
            by_cases hs : xn < 128
            · have d2 : decide ((xn : Int) < 128) = true := decide_eq_true (by omega)
              have d2' : decide (xn < 128) = true := decide_eq_true hs
              rw [if_pos hs] at hR2
              have hR3 : uintR Q = (N, ⟨Q.bs.drop (k + 1), 0⟩) := by rw [← hR2, hN, hP, Nat.mod_eq_of_lt hs]
              have hlt : (Q.bs.drop (k + 1)).length = Q.bs.length - (k + 1) := List.length_drop
              have r6 : IntKind.i64.wrap ((k : Int) + 1) = (k : Int) + 1 := IntWalk.i64_in _ (by omega)
              have HR3 := Lib.hid hR3
              have HL3 := Lib.hid hlt
              by_cases hck : c = k + 1
              · have HSB := Lib.hid (HQ.out.setbs hi (some ⟨db, off, none⟩) (Q.bs.length - (k + 1)) 0 (Q.bs.drop (k + 1)) hlt.symm (Dat.dropAll (by omega)))
                clear hR3 hlt hR2 hUn hU8 hU9 hU hP hP1 hP2 hnP hN hV HDD HRR hc
                go_wp2_with fail
                go_ret
                rw [HR3.out]
                exact ⟨rfl, HSB.out.2, _, HSB.out.1, ⟨HHE.out, fun _ => rfl⟩, by show (Q.bs.drop (k + 1)).length ≤ _; rw [HL3.out]; omega⟩
              · have HSB := Lib.hid (HQ.out.setbs hi (some ⟨db, off + (k + 1), none⟩) (Q.bs.length - (k + 1)) (c - (k + 1)) (Q.bs.drop (k + 1)) hlt.symm (H2.out.drop (by omega) (by omega) hck))
                clear hR3 hlt hR2 hUn hU8 hU9 hU hP hP1 hP2 hnP hN hV HDD HRR hc
                go_wp2_with fail
                go_ret
                rw [HR3.out]
                exact ⟨rfl, HSB.out.2, _, HSB.out.1, ⟨HHE.out, fun _ => rfl⟩, by show (Q.bs.drop (k + 1)).length ≤ _; rw [HL3.out]; omega⟩
            · have d2 : decide ((xn : Int) < 128) = false := decide_eq_false (by omega)
              have d2' : decide (xn < 128) = false := decide_eq_false hs
              rw [if_neg hs] at hR2
              have hk8 : k ≠ 9 := by omega
              have h8 := hU8 hk8
              have hn8 := hUn hk8
              have hV2 : V = 128 ^ (k + 1) := by omega
              have hNV : N < V := by omega
              have hR3 : rdU (k + 1) N (Q.bs.drop (k + 1)) = uintR Q := by rw [← hR2, hN, hP, show xn % 128 = xn - 128 by omega]
              have HR3 := Lib.hid hR3
              have HV2 := Lib.hid hV2
              clear hR3 hR2 hUn hU8 hU9 hU hP hP1 hP2 hnP hN hV HDD HRR hc hn8 h8 hV2
              go_wp2_with fail
              go_roundw
              case rel => exact ⟨k + 1, N, V, by omega, hNV, HV2.out, rfl, rfl, by go_num, trivial, fun _ => HR3.out⟩
              case measure => simp [intOf]; omega
      · have d1 : decide ((Q.bs.length : Int) ≤ (k : Int)) = true := decide_eq_true (by omega)
        have d1' : decide (Q.bs.length ≤ k) = true := decide_eq_true (by omega)
        rw [List.drop_eq_nil_of_le (by omega)] at hR
        have hR2 : uintR Q = (0, ⟨[], 3⟩) := hR.symm
        have HR2 := Lib.hid hR2
        have HSE := Lib.hid (HQ.out.seterr hi 3)
        clear hR hR2 HR he H2
        go_wp2_with fail
        go_ret
        rw [HR2.out]
        exact ⟨rfl, HSE.out.2, _, HSE.out.1, .err (n := 3) (by omega) rfl rfl, Nat.le_refl _⟩
    · have hz : ((Q.e : Int) == 0) = false := by simpa using he
      have hR2 : uintR Q = (0, Q) := by unfold uintR; rw [if_neg he]
      have HR2 := Lib.hid hR2
      clear hR2 HR he H2
      go_wp2_with fail
      go_ret
      rw [HR2.out]
      exact ⟨rfl, Step.refl _ _ _, _, HQ.out, Eqv.refl _, Nat.le_refl _⟩
theorem rfBack_any (z : Nat) (w : World) (h : z < 18446744073709551616) :
    Calls Try.prog 92 #[.int .u64 z] w fun e w' => e = .returned (.int .i64 (unzN z)) ∧ w = w' := by
  by_cases hz : z % 2 = 1
  · have d1 : (((z : Int) % 2) == 1) = true := beq_iff_eq.2 (by omega)
    have e1 : unzN z = -((z / 2 : Nat) : Int) - 1 := by unfold unzN; rw [if_pos hz]
    obtain ⟨q, hq⟩ : ∃ q : Nat, q = z / 2 := ⟨_, rfl⟩
    have hq1 : (z : Int) / 2 = (q : Int) := by omega
    have hq2 : q < 9223372036854775808 := by omega
    have HE := Lib.hid e1
    have HQ := Lib.hid hq
    clear e1 hq hz
    go_enter Try.func92, Try.ntmps92
    go_wp2_with fail
    go_ret
    exact ⟨ret_int (by first | (rw [HE.out, ← HQ.out]; done) | (rw [HE.out, ← HQ.out]; omega) | (rw [HE.out, ← HQ.out]; simp only [IntKind.wrap, IntKind.bits, IntKind.signed]; omega)), rfl⟩
  · have d1 : (((z : Int) % 2) == 1) = false := beq_eq_false_iff_ne.2 (by omega)
    have e1 : unzN z = ((z / 2 : Nat) : Int) := by unfold unzN; rw [if_neg hz]
    obtain ⟨q, hq⟩ : ∃ q : Nat, q = z / 2 := ⟨_, rfl⟩
    have hq1 : (z : Int) / 2 = (q : Int) := by omega
    have hq2 : q < 9223372036854775808 := by omega
    have HE := Lib.hid e1
    have HQ := Lib.hid hq
    clear e1 hq hz
    go_enter Try.func92, Try.ntmps92
    go_wp2_with fail
    go_ret
    exact ⟨ret_int (by first | (rw [HE.out, ← HQ.out]; done) | (rw [HE.out, ← HQ.out]; omega) | (rw [HE.out, ← HQ.out]; simp only [IntKind.wrap, IntKind.bits, IntKind.signed]; omega)), rfl⟩
theorem rfInt_any (i b : Nat) (Q : RdS) (w : World) (o : Nat → Nat) (hi : 1 ≤ i) (hQ : RdAt w o i b Q) (hl : Q.bs.length ≤ 1000000) :
    Calls Try.prog 76 #[.pointer (some ⟨b, 0, none⟩)] w fun e w' => e = .returned (.int .i64 (intR Q).1) ∧ Step (Own i) w o w' o ∧ ∃ Q', RdAt w' o i b Q' ∧ Eqv Q' (intR Q).2 ∧ Q'.bs.length ≤ Q.bs.length := by
  have HQ := Lib.hid hQ
  clear hQ
  go_enter Try.func76, Try.ntmps76
  go_wp2_with fail
  refine (rfUint_any i b Q w o hi HQ.out hl).mono ?_
  rintro e w1 ⟨rfl, h1, Q', h2, h3, h4⟩
  have H1 := Lib.hid h1
  have H2 := Lib.hid h2
  clear h1 h2
  go_wp2_with fail
  refine (rfBack_any _ w1 (uintR_lt Q)).mono ?_
  rintro e w2 ⟨rfl, rfl⟩
  go_wp2_with fail
  go_ret
  exact ⟨rfl, H1.out, Q', H2.out, h3, h4⟩
theorem rfEnd_any (i b : Nat) (R : RdS) (w : World) (o : Nat → Nat) (hR : RdAt w o i b R) :
    Calls Try.prog 75 #[.pointer (some ⟨b, 0, none⟩)] w fun e w' => e = .returned (.int .i64 (endR R)) ∧ w = w' := by
  obtain ⟨a, c, h1, h2⟩ := hR
  have c0 := h1.cell (j := 0) rfl
  have c1 := h1.cell (j := 1) rfl
  clear h1 h2
  by_cases he : R.e = 0
  · have hz : ((R.e : Int) == 0) = true := by rw [he]; rfl
    by_cases hb : 0 < R.bs.length
    · have d1 : decide ((0 : Int) < (R.bs.length : Int)) = true := decide_eq_true (by omega)
      have e1 : endR R = 2 := by unfold endR; rw [if_pos ⟨he, hb⟩]
      rw [e1]
      clear e1 he
      go_enter Try.func75, Try.ntmps75
      go_wp2_with fail
      go_ret
      exact ⟨rfl, rfl⟩
    · have d1 : decide ((0 : Int) < (R.bs.length : Int)) = false := decide_eq_false (by omega)
      have e1 : endR R = R.e := by unfold endR; rw [if_neg (fun h => hb h.2)]
      rw [e1]
      clear e1 he
      go_enter Try.func75, Try.ntmps75
      go_wp2_with fail
      go_ret
      exact ⟨rfl, rfl⟩
  · have hz : ((R.e : Int) == 0) = false := by simpa using he
    have e1 : endR R = R.e := by unfold endR; rw [if_neg (fun h => he h.1)]
    rw [e1]
    clear e1 he
    go_enter Try.func75, Try.ntmps75
    go_wp2_with fail
    go_ret
    exact ⟨rfl, rfl⟩
theorem Dat.take {w : World} {o : Nat → Nat} {l c : Nat} {a : Option Addr} {bs : List UInt8} (h : Dat w o l a c (bs.map byteV)) (m : Nat) : Dat w o l a c ((bs.take m).map byteV) := by
  refine ⟨by rw [List.map_take]; exact h.slice.take m, fun hp => h.2 ?_⟩
  simp only [List.length_map, List.length_take] at hp ⊢
  omega
/-- The length that the reference reads. -/
def lenN (Q : RdS) : Nat := if (lenR Q).2.e = 0 then (lenR Q).1 else 0
set_option maxRecDepth 100000 in
set_option maxHeartbeats 4000000 in
theorem rfLength_any (i b : Nat) (Q : RdS) (w : World) (o : Nat → Nat) (hi : 1 ≤ i) (hQ : RdAt w o i b Q) (hl : Q.bs.length ≤ 1000000) :
    Calls Try.prog 91 #[.pointer (some ⟨b, 0, none⟩)] w fun e w' => e = .returned (.int .i64 (lenN Q : Nat)) ∧ Step (Own i) w o w' o ∧ ∃ Q', RdAt w' o i b Q' ∧ Eqv Q' (lenR Q).2 ∧ Q'.bs.length ≤ Q.bs.length := by
  have HQ := Lib.hid hQ
  clear hQ
  go_enter Try.func91, Try.ntmps91
  go_wp2_with fail
  refine (rfUint_any i b Q w o hi HQ.out hl).mono ?_
  have hmlt := uintR_lt Q
  obtain ⟨m, hm⟩ : ∃ m, (uintR Q).1 = m := ⟨_, rfl⟩
  obtain ⟨R1, hR1⟩ : ∃ R1, (uintR Q).2 = R1 := ⟨_, rfl⟩
  have hlen : lenR Q = (m, if R1.bs.length < m then failR R1 3 else R1) := by unfold lenR; rw [hm, hR1]
  rw [hm] at hmlt
  rw [hm, hR1]
  rintro e w1 ⟨rfl, h1, Q1, h2, h3, h4⟩
  have HLEN := Lib.hid hlen
  clear hm hR1 hlen HQ
  obtain ⟨a, c, g1, g2⟩ := id h2
  have c0 := g1.cell (j := 0) rfl
  have c1 := g1.cell (j := 1) rfl
  have f1 := g1.frozen 1
  have H1 := Lib.hid h1
  have H2 := Lib.hid h2
  clear g1 g2 h1 h2
  by_cases he : R1.e = 0
  · have hq := h3.eq he
    subst hq
    have hz : ((Q1.e : Int) == 0) = true := by rw [he]; rfl
    have hz' : ((Q1.e : Int) != 0) = false := by rw [he]; rfl
    by_cases hb : Q1.bs.length < m
    · have d1 : decide ((Q1.bs.length : Int) < (m : Int)) = true := decide_eq_true (by omega)
      have hfin : lenR Q = (m, ⟨Q1.bs, 3⟩) := by rw [HLEN.out, if_pos hb]; unfold failR; rw [if_pos he]
      have HF := Lib.hid hfin
      have hN : lenN Q = 0 := by unfold lenN; rw [hfin, if_neg (by show ¬ (3 = 0); omega)]
      have HN := Lib.hid hN
      clear hN
      have HSE := Lib.hid (H2.out.seterr hi 3)
      clear hfin HLEN he h3
      go_wp2_with fail
      go_ret
      rw [HF.out, HN.out]
      exact ⟨rfl, H1.out.trans HSE.out.2, _, HSE.out.1, .err (n := 3) (by omega) rfl rfl, h4⟩
    · have d1 : decide ((Q1.bs.length : Int) < (m : Int)) = false := decide_eq_false (by omega)
      have hfin : lenR Q = (m, Q1) := by rw [HLEN.out, if_neg hb]
      have hwr : IntKind.i64.wrap (m : Int) = (m : Int) := IntWalk.i64_in _ (by omega)
      have hN : lenN Q = m := by unfold lenN; rw [hfin, if_pos he]
      have HN := Lib.hid hN
      clear hN
      have HF := Lib.hid hfin
      have HE := Lib.hid he
      clear hfin HLEN he h3
      go_wp2_with fail
      go_ret
      rw [HF.out, HN.out]
      exact ⟨rfl, H1.out, _, H2.out, Eqv.refl _, h4⟩
  · have hz : ((Q1.e : Int) == 0) = false := by rw [h3.1]; simpa using he
    have hz' : ((Q1.e : Int) != 0) = true := by rw [h3.1]; simpa using he
    have hfin : lenR Q = (m, R1) := by
      rw [HLEN.out]
      unfold failR
      rw [if_neg he]
      split <;> rfl
    have hN : lenN Q = 0 := by unfold lenN; rw [hfin, if_neg he]
    have HN := Lib.hid hN
    clear hN
    have HF := Lib.hid hfin
    have HE := Lib.hid he
    have H3 := Lib.hid h3
    clear hfin HLEN he h3
    go_wp2_with fail
    go_ret
    rw [HF.out, HN.out]
    exact ⟨rfl, H1.out, _, H2.out, H3.out, h4⟩
set_option maxRecDepth 100000 in
set_option maxHeartbeats 4000000 in
theorem rfRaw_any (i b : Nat) (Q : RdS) (w : World) (o : Nat → Nat) (hi : 1 ≤ i) (hQ : RdAt w o i b Q) (hl : Q.bs.length ≤ 1000000) :
    Calls Try.prog 73 #[.pointer (some ⟨b, 0, none⟩)] w fun e w' => Hid (∃ a c, e = .returned (.slice a (rawR Q).1.length c) ∧ Step (Own i) w o w' o ∧ (∃ Q', RdAt w' o i b Q' ∧ Eqv Q' (rawR Q).2 ∧ Q'.bs.length ≤ Q.bs.length) ∧ Dat w' o 0 a c ((rawR Q).1.map byteV)) := by
  have HQ := Lib.hid hQ
  have hLO := @lenR_ok Q
  clear hQ
  go_enter Try.func73, Try.ntmps73
  go_wp2_with fail
  refine (rfLength_any i b Q w o hi HQ.out hl).mono ?_
  obtain ⟨m, hm⟩ : ∃ m, (lenR Q).1 = m := ⟨_, rfl⟩
  obtain ⟨R2, hR2⟩ : ∃ R2, (lenR Q).2 = R2 := ⟨_, rfl⟩
  have hraw : rawR Q = if R2.e = 0 then (R2.bs.take m, ⟨R2.bs.drop m, 0⟩) else ([], R2) := by unfold rawR; rw [hm, hR2]
  rw [hm, hR2] at hLO
  rw [hR2]
  have hn : lenN Q = if R2.e = 0 then m else 0 := by unfold lenN; rw [hm, hR2]
  generalize lenN Q = n at *
  rintro e w1 ⟨rfl, h1, Q2, h2, h3, h4⟩
  have HRAW := Lib.hid hraw
  clear hm hR2 hraw HQ
  obtain ⟨a, c, g1, g2⟩ := id h2
  have c0 := g1.cell (j := 0) rfl
  have c1 := g1.cell (j := 1) rfl
  have f0 := g1.frozen 0
  have hle := g2.slice.le
  have hmx := g2.slice.max
  simp only [List.length_map] at hle
  have H1 := Lib.hid h1
  have H2 := Lib.hid h2
  have G2 := Lib.hid g2
  clear g1 g2 h1 h2
  by_cases he : R2.e = 0
  · have hq := h3.eq he
    subst hq
    rw [if_pos he] at hn
    have hmb := (hLO he).1
    subst hn
    have hfin : rawR Q = (Q2.bs.take n, ⟨Q2.bs.drop n, 0⟩) := by rw [HRAW.out, if_pos he]
    have htl : (Q2.bs.take n).length = n := by rw [List.length_take]; omega
    have hdl : (Q2.bs.drop n).length = Q2.bs.length - n := List.length_drop
    have hz' : ((Q2.e : Int) != 0) = false := by rw [he]; rfl
    have HF := Lib.hid hfin
    have HT := Lib.hid htl
    have HD := Lib.hid hdl
    have HE := Lib.hid he
    have r1 : (n : Int) ≤ (Q2.bs.length : Int) := by omega
    have r2 : (0 : Int) ≤ (n : Int) := by omega
    have r3 : (n : Int) ≤ (c : Int) := by omega
    have r4 : n ≤ c := by omega
    by_cases hb0 : Q2.bs.length = 0
    · have hn0 : n = 0 := by omega
      subst hn0
      have hbn : Q2.bs = [] := List.eq_nil_of_length_eq_zero hb0
      have HSBA : Hid (∀ a' c', (a' = none → c' = 0) → c' ≤ 9223372036854775807 → RdAt (w1.setCell ⟨b, 0, none⟩ (.slice a' 0 c')) o i b ⟨[], Q2.e⟩ ∧ Step (Own i) w1 o (w1.setCell ⟨b, 0, none⟩ (.slice a' 0 c')) o) :=
        fun a' c' q1 q2 => H2.out.setbs hi a' 0 c' [] rfl ⟨⟨by simp, q2, q1, fun h => by simp at h⟩, fun h => by simp at h⟩
      have HDT : Hid (∀ (W : World) a' c', (a' = none → c' = 0) → c' ≤ 9223372036854775807 → Dat W o 0 a' c' (([] : List UInt8).map byteV)) :=
        fun W a' c' q1 q2 => ⟨⟨by simp, q2, q1, fun h => by simp at h⟩, fun h => by simp at h⟩
      have hfin : rawR Q = ([], ⟨[], 0⟩) := by rw [hfin, hbn]; rfl
      have HF := Lib.hid hfin
      rw [hb0] at c0
      cases a with
      | none =>
        have hc0 : c = 0 := G2.out.1.2.2.1 rfl
        subst hc0
        clear hfin htl hdl HRAW he h3 hLO hbn hb0
        go_wp2_with fail
        go_ret
        unfold Hid
        rw [HF.out]
        exact ⟨none, 0, rfl, H1.out.trans (HSBA.out none 0 (fun _ => rfl) (by omega)).2, ⟨_, (HSBA.out none 0 (fun _ => rfl) (by omega)).1, ⟨HE.out, fun _ => rfl⟩, by simp⟩, Dat.nil byteV _ _ _⟩
      | some p =>
        by_cases hck : c = 0
        · subst hck
          clear hfin htl hdl HRAW he h3 hLO hbn hb0
          go_wp2_with fail
          go_ret
          unfold Hid
          rw [HF.out]
          exact ⟨_, _, rfl, H1.out.trans (HSBA.out _ _ (by simp) (by omega)).2, ⟨_, (HSBA.out _ _ (by simp) (by omega)).1, ⟨HE.out, fun _ => rfl⟩, by simp⟩, HDT.out _ _ _ (by simp) (by omega)⟩
        · clear hfin htl hdl HRAW he h3 hLO hbn hb0
          go_wp2_with fail
          go_ret
          unfold Hid
          rw [HF.out]
          exact ⟨_, _, rfl, H1.out.trans (HSBA.out _ _ (by simp) (by omega)).2, ⟨_, (HSBA.out _ _ (by simp) (by omega)).1, ⟨HE.out, fun _ => rfl⟩, by simp⟩, HDT.out _ _ _ (by simp) (by omega)⟩
    · obtain ⟨db, off, rfl⟩ := G2.out.slice.addr (by simp; omega)
      by_cases hck : c = n
      · obtain rfl : n = c := hck.symm
        have HSB := Lib.hid (H2.out.setbs hi (some ⟨db, off, none⟩) 0 0 (Q2.bs.drop n) (by omega) (Dat.dropAll (by omega)))
        have HTT := Lib.hid ((G2.out.take n).step HSB.out.2 (Own.not0 hi))
        clear hfin htl hdl HRAW he h3 hLO
        go_wp2_with fail
        go_ret
        unfold Hid
        rw [HF.out]
        exact ⟨some ⟨db, off, none⟩, _, by simp only [HT.out]; rfl, H1.out.trans HSB.out.2, ⟨_, HSB.out.1, ⟨HE.out, fun _ => rfl⟩, by show (Q2.bs.drop n).length ≤ _; rw [HD.out]; omega⟩, HTT.out⟩
      · have HSB := Lib.hid (H2.out.setbs hi (some ⟨db, off + n, none⟩) (Q2.bs.length - n) (c - n) (Q2.bs.drop n) hdl.symm (G2.out.drop (by omega) (by omega) hck))
        have HTT := Lib.hid ((G2.out.take n).step HSB.out.2 (Own.not0 hi))
        clear hfin htl hdl HRAW he h3 hLO
        go_wp2_with fail
        go_ret
        unfold Hid
        rw [HF.out]
        exact ⟨some ⟨db, off, none⟩, _, by simp only [HT.out]; rfl, H1.out.trans HSB.out.2, ⟨_, HSB.out.1, ⟨HE.out, fun _ => rfl⟩, by show (Q2.bs.drop n).length ≤ _; rw [HD.out]; omega⟩, HTT.out⟩
  · have hz' : ((Q2.e : Int) != 0) = true := by rw [h3.1]; simpa using he
    have hfin : rawR Q = ([], R2) := by rw [HRAW.out, if_neg he]
    have HF := Lib.hid hfin
    have H3 := Lib.hid h3
    clear hfin HRAW he h3 hLO hn
    go_wp2_with fail
    go_ret
    unfold Hid
    rw [HF.out]
    exact ⟨none, 0, rfl, H1.out, ⟨_, H2.out, H3.out, h4⟩, Dat.nil byteV _ _ _⟩
end Go.Proofs.Ytmonpnikdheokaa
