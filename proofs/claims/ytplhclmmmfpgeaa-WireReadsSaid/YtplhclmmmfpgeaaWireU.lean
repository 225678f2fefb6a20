/-
  The reader of the reference model: length, Raw, Ints.
-/
import Derived.Test.YtplhclmmmfpgeaaWireT
namespace Go.Proofs.Ytplhclmmmfpgeaa
open Go Go.Proofs
open Go.RowKit
set_option linter.unusedVariables false
set_option linter.unusedSimpArgs false

theorem Dat.take {w : World} {o : Nat → Nat} {l c : Nat} {a : Option Addr} {bs : List UInt8} (h : Dat w o l a c (bs.map byteV)) (m : Nat) : Dat w o l a c ((bs.take m).map byteV) := by
  refine ⟨by rw [List.map_take]; exact h.slice.take m, fun hp => h.2 ?_⟩
  simp only [List.length_map, List.length_take] at hp ⊢
  omega
/-- The length that the reference reads. -/
def lenN (Q : RdS) : Nat := if (lenR Q).2.e = 0 then (lenR Q).1 else 0
set_option maxRecDepth 100000 in
set_option maxHeartbeats 4000000 in
theorem rfLength_any (i b : Nat) (Q : RdS) (w : World) (o : Nat → Nat) (hi : 1 ≤ i) (hQ : RdAt w o i b Q) (hl : Q.bs.length ≤ 1000) :
    Calls Try.prog 64 #[.pointer (some ⟨b, 0, none⟩)] w fun e w' => e = .returned (.int .i64 (lenN Q : Nat)) ∧ Step (Own i) w o w' o ∧ ∃ Q', RdAt w' o i b Q' ∧ Eqv Q' (lenR Q).2 ∧ Q'.bs.length ≤ Q.bs.length := by
  have HQ := Lib.hid hQ
  clear hQ
  go_enter Try.func64, Try.ntmps64
  go_wp2_with fail
  refine (rfUint_any i b Q w o hi HQ.out hl).mono ?_
  have hmlt := uintR_lt Q
  obtain ⟨m, hm⟩ : ∃ m, (uintR Q).1 = m := ⟨_, rfl⟩
  obtain ⟨R1, hR1⟩ : ∃ R1, (uintR Q).2 = R1 := ⟨_, rfl⟩
  have hlen : lenR Q = (m, if R1.bs.length < m then failR R1 3 else R1) := by unfold lenR; rw [hm, hR1]
  rw [hm] at hmlt
  rw [hm, hR1]
  rintro e w1 ⟨rfl, h1, Q1, h2, h3, h4⟩
  have HLEN := Lib.hid hlen
  clear hm hR1 hlen HQ
  obtain ⟨a, c, g1, g2⟩ := id h2
  have c0 := g1.cell (j := 0) rfl
  have c1 := g1.cell (j := 1) rfl
  have f1 := g1.frozen 1
  have H1 := Lib.hid h1
  have H2 := Lib.hid h2
  clear g1 g2 h1 h2
  by_cases he : R1.e = 0
  · have hq := h3.eq he
    subst hq
    have hz : ((Q1.e : Int) == 0) = true := by rw [he]; rfl
    have hz' : ((Q1.e : Int) != 0) = false := by rw [he]; rfl
    by_cases hb : Q1.bs.length < m
    · have d1 : decide ((Q1.bs.length : Int) < (m : Int)) = true := decide_eq_true (by omega)
      have hfin : lenR Q = (m, ⟨Q1.bs, 3⟩) := by rw [HLEN.out, if_pos hb]; unfold failR; rw [if_pos he]
      have HF := Lib.hid hfin
      have hN : lenN Q = 0 := by unfold lenN; rw [hfin, if_neg (by show ¬ (3 = 0); omega)]
      have HN := Lib.hid hN
      clear hN
      have HSE := Lib.hid (H2.out.seterr hi 3)
      clear hfin HLEN he h3
      go_wp2_with fail
      go_ret
      rw [HF.out, HN.out]
      exact ⟨rfl, H1.out.trans HSE.out.2, _, HSE.out.1, .err (n := 3) (by omega) rfl rfl, h4⟩
    · have d1 : decide ((Q1.bs.length : Int) < (m : Int)) = false := decide_eq_false (by omega)
      have hfin : lenR Q = (m, Q1) := by rw [HLEN.out, if_neg hb]
      have hwr : IntKind.i64.wrap (m : Int) = (m : Int) := IntWalk.i64_in _ (by omega)
      have hN : lenN Q = m := by unfold lenN; rw [hfin, if_pos he]
      have HN := Lib.hid hN
      clear hN
      have HF := Lib.hid hfin
      have HE := Lib.hid he
      clear hfin HLEN he h3
      go_wp2_with fail
      go_ret
      rw [HF.out, HN.out]
      exact ⟨rfl, H1.out, _, H2.out, Eqv.refl _, h4⟩
  · have hz : ((Q1.e : Int) == 0) = false := by rw [h3.1]; simpa using he
    have hz' : ((Q1.e : Int) != 0) = true := by rw [h3.1]; simpa using he
    have hfin : lenR Q = (m, R1) := by
      rw [HLEN.out]
      unfold failR
      rw [if_neg he]
      split <;> rfl
    have hN : lenN Q = 0 := by unfold lenN; rw [hfin, if_neg he]
    have HN := Lib.hid hN
    clear hN
    have HF := Lib.hid hfin
    have HE := Lib.hid he
    have H3 := Lib.hid h3
    clear hfin HLEN he h3
    go_wp2_with fail
    go_ret
    rw [HF.out, HN.out]
    exact ⟨rfl, H1.out, _, H2.out, H3.out, h4⟩
set_option maxRecDepth 100000 in
set_option maxHeartbeats 4000000 in
theorem rfRaw_any (i b : Nat) (Q : RdS) (w : World) (o : Nat → Nat) (hi : 1 ≤ i) (hQ : RdAt w o i b Q) (hl : Q.bs.length ≤ 1000) :
    Calls Try.prog 53 #[.pointer (some ⟨b, 0, none⟩)] w fun e w' => Hid (∃ a c, e = .returned (.slice a (rawR Q).1.length c) ∧ Step (Own i) w o w' o ∧ (∃ Q', RdAt w' o i b Q' ∧ Eqv Q' (rawR Q).2 ∧ Q'.bs.length ≤ Q.bs.length) ∧ Dat w' o 0 a c ((rawR Q).1.map byteV)) := by
  have HQ := Lib.hid hQ
  have hLO := @lenR_ok Q
  clear hQ
  go_enter Try.func53, Try.ntmps53
  go_wp2_with fail
  refine (rfLength_any i b Q w o hi HQ.out hl).mono ?_
  obtain ⟨m, hm⟩ : ∃ m, (lenR Q).1 = m := ⟨_, rfl⟩
  obtain ⟨R2, hR2⟩ : ∃ R2, (lenR Q).2 = R2 := ⟨_, rfl⟩
  have hraw : rawR Q = if R2.e = 0 then (R2.bs.take m, ⟨R2.bs.drop m, 0⟩) else ([], R2) := by unfold rawR; rw [hm, hR2]
  rw [hm, hR2] at hLO
  rw [hR2]
  have hn : lenN Q = if R2.e = 0 then m else 0 := by unfold lenN; rw [hm, hR2]
  generalize lenN Q = n at *
  rintro e w1 ⟨rfl, h1, Q2, h2, h3, h4⟩
  have HRAW := Lib.hid hraw
  clear hm hR2 hraw HQ
  obtain ⟨a, c, g1, g2⟩ := id h2
  have c0 := g1.cell (j := 0) rfl
  have c1 := g1.cell (j := 1) rfl
  have f0 := g1.frozen 0
  have hle := g2.slice.le
  have hmx := g2.slice.max
  simp only [List.length_map] at hle
  have H1 := Lib.hid h1
  have H2 := Lib.hid h2
  have G2 := Lib.hid g2
  clear g1 g2 h1 h2
  by_cases he : R2.e = 0
  · have hq := h3.eq he
    subst hq
    rw [if_pos he] at hn
    have hmb := (hLO he).1
    subst hn
    have hfin : rawR Q = (Q2.bs.take n, ⟨Q2.bs.drop n, 0⟩) := by rw [HRAW.out, if_pos he]
    have htl : (Q2.bs.take n).length = n := by rw [List.length_take]; omega
    have hdl : (Q2.bs.drop n).length = Q2.bs.length - n := List.length_drop
    have hz' : ((Q2.e : Int) != 0) = false := by rw [he]; rfl
    have HF := Lib.hid hfin
    have HT := Lib.hid htl
    have HD := Lib.hid hdl
    have HE := Lib.hid he
    have r1 : (n : Int) ≤ (Q2.bs.length : Int) := by omega
    have r2 : (0 : Int) ≤ (n : Int) := by omega
    have r3 : (n : Int) ≤ (c : Int) := by omega
    have r4 : n ≤ c := by omega
    by_cases hb0 : Q2.bs.length = 0
    · have hn0 : n = 0 := by omega
      subst hn0
      have hbn : Q2.bs = [] := List.eq_nil_of_length_eq_zero hb0
      have HSBA : Hid (∀ a' c', (a' = none → c' = 0) → c' ≤ 9223372036854775807 → RdAt (w1.setCell ⟨b, 0, none⟩ (.slice a' 0 c')) o i b ⟨[], Q2.e⟩ ∧ Step (Own i) w1 o (w1.setCell ⟨b, 0, none⟩ (.slice a' 0 c')) o) :=
        fun a' c' q1 q2 => H2.out.setbs hi a' 0 c' [] rfl ⟨⟨by simp, q2, q1, fun h => by simp at h⟩, fun h => by simp at h⟩
      have HDT : Hid (∀ (W : World) a' c', (a' = none → c' = 0) → c' ≤ 9223372036854775807 → Dat W o 0 a' c' (([] : List UInt8).map byteV)) :=
        fun W a' c' q1 q2 => ⟨⟨by simp, q2, q1, fun h => by simp at h⟩, fun h => by simp at h⟩
      have hfin : rawR Q = ([], ⟨[], 0⟩) := by rw [hfin, hbn]; rfl
      have HF := Lib.hid hfin
      rw [hb0] at c0
      cases a with
      | none =>
        have hc0 : c = 0 := G2.out.1.2.2.1 rfl
        subst hc0
        clear hfin htl hdl HRAW he h3 hLO hbn hb0
        go_wp2_with fail
        go_ret
        unfold Hid
        rw [HF.out]
        exact ⟨none, 0, rfl, H1.out.trans (HSBA.out none 0 (fun _ => rfl) (by omega)).2, ⟨_, (HSBA.out none 0 (fun _ => rfl) (by omega)).1, ⟨HE.out, fun _ => rfl⟩, by simp⟩, Dat.nil byteV _ _ _⟩
      | some p =>
        by_cases hck : c = 0
        · subst hck
          clear hfin htl hdl HRAW he h3 hLO hbn hb0
          go_wp2_with fail
          go_ret
          unfold Hid
          rw [HF.out]
          exact ⟨_, _, rfl, H1.out.trans (HSBA.out _ _ (by simp) (by omega)).2, ⟨_, (HSBA.out _ _ (by simp) (by omega)).1, ⟨HE.out, fun _ => rfl⟩, by simp⟩, HDT.out _ _ _ (by simp) (by omega)⟩
        · clear hfin htl hdl HRAW he h3 hLO hbn hb0
          go_wp2_with fail
          go_ret
          unfold Hid
          rw [HF.out]
          exact ⟨_, _, rfl, H1.out.trans (HSBA.out _ _ (by simp) (by omega)).2, ⟨_, (HSBA.out _ _ (by simp) (by omega)).1, ⟨HE.out, fun _ => rfl⟩, by simp⟩, HDT.out _ _ _ (by simp) (by omega)⟩
    · obtain ⟨db, off, rfl⟩ := G2.out.slice.addr (by simp; omega)
      by_cases hck : c = n
      · obtain rfl : n = c := hck.symm
        have HSB := Lib.hid (H2.out.setbs hi (some ⟨db, off, none⟩) 0 0 (Q2.bs.drop n) (by omega) (Dat.dropAll (by omega)))
        have HTT := Lib.hid ((G2.out.take n).step HSB.out.2 (Own.not0 hi))
        clear hfin htl hdl HRAW he h3 hLO
        go_wp2_with fail
        go_ret
        unfold Hid
        rw [HF.out]
        exact ⟨some ⟨db, off, none⟩, _, by simp only [HT.out]; rfl, H1.out.trans HSB.out.2, ⟨_, HSB.out.1, ⟨HE.out, fun _ => rfl⟩, by show (Q2.bs.drop n).length ≤ _; rw [HD.out]; omega⟩, HTT.out⟩
      · have HSB := Lib.hid (H2.out.setbs hi (some ⟨db, off + n, none⟩) (Q2.bs.length - n) (c - n) (Q2.bs.drop n) hdl.symm (G2.out.drop (by omega) (by omega) hck))
        have HTT := Lib.hid ((G2.out.take n).step HSB.out.2 (Own.not0 hi))
        clear hfin htl hdl HRAW he h3 hLO
        go_wp2_with fail
        go_ret
        unfold Hid
        rw [HF.out]
        exact ⟨some ⟨db, off, none⟩, _, by simp only [HT.out]; rfl, H1.out.trans HSB.out.2, ⟨_, HSB.out.1, ⟨HE.out, fun _ => rfl⟩, by show (Q2.bs.drop n).length ≤ _; rw [HD.out]; omega⟩, HTT.out⟩
  · have hz' : ((Q2.e : Int) != 0) = true := by rw [h3.1]; simpa using he
    have hfin : rawR Q = ([], R2) := by rw [HRAW.out, if_neg he]
    have HF := Lib.hid hfin
    have H3 := Lib.hid h3
    clear hfin HRAW he h3 hLO hn
    go_wp2_with fail
    go_ret
    unfold Hid
    rw [HF.out]
    exact ⟨none, 0, rfl, H1.out, ⟨_, H2.out, H3.out, h4⟩, Dat.nil byteV _ _ _⟩
end Go.Proofs.Ytplhclmmmfpgeaa
