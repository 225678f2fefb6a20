/-
  The walk of the law EditNests.
-/
import Derived.Test.YtpncjgcdiomloaaEdCw
namespace Go.Proofs.Ytpncjgcdiomloaa
open Go Go.Proofs
open Go.RowKit
set_option linter.unusedVariables false
set_option linter.unusedSimpArgs false

theorem inv_textsN {s : List UInt8} {es : List Ed} : ∀ {d : Int}, ∀ e ∈ invL s d es, e.x.length ≤ s.length := by
  induction es with
  | nil => intro d e he; simp [invL] at he
  | cons x es ih =>
    intro d e he
    rcases List.mem_cons.1 he with rfl | he
    · simp only [cutL, List.length_take, List.length_drop]; omega
    · exact ih e he
theorem compN_x {l : List UInt8} {a b : List Ed} (ha : Snd l.length 0 a) (hb : Snd (applyL l 0 a).length 0 b) : ∀ e ∈ normL l (compP l a b), e.x.length ≤ (applyL (applyL l 0 a) 0 b).length := by
  intro e he
  unfold normL at he
  rw [joinL_apart (compP_gap ha hb)] at he
  exact compP_x e (List.mem_filter.1 he).1
theorem compN_apply {l : List UInt8} {a b : List Ed} (ha : Snd l.length 0 a) (hb : Snd (applyL l 0 a).length 0 b) : applyL l 0 (normL l (compP l a b)) = applyL (applyL l 0 a) 0 b := comp_apply ha hb
/-- Both ways to compose three lists. -/
theorem nest_facts {l T U : List UInt8} {A B C : List Ed} (hA : Snd l.length 0 A) (hT : applyL l 0 A = T) (hB : Snd T.length 0 B) (hU : applyL T 0 B = U) (hC : Snd U.length 0 C) (hA5 : A.length ≤ 5) (hB5 : B.length ≤ 5) (hC5 : C.length ≤ 5) :
    ∃ AB BC, compE l A B = 0 ∧ compO l A B = AB ∧ AB.length ≤ 13 ∧ (∀ e ∈ AB, e.x.length ≤ U.length) ∧ compE T B C = 0 ∧ compO T B C = BC ∧ BC.length ≤ 13 ∧ (∀ e ∈ BC, e.x.length ≤ (applyL U 0 C).length) ∧
      compE l AB C = 0 ∧ validL l.length (compO l AB C) = 0 ∧ applyX l (compO l AB C) = applyL U 0 C ∧ compE l A BC = 0 ∧ validL l.length (compO l A BC) = 0 ∧ applyX l (compO l A BC) = applyL U 0 C := by
  subst hT hU
  obtain ⟨p1, p2, p3, p4, p5, p6⟩ := comp_facts hA hB (by omega)
  obtain ⟨q1, q2, q3, q4, q5, q6⟩ := comp_facts (l := applyL l 0 A) hB hC (by omega)
  have h1 := compN_apply hA hB
  have h2 := compN_apply (l := applyL l 0 A) hB hC
  have hC' : Snd (applyL l 0 (normL l (compP l A B))).length 0 C := by rw [h1]; exact hC
  obtain ⟨r1, r2, r3, r4, r5, r6⟩ := comp_facts (l := l) p3 hC' (by omega)
  obtain ⟨s1, s2, s3, s4, s5, s6⟩ := comp_facts (l := l) hA q3 (by omega)
  refine ⟨_, _, p1, p2, by omega, compN_x hA hB, q1, q2, by omega, compN_x (l := applyL l 0 A) hB hC, r1, by rw [r2]; exact r5, by rw [r2, r6, h1], s1, by rw [s2]; exact s5, by rw [s2, s6, h2]⟩
theorem back_facts {l : List UInt8} {A : List Ed} (hA : Snd l.length 0 A) (hA5 : A.length ≤ 5) : validL l.length A = 0 ∧ invX l A = invL l 0 A ∧ (∀ e ∈ invL l 0 A, e.x.length ≤ l.length) ∧ compE l A (invL l 0 A) = 0 ∧ compO l A (invL l 0 A) = [] := by
  have hv := valid_of hA (by omega)
  have hl := apply_len hA
  have hb : Snd (applyL l 0 A).length 0 (invL l 0 A) := inv_sound hA (by simp) (by omega)
  obtain ⟨p1, p2, _, _, _, _⟩ := comp_facts hA hb (by rw [inv_length]; omega)
  exact ⟨hv, invX_ok hv, inv_textsN, p1, by rw [p2]; exact comp_inv hA⟩

set_option maxRecDepth 100000 in
set_option maxHeartbeats 8000000 in
theorem editNests_walk (s : ByteArray) (a2 : Option Addr) (c2 : Nat) (xs : List Int) (a3 : Option Addr) (c3 : Nat) (ys : List Int) (a4 : Option Addr) (c4 : Nat) (zs : List Int) (w : World) (hs : s.size ≤ 9223372036854775807)
    (hn : SliceAt w a2 c2 (xs.map intV)) (hnb : ∀ n ∈ xs, -9223372036854775808 ≤ n ∧ n ≤ 9223372036854775807) (hm : SliceAt w a3 c3 (ys.map intV)) (hmb : ∀ n ∈ ys, -9223372036854775808 ≤ n ∧ n ≤ 9223372036854775807) (hk : SliceAt w a4 c4 (zs.map intV)) (hkb : ∀ n ∈ zs, -9223372036854775808 ≤ n ∧ n ≤ 9223372036854775807) :
    Calls Try.prog 11 #[.string s, .slice a2 xs.length c2, .slice a3 ys.length c3, .slice a4 zs.length c4] w fun e w' => e = .returned (.bool true) ∧ Below w.heap.size w w' := by
  have K1 := Lib.hid (short_any s 40 w hs (by decide))
  have hfs := size_extract0 s 40
  have K3 := Lib.hid (raw_any (s.extract 0 40) a2 c2 xs w (by omega) hn hnb)
  have K4 := Lib.hid fun (t : ByteArray) W (ht : t.size ≤ 1000000) (hW : Below w.heap.size w W) => raw_any t a3 c3 ys W ht (hm.below hW) hmb
  have K4' := Lib.hid fun (t : ByteArray) W (ht : t.size ≤ 1000000) (hW : Below w.heap.size w W) => raw_any t a4 c4 zs W ht (hk.below hW) hkb
  generalize s.extract 0 40 = t at *
  clear hn hnb hm hmb hk hkb
  go_enter Try.func11, Try.ntmps11
  go_wp2_with fail
  refine K1.out.mono ?_
  rintro e w1 ⟨rfl, rfl⟩
  go_wp2_with fail
  refine K3.out.mono ?_
  rintro e w1 ⟨b1, d1, A, rfl, hA, hAt, hb1⟩
  obtain ⟨l, hl⟩ : ∃ l, t.data.toList = l := ⟨_, rfl⟩
  have hsl : t.size = l.length := by rw [← hl]; rfl
  rw [hsl] at hA
  obtain ⟨hA1, hA2, hA3⟩ := hA
  have hva := valid_of hA1 (by omega)
  have hTl := apply_le hA1 hA3
  have k5 := fun W (hW : Below w1.heap.size w1 W) => Apply_any t b1 d1 A W (by omega) (hAt.below hW) (by rw [hl, applyX_ok hva]; omega)
  rw [hl, applyX_ok hva, hsl, hva] at k5
  have K5 := Lib.hid k5
  have HAt := Lib.hid hAt
  obtain ⟨T, hT⟩ : ∃ T, applyL l 0 A = T := ⟨_, rfl⟩
  rw [hT] at hTl K5
  have HT := Lib.hid hT
  have HA1 := Lib.hid hA1
  have HA3 := Lib.hid hA3
  clear k5 hAt hT hA1 hA3 hva K1 K3
  go_wp2_with fail
  refine (K5.out w1 (Below.refl _ _)).mono ?_
  rintro e w2 ⟨rfl, hb2⟩
  have hB02 := Below.step hb1 hb2
  have K6 := Lib.hid (K4.out (strB T) w2 (by rw [strB_size]; omega) hB02)
  clear K4 K5
  go_wp2_with fail
  refine K6.out.mono ?_
  rintro e w3 ⟨b3, d3, B, rfl, hB, hBt, hb3⟩
  rw [strB_size] at hB
  obtain ⟨hB1, hB2, hB3⟩ := hB
  have hvb := valid_of hB1 (by omega)
  have hUl := apply_le hB1 hB3
  have k7 := fun W (hW : Below w3.heap.size w3 W) => Apply_any (strB T) b3 d3 B W (by rw [strB_size]; omega) (hBt.below hW) (by rw [strB_list, applyX_ok hvb]; omega)
  rw [strB_list, applyX_ok hvb, strB_size, hvb] at k7
  have K7 := Lib.hid k7
  obtain ⟨U, hU⟩ : ∃ U, applyL T 0 B = U := ⟨_, rfl⟩
  rw [hU] at hUl K7
  have HU := Lib.hid hU
  have HB1 := Lib.hid hB1
  have HB3 := Lib.hid hB3
  have HBt := Lib.hid hBt
  have hB13 := Below.step hb2 hb3
  have hB03 := Below.step hB02 hb3
  clear k7 hBt hU hB1 hB3 hvb K6
  go_wp2_with fail
  refine (K7.out w3 (Below.refl _ _)).mono ?_
  rintro e w4 ⟨rfl, hb4⟩
  have hB04 := Below.step hB03 hb4
  have K8 := Lib.hid (K4'.out (strB U) w4 (by rw [strB_size]; omega) hB04)
  clear K4' K7
  go_wp2_with fail
  refine K8.out.mono ?_
  rintro e w5 ⟨b5, d5, C, rfl, hC, hCt, hb5⟩
  rw [strB_size] at hC
  obtain ⟨hC1, hC2, hC3⟩ := hC
  have hvc := valid_of hC1 (by omega)
  have hVl := apply_le hC1 hC3
  obtain ⟨AB, BC, n1, n2, n3, n4, n5, n6, n7, n8, n9, n10, n11, n12, n13, n14⟩ := nest_facts HA1.out HT.out HB1.out HU.out hC1 hA2 hB2 hC2
  obtain ⟨i1, i2, i3, i4, i5⟩ := back_facts HA1.out hA2

  have hB35 := Below.step hb4 hb5
  have hat5 := HAt.out.below (Below.step hB13 hB35)
  have hbt5 := HBt.out.below hB35
  have k9 := fun W (hW : Below w5.heap.size w5 W) => Apply_any (strB U) b5 d5 C W (by rw [strB_size]; omega) (hCt.below hW) (by rw [strB_list, applyX_ok hvc]; omega)
  rw [strB_list, applyX_ok hvc, strB_size, hvc] at k9
  have k10 := fun W (hW : Below w5.heap.size w5 W) => Compose_any t b1 d1 A b3 d3 B W (by omega) (hat5.below hW) (hbt5.below hW) (fun e he => by have := HA3.out e he; omega) (fun e he => by have := HB3.out e he; omega)
  have k11 := fun W (hW : Below w5.heap.size w5 W) => Compose_any (strB T) b3 d3 B b5 d5 C W (by rw [strB_size]; omega) (hbt5.below hW) (hCt.below hW) (fun e he => by have := HB3.out e he; omega) (fun e he => by have := hC3 e he; omega)
  have k12 := fun a9 c9 W (hF : EdsAt W a9 c9 AB) (hW : Below w5.heap.size w5 W) => Compose_any t a9 c9 AB b5 d5 C W (by omega) hF (hCt.below hW) (fun e he => by have := n4 e he; omega) (fun e he => by have := hC3 e he; omega)
  have k13 := fun a9 c9 W (hF : EdsAt W a9 c9 BC) (hW : Below w5.heap.size w5 W) => Compose_any t b1 d1 A a9 c9 BC W (by omega) (hat5.below hW) hF (fun e he => by have := HA3.out e he; omega) (fun e he => by have := n8 e he; omega)
  have k14 := fun W (hW : Below w5.heap.size w5 W) => Invert_any t b1 d1 A W (by omega) (hat5.below hW) (fun e he => by have := HA3.out e he; omega)
  have k15 := fun a9 c9 W (hF : EdsAt W a9 c9 (invL l 0 A)) (hW : Below w5.heap.size w5 W) => Compose_any t b1 d1 A a9 c9 (invL l 0 A) W (by omega) (hat5.below hW) hF (fun e he => by have := HA3.out e he; omega) (fun e he => by have := i3 e he; omega)
  rw [strB_list] at k11
  rw [hl] at k10 k12 k13 k14 k15
  rw [n1, n2] at k10
  rw [n5, n6] at k11
  rw [n9] at k12
  rw [n12] at k13
  rw [hsl, i1, i2] at k14
  rw [i4, i5] at k15
  have k16 := fun W a9 c9 (hI : EdsAt W a9 c9 (compO l AB C)) => Apply_any t a9 c9 (compO l AB C) W (by omega) hI (by rw [hl, n11]; omega)
  have k17 := fun W a9 c9 (hI : EdsAt W a9 c9 (compO l A BC)) => Apply_any t a9 c9 (compO l A BC) W (by omega) hI (by rw [hl, n14]; omega)
  rw [hl, n11, hsl, n10] at k16
  rw [hl, n14, hsl, n13] at k17
  have K9 := Lib.hid k9
  have K10 := Lib.hid k10
  have K11 := Lib.hid k11
  have K12 := Lib.hid k12
  have K13 := Lib.hid k13
  have K14 := Lib.hid k14
  have K15 := Lib.hid k15
  have K16 := Lib.hid k16
  have K17 := Lib.hid k17
  have HB05 := Lib.hid (Below.step hB04 hb5)
  clear k9 k10 k11 k12 k13 k14 k15 k16 k17 n1 n2 n4 n5 n6 n8 n9 n10 n11 n12 n13 n14 i1 i2 i3 i4 i5 hvc hVl hC1 hC3 hat5 hbt5 hCt HT HA1 HA3 HAt HU HB1 HB3 HBt hTl hUl hB02 hB03 hB04 hB13 hB35 hb1 hb2 hb3 hb4 hb5 K8
  generalize strB (applyL U 0 C) = v at *
  generalize strB U = uu at *
  generalize strB T = tt at *
  generalize compO l AB C = ONE at *
  generalize compO l A BC = TWO at *
  generalize invL l 0 A = BK at *
  go_wp2_with fail
  refine (K9.out w5 (Below.refl _ _)).mono ?_
  rintro e w6 ⟨rfl, hb6⟩
  go_wp2_with fail
  refine (K10.out w6 hb6).mono ?_
  rintro e w7 ⟨v7, rfl, ho7, hb7⟩
  obtain ⟨a7, c7, rfl, h7⟩ := ho7.at
  have H7 := Lib.hid h7
  have hB7 := Below.step hb6 hb7
  clear ho7 h7
  go_wp2_with fail
  refine (K11.out w7 hB7).mono ?_
  rintro e w8 ⟨v8, rfl, ho8, hb8⟩
  obtain ⟨a8, c8, rfl, h8⟩ := ho8.at
  have H8 := Lib.hid h8
  have hB8 := Below.step hB7 hb8
  clear ho8 h8
  go_wp2_with fail
  refine (K12.out a7 c7 w8 (H7.out.below hb8) hB8).mono ?_
  rintro e w9 ⟨v9, rfl, ho9, hb9⟩
  obtain ⟨a9, c9, rfl, h9⟩ := ho9.at
  have H9 := Lib.hid h9
  have hB9 := Below.step hB8 hb9
  clear ho9 h9
  go_wp2_with fail
  refine (K13.out a8 c8 w9 (H8.out.below hb9) hB9).mono ?_
  rintro e w10 ⟨v10, rfl, ho10, hb10⟩
  obtain ⟨a10, c10, rfl, h10⟩ := ho10.at
  have H10 := Lib.hid h10
  have hB10 := Below.step hB9 hb10
  clear ho10 h10
  go_wp2_with fail
  refine (K16.out w10 a9 c9 (H9.out.below hb10)).mono ?_
  rintro e w11 ⟨rfl, hb11⟩
  have hB11 := Below.step hB10 hb11
  go_wp2_with fail
  refine (K17.out w11 a10 c10 (H10.out.below hb11)).mono ?_
  rintro e w12 ⟨rfl, hb12⟩
  have hB12 := Below.step hB11 hb12
  have hne : (v.toList != v.toList) = false := by simp
  go_wp2_with fail
  refine (K14.out w12 hB12).mono ?_
  rintro e w13 ⟨v13, rfl, ho13, hb13⟩
  obtain ⟨a13, c13, rfl, h13⟩ := ho13.at
  have H13 := Lib.hid h13
  have hB13 := Below.step hB12 hb13
  clear ho13 h13
  go_wp2_with fail
  refine (K15.out a13 c13 w13 H13.out hB13).mono ?_
  rintro e w14 ⟨v14, rfl, ho14, hb14⟩
  obtain ⟨a14, c14, rfl, -⟩ := ho14.at
  have hB14 := Below.step hB13 hb14
  clear ho14 K9 K10 K11 K12 K13 K14 K15 K16 K17
  simp only [List.length_nil]
  go_wp2_with fail
  refine (lives_any w14).mono ?_
  rintro e w15 ⟨rfl, hb15⟩
  go_wp2_with fail
  go_ret
  exact ⟨rfl, Below.step (Below.step HB05.out hB14) hb15⟩
end Go.Proofs.Ytpncjgcdiomloaa
