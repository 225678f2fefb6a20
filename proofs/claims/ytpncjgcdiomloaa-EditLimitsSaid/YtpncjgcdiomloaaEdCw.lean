/-
  The walk of the law EditCompose.
-/
import Derived.Test.YtpncjgcdiomloaaEdRd
import Derived.Test.YtpncjgcdiomloaaEdY
import Derived.Test.YtpncjgcdiomloaaEdP
namespace Go.Proofs.Ytpncjgcdiomloaa
open Go Go.Proofs
open Go.RowKit
set_option linter.unusedVariables false
set_option linter.unusedSimpArgs false

/-- Two lists one after the other, composed. -/
theorem comp_facts {l : List UInt8} {a b : List Ed} (ha : Snd l.length 0 a) (hb : Snd (applyL l 0 a).length 0 b) (h5 : a.length + b.length ≤ 61) :
    compE l a b = 0 ∧ compO l a b = normL l (compP l a b) ∧ Snd l.length 0 (normL l (compP l a b)) ∧ (normL l (compP l a b)).length ≤ a.length + b.length + 3 ∧
      validL l.length (normL l (compP l a b)) = 0 ∧ applyX l (normL l (compP l a b)) = applyL (applyL l 0 a) 0 b := by
  have h1 := compP_length ha hb
  have h2 := norm_len l (compP l a b)
  have h3 := norm_snd (compP_snd ha hb)
  have hv := valid_of h3 (by omega)
  have he : compE l a b = 0 := by
    unfold compE
    rw [valid_of ha (by omega), valid_of hb (by omega), if_neg (by simp), if_neg (by simp), if_neg (by omega)]
  refine ⟨he, by unfold compO; rw [if_pos he], h3, by omega, hv, ?_⟩
  rw [applyX_ok hv, comp_apply ha hb]
theorem compP_x {l : List UInt8} {a b : List Ed} : ∀ e ∈ compP l a b, e.x.length ≤ (applyL (applyL l 0 a) 0 b).length := by
  unfold compP
  exact gapsP_x _ _ _ _ _

set_option maxRecDepth 100000 in
set_option maxHeartbeats 8000000 in
theorem editCompose_walk (s : ByteArray) (a2 : Option Addr) (c2 : Nat) (xs : List Int) (a3 : Option Addr) (c3 : Nat) (ys : List Int) (a : Option Addr) (c : Nat) (es : List Ed) (w : World) (hs : s.size ≤ 9223372036854775807)
    (hn : SliceAt w a2 c2 (xs.map intV)) (hnb : ∀ n ∈ xs, -9223372036854775808 ≤ n ∧ n ≤ 9223372036854775807) (hm : SliceAt w a3 c3 (ys.map intV)) (hmb : ∀ n ∈ ys, -9223372036854775808 ≤ n ∧ n ≤ 9223372036854775807) (hx : EdsAt w a c es) (hw : ∀ e ∈ es, EdW e) :
    Calls Try.prog 10 #[.string s, .slice a2 xs.length c2, .slice a3 ys.length c3, .slice a es.length c] w fun e w' => e = .returned (.bool true) ∧ Below w.heap.size w w' := by
  have K1 := Lib.hid (short_any s 60 w hs (by decide))
  have K2 := Lib.hid fun W (hW : Below w.heap.size w W) => fewEd_any a c es 4 W (hx.below hW) (by decide) fun e he => (hw e he).2.2.2.2
  have hfs := size_extract0 s 60
  have K3 := Lib.hid (raw_any (s.extract 0 60) a2 c2 xs w (by omega) hn hnb)
  have K4 := Lib.hid fun (t : ByteArray) W (ht : t.size ≤ 1000000) (hW : Below w.heap.size w W) => raw_any t a3 c3 ys W ht (hm.below hW) hmb
  generalize s.extract 0 60 = t at *
  clear hx hw hn hnb hm hmb
  go_enter Try.func10, Try.ntmps10
  go_wp2_with fail
  refine K1.out.mono ?_
  rintro e w1 ⟨rfl, rfl⟩
  go_wp2_with fail
  refine K3.out.mono ?_
  rintro e w1 ⟨b1, d1, A, rfl, hA, hAt, hb1⟩
  obtain ⟨l, hl⟩ : ∃ l, t.data.toList = l := ⟨_, rfl⟩
  have hsl : t.size = l.length := by rw [← hl]; rfl
  rw [hsl] at hA
  obtain ⟨hA1, hA2, hA3⟩ := hA
  have hva := valid_of hA1 (by omega)
  have hTl := apply_le hA1 hA3
  have k5 := fun W (hW : Below w1.heap.size w1 W) => Apply_any t b1 d1 A W (by omega) (hAt.below hW) (by rw [hl, applyX_ok hva]; omega)
  rw [hl, applyX_ok hva, hsl, hva] at k5
  have K5 := Lib.hid k5
  have HAt := Lib.hid hAt
  obtain ⟨T, hT⟩ : ∃ T, applyL l 0 A = T := ⟨_, rfl⟩
  rw [hT] at hTl K5
  have HT := Lib.hid hT
  have HA1 := Lib.hid hA1
  have HA3 := Lib.hid hA3
  clear k5 hAt hT hA1 hA3 hva K1 K3
  go_wp2_with fail
  refine (K5.out w1 (Below.refl _ _)).mono ?_
  rintro e w2 ⟨rfl, hb2⟩
  have hB02 := Below.step hb1 hb2
  have K6 := Lib.hid (K4.out (strB T) w2 (by rw [strB_size]; omega) hB02)
  clear K4 K5
  go_wp2_with fail
  refine K6.out.mono ?_
  rintro e w3 ⟨b3, d3, B, rfl, hB, hBt, hb3⟩
  rw [strB_size] at hB
  obtain ⟨hB1, hB2, hB3⟩ := hB
  have hA1 := HA1.out
  have hB1' := hB1
  have hvb := valid_of hB1 (by omega)
  have hUl := apply_le hB1 hB3
  have hB13 := Below.step hb2 hb3
  have hat3 := HAt.out.below hB13
  rw [← HT.out] at hB1'
  obtain ⟨q1, q2, q3, q4, q5, q6⟩ := comp_facts hA1 hB1' (by omega)
  rw [HT.out] at q6
  have k7 := fun W (hW : Below w3.heap.size w3 W) => Apply_any (strB T) b3 d3 B W (by rw [strB_size]; omega) (hBt.below hW) (by rw [strB_list, applyX_ok hvb]; omega)
  rw [strB_list, applyX_ok hvb, strB_size, hvb] at k7
  have k8 := fun W (hW : Below w3.heap.size w3 W) => Compose_any t b1 d1 A b3 d3 B W (by omega) (hat3.below hW) (hBt.below hW) (fun e he => by have := HA3.out e he; omega) (fun e he => by have := hB3 e he; omega)
  have k9 := fun W (hW : Below w3.heap.size w3 W) => rCompose_any t b1 d1 A b3 d3 B W (by omega) (hat3.below hW) (hBt.below hW) (fun e he => by have := HA3.out e he; omega) (fun e he => by have := hB3 e he; omega) (fun _ _ => by rw [hl, HT.out]; omega)
  rw [hl, q1, q2] at k8 k9
  have k10 := fun W a9 c9 (hI : EdsAt W a9 c9 (normL l (compP l A B))) => Apply_any t a9 c9 (normL l (compP l A B)) W (by omega) hI (by rw [hl, q6]; omega)
  rw [hl, q6, hsl, q5] at k10
  -- any two lists, the other one being any
  have k11 := fun a9 c9 (F : List Ed) W (hF : EdsAt W a9 c9 F) (h8 : ∀ e ∈ F, e.x.length ≤ 8) (h4 : F.length ≤ 4) (hW : Below w3.heap.size w3 W) => Compose_any t b1 d1 A a9 c9 F W (by omega) (hat3.below hW) hF (fun e he => by have := HA3.out e he; omega) (fun e he => by have := h8 e he; omega)
  have k12 := fun a9 c9 (F : List Ed) W (hF : EdsAt W a9 c9 F) (h8 : ∀ e ∈ F, e.x.length ≤ 8) (h4 : F.length ≤ 4) (hW : Below w3.heap.size w3 W) => rCompose_any t b1 d1 A a9 c9 F W (by omega) (hat3.below hW) hF (fun e he => by have := HA3.out e he; omega) (fun e he => by have := h8 e he; omega) (fun h1 h2 => by
    rw [hl] at h2 ⊢
    have := apply_le (valid_snd h2) h8
    rw [HT.out] at this ⊢
    omega)
  have k13 := fun a9 c9 (F : List Ed) W (hF : EdsAt W a9 c9 F) (h8 : ∀ e ∈ F, e.x.length ≤ 8) (h4 : F.length ≤ 4) (hW : Below w3.heap.size w3 W) => Compose_any t a9 c9 F b3 d3 B W (by omega) hF (hBt.below hW) (fun e he => by have := h8 e he; omega) (fun e he => by have := hB3 e he; omega)
  have k14 := fun a9 c9 (F : List Ed) W (hF : EdsAt W a9 c9 F) (h8 : ∀ e ∈ F, e.x.length ≤ 8) (h4 : F.length ≤ 4) (hW : Below w3.heap.size w3 W) => rCompose_any t a9 c9 F b3 d3 B W (by omega) hF (hBt.below hW) (fun e he => by have := h8 e he; omega) (fun e he => by have := hB3 e he; omega) (fun h1 h2 => by
    rw [hl] at h1 h2 ⊢
    have g1 := apply_le (valid_snd h1) h8
    have g2 := apply_le (valid_snd h2) hB3
    omega)
  rw [hl] at k11 k12 k13 k14
  have K7 := Lib.hid k7
  have K8 := Lib.hid k8
  have K9 := Lib.hid k9
  have K10 := Lib.hid k10
  have K11 := Lib.hid k11
  have K12 := Lib.hid k12
  have K13 := Lib.hid k13
  have K14 := Lib.hid k14
  generalize normL l (compP l A B) = C at *
  generalize strB (applyL T 0 B) = u at *
  have hB03 := Below.step hB02 hb3
  have HB03 := Lib.hid hB03
  have hCl : C.length ≤ 64 := by omega
  clear k7 k8 k9 k10 k11 k12 k13 k14 q1 q2 q3 q4 q5 q6 hvb hUl hB1 hB1' hB3 hat3 hBt hB13 hB02 hb1 hb2 hb3 hB03 HT HA1 HA3 HAt K6 hA1 hTl
  generalize strB T = tt at *
  go_wp2_with fail
  refine (K7.out w3 (Below.refl _ _)).mono ?_
  rintro e w4 ⟨rfl, hb4⟩
  go_wp2_with fail
  refine (K8.out w4 hb4).mono ?_
  rintro e w5 ⟨v5, rfl, ho5, hb5⟩
  obtain ⟨a5, c5, rfl, hC5⟩ := ho5.at
  have HC5 := Lib.hid hC5
  have hB35 := Below.step hb4 hb5
  clear ho5 hC5
  go_wp2_with fail
  refine (K9.out w5 hB35).mono ?_
  rintro e w6 ⟨v6, rfl, ho6, hb6⟩
  obtain ⟨a6, c6, rfl, hC6⟩ := ho6.at
  have HC6 := Lib.hid hC6
  have hB36 := Below.step hB35 hb6
  clear ho6 hC6
  go_wp2_with fail
  refine (K10.out w6 a5 c5 (HC5.out.below hb6)).mono ?_
  rintro e w7 ⟨rfl, hb7⟩
  have hB37 := Below.step hB36 hb7
  have hB57 := Below.step hb6 hb7
  have KS := Lib.hid (sameEd_any a5 a6 c5 c6 C w7 (HC5.out.below hB57) (HC6.out.below hb7))
  have hne : (u.toList != u.toList) = false := by simp
  clear K7 K8 K9 K10
  go_wp2_with fail
  refine KS.out.mono ?_
  rintro e w8 ⟨rfl, hb8⟩
  have hB38 := Below.step hB37 hb8
  have hB08 := Below.step HB03.out hB38
  clear KS
  go_wp2_with fail
  refine (K2.out w8 hB08).mono ?_
  rintro e w9 ⟨v9, rfl, ho9, hb9⟩
  obtain ⟨a9, c9, rfl, hF9⟩ := ho9.at
  have hf8 : ∀ e ∈ fewL es 4, e.x.length ≤ 8 := fun e he => few_x e he
  have hf4 : (fewL es 4).length ≤ 4 := few_len es 4
  generalize fewL es 4 = F at *
  have HF9 := Lib.hid hF9
  have HF8 := Lib.hid hf8
  have hB39 := Below.step hB38 hb9
  have hB09 := Below.step hB08 hb9
  clear ho9 hF9 K2 hf8 hne hB57 hB35 hB36 hB37 hb4 hb5 hb6 hb7 hb8 hb9 hB08
  have hE1 : (compE l A F == compE l A F) = true := by simp
  have hE2 : (compE l F B == compE l F B) = true := by simp
  have k11 := fun W (hW : Below w9.heap.size w9 W) => K11.out a9 c9 F W (HF9.out.below hW) HF8.out hf4 (Below.step hB39 hW)
  have k12 := fun W (hW : Below w9.heap.size w9 W) => K12.out a9 c9 F W (HF9.out.below hW) HF8.out hf4 (Below.step hB39 hW)
  have k13 := fun W (hW : Below w9.heap.size w9 W) => K13.out a9 c9 F W (HF9.out.below hW) HF8.out hf4 (Below.step hB39 hW)
  have k14 := fun W (hW : Below w9.heap.size w9 W) => K14.out a9 c9 F W (HF9.out.below hW) HF8.out hf4 (Below.step hB39 hW)
  clear K11 K12 K13 K14
  generalize compE l A F = E1 at *
  generalize compE l F B = E2 at *
  generalize compO l A F = O1 at *
  generalize compO l F B = O2 at *
  have K11 := Lib.hid k11
  have K12 := Lib.hid k12
  have K13 := Lib.hid k13
  have K14 := Lib.hid k14
  clear k11 k12 k13 k14
  go_wp2_with fail
  refine (K11.out w9 (Below.refl _ _)).mono ?_
  rintro e w10 ⟨v10, rfl, ho10, hb10⟩
  obtain ⟨a10, c10, rfl, h10⟩ := ho10.at
  have H10 := Lib.hid h10
  clear ho10 h10
  go_wp2_with fail
  refine (K12.out w10 hb10).mono ?_
  rintro e w11 ⟨v11, rfl, ho11, hb11⟩
  obtain ⟨a11, c11, rfl, h11⟩ := ho11.at
  have H11 := Lib.hid h11
  have hB911 := Below.step hb10 hb11
  clear ho11 h11
  go_wp2_with fail
  refine (K13.out w11 hB911).mono ?_
  rintro e w12 ⟨v12, rfl, ho12, hb12⟩
  obtain ⟨a12, c12, rfl, h12⟩ := ho12.at
  have H12 := Lib.hid h12
  have hB912 := Below.step hB911 hb12
  clear ho12 h12
  go_wp2_with fail
  refine (K14.out w12 hB912).mono ?_
  rintro e w13 ⟨v13, rfl, ho13, hb13⟩
  obtain ⟨a13, c13, rfl, h13⟩ := ho13.at
  have hB913 := Below.step hB912 hb13
  have hB1113 := Below.step hb12 hb13
  have KS1 := Lib.hid (sameEd_any a10 a11 c10 c11 O1 w13 (H10.out.below (Below.step hb11 hB1113)) (H11.out.below hB1113))
  have KS2 := Lib.hid fun W (hW : Below w13.heap.size w13 W) => sameEd_any a12 a13 c12 c13 O2 W (H12.out.below (Below.step hb13 hW)) (h13.below hW)
  clear ho13 h13 K11 K12 K13 K14
  go_wp2_with fail
  refine KS1.out.mono ?_
  rintro e w14 ⟨rfl, hb14⟩
  go_wp2_with fail
  refine (KS2.out w14 hb14).mono ?_
  rintro e w15 ⟨rfl, hb15⟩
  go_wp2_with fail
  refine (lives_any w15).mono ?_
  rintro e w16 ⟨rfl, hb16⟩
  go_wp2_with fail
  go_ret
  exact ⟨rfl, Below.step (Below.step (Below.step (Below.step hB09 hB913) hb14) hb15) hb16⟩
end Go.Proofs.Ytpncjgcdiomloaa
