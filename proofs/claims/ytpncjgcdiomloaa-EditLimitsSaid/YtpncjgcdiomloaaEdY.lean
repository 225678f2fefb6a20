/-
  The walk of the law EditNormal.
-/
import Derived.Test.YtpncjgcdiomloaaEdX
namespace Go.Proofs.Ytpncjgcdiomloaa
open Go Go.Proofs
open Go.RowKit
set_option linter.unusedVariables false
set_option linter.unusedSimpArgs false

theorem norm_facts {l : List UInt8} {es : List Ed} (h : Snd l.length 0 es) (h5 : es.length ≤ 5) :
    validL l.length es = 0 ∧ normX l es = normL l es ∧ applyX l es = applyL l 0 es ∧ validL l.length (normL l es) = 0 ∧ normX l (normL l es) = normL l es ∧ applyX l (normL l es) = applyL l 0 es := by
  have hv := valid_of h (by omega)
  have hs := norm_snd h
  have hn := norm_len l es
  have hv2 := valid_of hs (by omega)
  exact ⟨hv, normX_ok hv, applyX_ok hv, hv2, by rw [normX_ok hv2, norm_again h], by rw [applyX_ok hv2, norm_apply h]⟩
theorem gap_at {N : List Ed} (h : N.Pairwise Gap) {j : Nat} {x y : Ed} (h1 : N[j]? = some x) (h2 : N[j + 1]? = some y) : x.t < y.f := by
  obtain ⟨l1, e1⟩ := List.getElem?_eq_some_iff.1 h1
  obtain ⟨l2, e2⟩ := List.getElem?_eq_some_iff.1 h2
  have := List.pairwise_iff_getElem.1 h j (j + 1) l1 l2 (by omega)
  rw [e1, e2] at this
  exact this

set_option maxRecDepth 100000 in
set_option maxHeartbeats 8000000 in
theorem editNormal_walk (s : ByteArray) (a2 : Option Addr) (c2 : Nat) (xs : List Int) (a : Option Addr) (c : Nat) (es : List Ed) (w : World) (hs : s.size ≤ 9223372036854775807) (hn : SliceAt w a2 c2 (xs.map intV)) (hnb : ∀ n ∈ xs, -9223372036854775808 ≤ n ∧ n ≤ 9223372036854775807) (hx : EdsAt w a c es) (hw : ∀ e ∈ es, EdW e) :
    Calls Try.prog 8 #[.string s, .slice a2 xs.length c2, .slice a es.length c] w fun e w' => e = .returned (.bool true) ∧ Below w.heap.size w w' := by
  have K1 := Lib.hid (short_any s 60 w hs (by decide))
  have K2 := Lib.hid fun W (hW : Below w.heap.size w W) => fewEd_any a c es 6 W (hx.below hW) (by decide) fun e he => (hw e he).2.2.2.2
  have hfs := size_extract0 s 60
  have K3 := Lib.hid (raw_any (s.extract 0 60) a2 c2 xs w (by omega) hn hnb)
  generalize s.extract 0 60 = t at *
  clear hx hw hn hnb
  go_enter Try.func8, Try.ntmps8
  go_wp2_with fail
  refine K1.out.mono ?_
  rintro e w1 ⟨rfl, rfl⟩
  go_wp2_with fail
  refine K3.out.mono ?_
  rintro e w1 ⟨b1, d1, gs, rfl, hg, hat, hb1⟩
  obtain ⟨f1, f2, f3, f4, f5, f6⟩ := norm_facts (l := t.data.toList) hg.1 hg.2.1
  have hul : (applyL t.data.toList 0 gs).length ≤ 1000 := by
    have := apply_le (s := t.data.toList) hg.1 hg.2.2
    rw [size_list] at this
    have := hg.2.1
    omega
  have hgx : ∀ e ∈ gs, e.x.length ≤ 1000000 := fun e he => by have := hg.2.2 e he; omega
  have hnx : ∀ e ∈ normL t.data.toList gs, e.x.length ≤ 1000000 := fun e he => by
    have h1 := norm_x hg.2.2 e he
    have h2 := hg.2.1
    have : 7 * (gs.length + 1) ≤ 1000000 := by omega
    omega
  have hgap := norm_gap (s := t.data.toList) hg.1
  have hnl := norm_len t.data.toList gs
  have hg5 := hg.2.1
  rw [size_list] at f1 f4
  have k4 := fun W (hW : Below w1.heap.size w1 W) => Normal_any t b1 d1 gs W (by omega) (hat.below hW) hgx
  have k5 := fun W (hW : Below w1.heap.size w1 W) => rNormal_any t b1 d1 gs W (by omega) (hat.below hW) hgx
  have k6 := fun W (hW : Below w1.heap.size w1 W) => Apply_any t b1 d1 gs W (by omega) (hat.below hW) (by rw [f3]; omega)
  have k7 := fun W a9 c9 (hI : EdsAt W a9 c9 (normL t.data.toList gs)) => Normal_any t a9 c9 (normL t.data.toList gs) W (by omega) hI hnx
  have k8 := fun W a9 c9 (hI : EdsAt W a9 c9 (normL t.data.toList gs)) => Apply_any t a9 c9 (normL t.data.toList gs) W (by omega) hI (by rw [f6]; omega)
  rw [f2, f1] at k4 k5
  rw [f3, f1] at k6
  rw [f5, f4] at k7
  rw [f6, f4] at k8
  have K4 := Lib.hid k4
  have K5 := Lib.hid k5
  have K6 := Lib.hid k6
  have K7 := Lib.hid k7
  have K8 := Lib.hid k8
  have HGAP := Lib.hid hgap
  generalize normL t.data.toList gs = N at *
  generalize strB (applyL t.data.toList 0 gs) = u at *
  have hN5 : N.length ≤ 5 := by omega
  clear k4 k5 k6 k7 k8 f1 f2 f3 f4 f5 f6 hul hgx hnx hat hg hgap K3 K1 hnl hg5
  go_wp2_with fail
  refine (K4.out w1 (Below.refl _ _)).mono ?_
  rintro e w2 ⟨v2, rfl, ho2, hb2⟩
  obtain ⟨a9, c9, rfl, hN2⟩ := ho2.at
  have HN2 := Lib.hid hN2
  have hc9 := hN2.le
  have hm9 := hN2.2.2.1
  clear ho2 hN2
  go_wp2_with fail
  refine (K5.out w2 hb2).mono ?_
  rintro e w3 ⟨v3, rfl, ho3, hb3⟩
  obtain ⟨a11, c11, rfl, hN3⟩ := ho3.at
  have HN3 := Lib.hid hN3
  have hB13 := Below.step hb2 hb3
  clear ho3 hN3
  go_wp2_with fail
  refine (K7.out w3 a9 c9 (HN2.out.below hb3)).mono ?_
  rintro e w4 ⟨v4, rfl, ho4, hb4⟩
  obtain ⟨a13, c13, rfl, hN4⟩ := ho4.at
  have HN4 := Lib.hid hN4
  have hB14 := Below.step hB13 hb4
  have hB24 := Below.step hb3 hb4
  clear ho4 hN4
  go_wp2_with fail
  refine (K6.out w4 hB14).mono ?_
  rintro e w5 ⟨rfl, hb5⟩
  have hB25 := Below.step hB24 hb5
  go_wp2_with fail
  refine (K8.out w5 a9 c9 (HN2.out.below hB25)).mono ?_
  rintro e w6 ⟨rfl, hb6⟩
  have hB26 := Below.step hB25 hb6
  have hB46 := Below.step hb5 hb6
  have hB36 := Below.step hb4 hB46
  have KS := Lib.hid (sameEd_any a9 a11 c9 c11 N w6 (HN2.out.below hB26) (HN3.out.below hB36))
  have hne : (u.toList != u.toList) = false := by simp
  clear K4 K5 K6 K7 K8
  go_wp2_with fail
  refine KS.out.mono ?_
  rintro e w7 ⟨rfl, hb7⟩
  have hB27 := Below.step hB26 hb7
  have hB47 := Below.step hB46 hb7
  have KS2 := Lib.hid (sameEd_any a9 a13 c9 c13 N w7 (HN2.out.below hB27) (HN4.out.below hB47))
  clear KS
  go_wp2_with fail
  refine KS2.out.mono ?_
  rintro e w8 ⟨rfl, hb8⟩
  have hB28 := Below.step hB27 hb8
  have hB08 := Below.step (Below.step hb1 hb2) hB28
  clear KS2 hB24 hB25 hB26 hB27 hB13 hB14 hB36 hB46 hB47
  go_wp2_with fail
  go_loopw [19] (fun kv wr => ∃ k : Nat, 1 ≤ k ∧ k ≤ N.length + 1 ∧ kv = .int .i64 k ∧ Below w2.heap.size w2 wr) (fun kv _ => N.length + 1 - (intOf kv).toNat)
  case atStart => exact ⟨1, by omega, by omega, rfl, hB28⟩
  case round =>
    obtain ⟨k, hk1, hk2, rfl, hB⟩ := hrel
    by_cases hlt : k < N.length
    · obtain ⟨j, hj⟩ : ∃ j, k = j + 1 := ⟨k - 1, by omega⟩
      obtain ⟨x, hxj⟩ : ∃ x, N[j]? = some x := ⟨N[j], List.getElem?_eq_getElem (by omega)⟩
      obtain ⟨y, hyk⟩ : ∃ y, N[k]? = some y := ⟨N[k], List.getElem?_eq_getElem hlt⟩
      have hgl := gap_at HGAP.out hxj (by rw [← hj]; exact hyk)
      obtain ⟨b, off, rfl⟩ := HN2.out.addr (by omega)
      obtain ⟨p0, p1, p2⟩ := (HN2.out.below hB).cells hxj
      obtain ⟨q0, q1, q2⟩ := (HN2.out.below hB).cells hyk
      have i1 : ((k : Int) - 1) = (j : Int) := by omega
      have i2 : IntKind.i64.wrap (j : Int) = (j : Int) := IntWalk.i64_in _ (by omega)
      have d1 : decide (y.f ≤ x.t) = false := decide_eq_false (by omega)
      have g1 : wr.drew.cell? ⟨b, off + j * 3 + 1, none⟩ = some (.int .i64 x.t) := p1
      have g2 : wr.drew.cell? ⟨b, off + k * 3, none⟩ = some (.int .i64 y.f) := q0
      have hjl : j < N.length := by omega
      have e1 : (0 : Int) ≤ (j : Int) := by omega
      have e2 : (j : Int) < (N.length : Int) := by omega
      have e3 : (k : Int) < (N.length : Int) := by omega
      have e4 : (0 : Int) ≤ (k : Int) := by omega
      clear hj hxj hyk hgl p0 p2 q1 q2
      go_wp2_with fail
      refine wp_region_still_lit (by kernel_rfl) (by kernel_rfl) ?_
      repeat still_step
      refine wpStill_nil ?_
      change Exit.then _ _ _ _ wr.drew
      go_wp2_with fail
      first
        | exact ⟨⟨k + 1, by omega, by omega, by go_num, Below.drew hB⟩, by simp [intOf]; omega⟩
        | (go_roundw
           case rel => exact ⟨k + 1, by omega, by omega, by go_num, Below.drew hB⟩
           case measure => simp [intOf]; omega)
    · have hB0 := Below.step (Below.step hb1 hb2) hB
      go_wp2_with fail
      refine (K2.out wr hB0).mono ?_
      rintro e w9 ⟨v9, rfl, ho9, hb9⟩
      obtain ⟨b7, d7, rfl, hat7⟩ := ho9.at
      have hB09 := Below.step hB0 hb9
      have hfx : ∀ e ∈ fewL es 6, e.x.length ≤ 1000000 := fun e he => by have := few_x e he; omega
      have k8 := fun W (hW : Below w9.heap.size w9 W) => Normal_any t b7 d7 (fewL es 6) W (by omega) (hat7.below hW) hfx
      have k9 := fun W (hW : Below w9.heap.size w9 W) => rNormal_any t b7 d7 (fewL es 6) W (by omega) (hat7.below hW) hfx
      have K8 := Lib.hid k8
      have K9 := Lib.hid k9
      clear ho9 hat7 hfx k8 k9 K2
      generalize fewL es 6 = fs at *
      generalize validL t.size fs = ev at *
      generalize normX t.data.toList fs = J at *
      have hee : (ev == ev) = true := by simp
      go_wp2_with fail
      refine (K8.out w9 (Below.refl _ _)).mono ?_
      rintro e w10 ⟨v10, rfl, ho10, hb10⟩
      obtain ⟨a8, c8, rfl, hI8⟩ := ho10.at
      have HI8 := Lib.hid hI8
      clear ho10 hI8
      go_wp2_with fail
      refine (K9.out w10 hb10).mono ?_
      rintro e w11 ⟨v11, rfl, ho11, hb11⟩
      obtain ⟨a99, c99, rfl, hI9⟩ := ho11.at
      have KS := Lib.hid (sameEd_any a8 a99 c8 c99 J w11 (HI8.out.below hb11) hI9)
      clear ho11 hI9
      go_wp2_with fail
      refine KS.out.mono ?_
      rintro e w12 ⟨rfl, hb12⟩
      go_wp2_with fail
      refine (lives_any w12).mono ?_
      rintro e w13 ⟨rfl, hb13⟩
      go_wp2_with fail
      go_ret
      exact ⟨rfl, Below.step (Below.step (Below.step (Below.step hB09 hb10) hb11) hb12) hb13⟩
end Go.Proofs.Ytpncjgcdiomloaa
