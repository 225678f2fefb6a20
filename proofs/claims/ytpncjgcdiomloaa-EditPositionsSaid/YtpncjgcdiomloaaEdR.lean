/-
  The walk of the law EditInvert.
-/
import Derived.Test.YtpncjgcdiomloaaEdQ
namespace Go.Proofs.Ytpncjgcdiomloaa
open Go Go.Proofs
open Go.RowKit
set_option linter.unusedVariables false
set_option linter.unusedSimpArgs false

theorem inv_texts {s : List UInt8} {es : List Ed} : ∀ {d : Int}, ∀ e ∈ invL s d es, e.x.length ≤ s.length := by
  induction es with
  | nil => intro d e he; simp [invL] at he
  | cons x es ih =>
    intro d e he
    simp only [invL, List.mem_cons] at he
    rcases he with rfl | he
    · unfold cutL; simp; omega
    · exact ih e he
/-- The inverse of valid edits of a text, in the words of the contracts. -/
theorem inv_facts {l : List UInt8} {es : List Ed} (h : Snd l.length 0 es) (h5 : es.length ≤ 5) :
    validL l.length es = 0 ∧ invX l es = invL l 0 es ∧ applyX l es = applyL l 0 es ∧ validL (applyL l 0 es).length (invL l 0 es) = 0 ∧ applyX (applyL l 0 es) (invL l 0 es) = l := by
  have hv := valid_of h (by omega)
  have hl := apply_len h
  have hs : Snd (applyL l 0 es).length 0 (invL l 0 es) := inv_sound h (by simp) (by omega)
  have hv2 := valid_of hs (by rw [inv_length]; omega)
  refine ⟨hv, invX_ok hv, applyX_ok hv, hv2, ?_⟩
  rw [applyX_ok hv2]
  have := inv_apply (pre := []) (q := 0) (d := 0) h (by simp) rfl
  simpa using this

set_option maxRecDepth 100000 in
set_option maxHeartbeats 4000000 in
theorem editInvert_walk (s : ByteArray) (a2 : Option Addr) (c2 : Nat) (xs : List Int) (a : Option Addr) (c : Nat) (es : List Ed) (w : World) (hs : s.size ≤ 9223372036854775807) (hn : SliceAt w a2 c2 (xs.map intV)) (hnb : ∀ n ∈ xs, -9223372036854775808 ≤ n ∧ n ≤ 9223372036854775807) (hx : EdsAt w a c es) (hw : ∀ e ∈ es, EdW e) :
    Calls Try.prog 4 #[.string s, .slice a2 xs.length c2, .slice a es.length c] w fun e w' => e = .returned (.bool true) ∧ Below w.heap.size w w' := by
  have K1 := Lib.hid (short_any s 60 w hs (by decide))
  have K2 := Lib.hid fun W (hW : Below w.heap.size w W) => fewEd_any a c es 6 W (hx.below hW) (by decide) fun e he => (hw e he).2.2.2.2
  have hfs := size_extract0 s 60
  have K3 := Lib.hid (raw_any (s.extract 0 60) a2 c2 xs w (by omega) hn hnb)
  generalize s.extract 0 60 = t at *
  clear hx hw hn hnb
  go_enter Try.func4, Try.ntmps4
  go_wp2_with fail
  refine K1.out.mono ?_
  rintro e w1 ⟨rfl, rfl⟩
  go_wp2_with fail
  refine K3.out.mono ?_
  rintro e w1 ⟨b1, d1, gs, rfl, hg, hat, hb1⟩
  obtain ⟨f1, f2, f3, f4, f5⟩ := inv_facts (l := t.data.toList) hg.1 hg.2.1
  have hul : (applyL t.data.toList 0 gs).length ≤ 1000 := by
    have := apply_le (s := t.data.toList) hg.1 hg.2.2
    rw [size_list] at this
    have := hg.2.1
    omega
  have hgx : ∀ e ∈ gs, e.x.length ≤ 1000000 := fun e he => by have := hg.2.2 e he; omega
  have hix : ∀ e ∈ invL t.data.toList 0 gs, e.x.length ≤ 1000000 := fun e he => by
    have := inv_texts e he
    rw [size_list] at this
    omega
  rw [size_list] at f1
  have hat1 := Lib.hid hat
  have k4 := fun W (hW : Below w1.heap.size w1 W) => Invert_any t b1 d1 gs W (by omega) (hat.below hW) hgx
  have k5 := fun W (hW : Below w1.heap.size w1 W) => rInvert_any t b1 d1 gs W (by omega) (hat.below hW) hgx
  have k6 := fun W (hW : Below w1.heap.size w1 W) => Apply_any t b1 d1 gs W (by omega) (hat.below hW) (by rw [f3]; omega)
  rw [f2, f1] at k4 k5
  rw [f3, f1] at k6
  have k7 := fun W a9 c9 (hI : EdsAt W a9 c9 (invL t.data.toList 0 gs)) => Apply_any (strB (applyL t.data.toList 0 gs)) a9 c9 (invL t.data.toList 0 gs) W (by rw [strB_size]; omega) hI (by rw [strB_list, f5, size_list]; omega)
  rw [strB_list, f5, strB_size, f4, strB_of] at k7
  have K4 := Lib.hid k4
  have K5 := Lib.hid k5
  have K6 := Lib.hid k6
  have K7 := Lib.hid k7
  generalize invL t.data.toList 0 gs = I at *
  generalize strB (applyL t.data.toList 0 gs) = u at *
  have HIX := Lib.hid hix
  clear k4 k5 k6 k7 f1 f2 f3 f4 f5 hul hgx hix hat hg K3 K1
  go_wp2_with fail
  refine (K4.out w1 (Below.refl _ _)).mono ?_
  rintro e w2 ⟨v2, rfl, ho2, hb2⟩
  obtain ⟨a9, c9, rfl, hI2⟩ := ho2.at
  have HI2 := Lib.hid hI2
  clear ho2 hI2
  go_wp2_with fail
  refine (K5.out w2 hb2).mono ?_
  rintro e w3 ⟨v3, rfl, ho3, hb3⟩
  obtain ⟨a11, c11, rfl, hI3⟩ := ho3.at
  have HI3 := Lib.hid hI3
  have hB13 := Below.step hb2 hb3
  clear ho3 hI3
  go_wp2_with fail
  refine (K6.out w3 hB13).mono ?_
  rintro e w4 ⟨rfl, hb4⟩
  have hB24 := Below.step hb3 hb4
  go_wp2_with fail
  refine (K7.out w4 a9 c9 (HI2.out.below hB24)).mono ?_
  rintro e w5 ⟨rfl, hb5⟩
  have hB25 := Below.step hB24 hb5
  have hB35 := Below.step hb4 hb5
  have hB05 := Below.step (Below.step (Below.step hb1 hb2) hb3) hB35
  have KS := Lib.hid (sameEd_any a9 a11 c9 c11 I w5 (HI2.out.below hB25) (HI3.out.below hB35))
  have hne : (t.toList != t.toList) = false := by simp
  clear K4 K5 K6 K7
  go_wp2_with fail
  refine KS.out.mono ?_
  rintro e w6 ⟨rfl, hb6⟩
  have hB06 := Below.step hB05 hb6
  clear KS
  go_wp2_with fail
  refine (K2.out w6 hB06).mono ?_
  rintro e w7 ⟨v7, rfl, ho7, hb7⟩
  obtain ⟨b7, d7, rfl, hat7⟩ := ho7.at
  have hB07 := Below.step hB06 hb7
  have hfx : ∀ e ∈ fewL es 6, e.x.length ≤ 1000000 := fun e he => by have := few_x e he; omega
  have k8 := fun W (hW : Below w7.heap.size w7 W) => Invert_any t b7 d7 (fewL es 6) W (by omega) (hat7.below hW) hfx
  have k9 := fun W (hW : Below w7.heap.size w7 W) => rInvert_any t b7 d7 (fewL es 6) W (by omega) (hat7.below hW) hfx
  have K8 := Lib.hid k8
  have K9 := Lib.hid k9
  clear ho7 hat7 hfx k8 k9 K2
  generalize fewL es 6 = fs at *
  generalize validL t.size fs = ev at *
  generalize invX t.data.toList fs = J at *
  have hee : (ev == ev) = true := by simp
  go_wp2_with fail
  refine (K8.out w7 (Below.refl _ _)).mono ?_
  rintro e w8 ⟨v8, rfl, ho8, hb8⟩
  obtain ⟨a8, c8, rfl, hI8⟩ := ho8.at
  have HI8 := Lib.hid hI8
  clear ho8 hI8
  go_wp2_with fail
  refine (K9.out w8 hb8).mono ?_
  rintro e w9 ⟨v9, rfl, ho9, hb9⟩
  obtain ⟨a99, c99, rfl, hI9⟩ := ho9.at
  have KS := Lib.hid (sameEd_any a8 a99 c8 c99 J w9 (HI8.out.below hb9) hI9)
  clear ho9 hI9
  go_wp2_with fail
  refine KS.out.mono ?_
  rintro e w10 ⟨rfl, hb10⟩
  go_wp2_with fail
  refine (lives_any w10).mono ?_
  rintro e w11 ⟨rfl, hb11⟩
  go_wp2_with fail
  go_ret
  exact ⟨rfl, Below.step (Below.step (Below.step (Below.step hB07 hb8) hb9) hb10) hb11⟩
end Go.Proofs.Ytpncjgcdiomloaa
