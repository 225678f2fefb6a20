/-
  The walk of ChannelEncoding.
-/
import Derived.Test.YtmonpnikdheokaaChnY
import Derived.Test.YtmonpnikdheokaaChanG
import Derived.Deep.RegionHeld3
namespace Go.Proofs.Ytmonpnikdheokaa
open Go Go.Proofs
open Go.RowKit
set_option linter.unusedVariables false
set_option linter.unusedSimpArgs false

theorem Blk.below {w w' : World} {b n : Nat} {cs : List Value} (h : Blk w (fun _ => 0) 0 b cs) (hb : Below n w w') (hn : b < n) : Blk w' (fun _ => 0) 0 b cs := by
  obtain ⟨t, h1, h2⟩ := h
  exact ⟨t, (hb.block b hn).trans h1, h2⟩
theorem Blk.same {w w' : World} {b : Nat} {cs : List Value} (h : Blk w (fun _ => 0) 0 b cs) (hb : Below w.heap.size w w') : Blk w' (fun _ => 0) 0 b cs := h.below hb h.lt
/-- One continuation for all the orders of a region: the first one names it. -/
theorem comb {A B : Prop} (f : (Nat → A) → B) (a : A) : B := f fun _ => a
/-- Slices of bytes. -/
structure Sl where
  a : Option Addr
  c : Nat
  bs : List UInt8
def slV (s : Sl) : Value := .slice s.a s.bs.length s.c
def Sls (w : World) (l : List Sl) : Prop := ∀ s ∈ l, SliceAt w s.a s.c (s.bs.map byteV) ∧ s.bs.length ≤ 1000000
theorem Sls.same {w w' : World} {l : List Sl} (h : Sls w l) (hb : Below w.heap.size w w') : Sls w' l := fun s hs => ⟨(h s hs).1.below hb, (h s hs).2⟩
theorem Sls.nil (w : World) : Sls w [] := fun s hs => by cases hs
theorem Sls.cons {w : World} {l : List Sl} (h : Sls w l) {a : Option Addr} {c : Nat} {bs : List UInt8} (hs : SliceAt w a c (bs.map byteV)) (hl : bs.length ≤ 1000000) : Sls w (⟨a, c, bs⟩ :: l) := by
  intro s hm
  rcases List.mem_cons.1 hm with rfl | hm
  · exact ⟨hs, hl⟩
  · exact h s hm
theorem codeP_len (p : Pkt) (h1 : -9223372036854775808 ≤ p.seq ∧ p.seq ≤ 9223372036854775807) (h2 : -9223372036854775808 ≤ p.ack ∧ p.ack ≤ 9223372036854775807) (hl : p.b.length ≤ 900000) : (codeP p).length ≤ 1000000 := by
  unfold codeP
  split
  · have a1 := coreP_len p h1 h2 (by omega)
    have a2 := wholeP_len (coreP p) (by omega)
    omega
  · simp
theorem encU_pos (n : Nat) : 1 ≤ (encU n).length := by
  by_cases h : n < 128
  · rw [encU_small h]; simp
  · rw [encU_big (by omega)]; simp
theorem wholeP_pos (C : List UInt8) : 1 ≤ (wholeP C).length := by
  have h1 := encU_pos (sumP C)
  unfold wholeP
  simp only [List.length_append]
  omega
theorem codeP_pos {p : Pkt} (h : pvalid p = true) : 1 ≤ (codeP p).length := by
  unfold codeP
  rw [if_pos h]
  exact wholeP_pos _

set_option maxRecDepth 100000 in
set_option maxHeartbeats 8000000 in
theorem channelEncoding_walk (q k : Int) (a : Option Addr) (c : Nat) (xs : List UInt8) (at_ d_ : Int) (ra : Option Addr) (rc : Nat) (rs : List UInt8) (w : World) (hq : -9223372036854775808 ≤ q ∧ q ≤ 9223372036854775807) (hk : -9223372036854775808 ≤ k ∧ k ≤ 9223372036854775807)
    (hx : SliceAt w a c (xs.map byteV)) (hat : -9223372036854775808 ≤ at_ ∧ at_ ≤ 9223372036854775807) (hd : 0 ≤ d_ ∧ d_ ≤ 255) (hr : SliceAt w ra rc (rs.map byteV)) :
    Calls Try.prog 9 #[.agg #[.int .i64 q, .int .i64 k, .slice a xs.length c], .int .i64 at_, .int .u8 d_, .slice ra rs.length rc] w fun e w' => e = .returned (.bool true) ∧ Below w.heap.size w w' := by
  obtain ⟨d, rfl⟩ : ∃ d : UInt8, d_ = (d.toNat : Int) := ⟨UInt8.ofNat d_.toNat, by rw [UInt8.toNat_ofNat']; omega⟩
  clear hd
  obtain ⟨w1, hw1⟩ : ∃ x, x = w.alloc (.cells #[.int .i64 q, .int .i64 k, .slice a xs.length c] 44) := ⟨_, rfl⟩
  obtain ⟨o1, ho1⟩ : ∃ x, newLab w (fun _ => 0) 5 = x := ⟨_, rfl⟩
  have hs1 : Step (fun _ => False) w (fun _ => 0) w1 o1 := by rw [hw1, ← ho1]; exact Step.blkNew _ _ _
  have hp1 : Blk w1 o1 5 w.heap.size [.int .i64 q, .int .i64 k, .slice a xs.length c] := by rw [hw1, ← ho1]; exact ⟨_, heap_alloc_new _ _, newLab_new _ _ _ (Nat.le_refl _)⟩
  have hb1 : Below w.heap.size w w1 := by rw [hw1]; exact (Below.refl _ w).alloc (Nat.le_refl _) _
  have hx1 := hx.below hb1
  obtain ⟨gp, hgp⟩ : ∃ g, w.heap.size = g := ⟨_, rfl⟩
  rw [hgp] at hp1
  have x2 := hp1.cell (j := 2) rfl
  rw [hw1] at x2
  have HP1 := Lib.hid hp1
  have HS1 := Lib.hid hs1
  have HB1 := Lib.hid hb1
  have HX1 := Lib.hid hx1
  have HW1 := Lib.hid hw1
  have HG := Lib.hid hgp
  have HR := Lib.hid hr
  clear hw1 ho1 hs1 hp1 hb1 hx1 hx hr
  go_enter Try.func9, Try.ntmps9
  go_wp2_with fail
  rw [← HW1.out]
  clear x2 HW1
  refine (few_any a c xs 40 w1 HX1.out (by decide)).mono ?_
  rintro e w2 ⟨v, rfl, hown, hb⟩
  obtain ⟨B, hB⟩ : ∃ B, xs.take 40 = B := ⟨_, rfl⟩
  have hBl : B.length ≤ 40 := by rw [← hB, List.length_take]; omega
  rw [hB] at hown
  obtain ⟨ba, bc, rfl, hsb⟩ := Dat.ofRow (o := o1) (l := 0) hown
  have hs2 : Step (fun _ => False) w1 o1 w2 (newLab w1 o1 0) := Step.below hb fun k hk => newLab_old _ _ _ hk
  obtain ⟨o2, ho2⟩ : ∃ o, newLab w1 o1 0 = o := ⟨_, rfl⟩
  rw [ho2] at hsb hs2
  have hp2 := HP1.out.step hs2 fun h => h
  have x2 := hp2.cell (j := 2) rfl
  have xf := hp2.frozen 2
  have hs' := hp2.setStep 2 (.slice ba B.length bc)
  have hp3 := hp2.set 2 (.slice ba B.length bc)
  obtain ⟨w3, hw3⟩ : ∃ x, x = w2.setCell ⟨gp, 2, none⟩ (.slice ba B.length bc) := ⟨_, rfl⟩
  rw [← hw3] at hs' hp3
  have HP3 : Hid (Blk w3 (fun _ => 0) 0 gp [.int .i64 q, .int .i64 k, .slice ba B.length bc]) := by
    obtain ⟨t, h1, _⟩ := hp3
    exact ⟨t, h1, rfl⟩
  have HSB3 := Lib.hid (hsb.step hs' (by omega)).slice
  have HB3 : Hid (Below w.heap.size w w3) := by
    unfold Hid
    rw [hw3]
    exact (Below.step HB1.out hb).setCell (p := ⟨gp, 2, none⟩) (by rw [HG.out]; exact Nat.le_refl _) _
  have HW3 := Lib.hid hw3
  have HR3 := Lib.hid (HR.out.below HB3.out)
  clear hw3 hs' hp3 hp2 hs2 ho2 hsb hown hb HP1 HS1 HB1 HX1 HG hB HR
  go_upto_region 2 with fail
  rw [← HW3.out]
  clear x2 xf HW3
  have HSL3 := Lib.hid (Sls.nil w3)
  have ke := fun W (h : SliceAt W ba bc (B.map byteV)) => chenc_any ⟨q, k, B⟩ ba bc W hq hk h (by simp only; omega)
  have kre := fun W (h : SliceAt W ba bc (B.map byteV)) => rchenc_any ⟨q, k, B⟩ ba bc W hq hk h (by simp only; omega)
  have hXl := codeP_len ⟨q, k, B⟩ hq hk (by simp only; omega)
  obtain ⟨X, hX⟩ : ∃ X, codeP ⟨q, k, B⟩ = X := ⟨_, rfl⟩
  obtain ⟨E, hE⟩ : ∃ X, errP (pvalid ⟨q, k, B⟩) = X := ⟨_, rfl⟩
  rw [hX] at hXl
  rw [hX, hE] at ke kre
  simp only at ke kre
  have KE := Lib.hid ke
  have KRE := Lib.hid kre
  clear ke kre hX hE
  have c0 := HP3.out.cell (j := 0) rfl
  have c1 := HP3.out.cell (j := 1) rfl
  have c2 := HP3.out.cell (j := 2) rfl
  go_wp2_with fail
  refine (KE.out w3 HSB3.out).mono ?_
  rintro e w4 ⟨v, rfl, hown, hb⟩
  obtain ⟨xa, xc, rfl, hs⟩ := own_slice hown
  have HP4 := Lib.hid (HP3.out.same hb)
  have HSB4 := Lib.hid (HSB3.out.below hb)
  have HR4 := Lib.hid (HR3.out.below hb)
  have HB4 := Lib.hid (Below.step HB3.out hb)
  have HSL4 := Lib.hid ((HSL3.out.same hb).cons hs (by omega))
  clear hb HP3 HSB3 HR3 HB3 HSL3 hown hs KE c0 c1 c2
  have c0 := HP4.out.cell (j := 0) rfl
  have c1 := HP4.out.cell (j := 1) rfl
  have c2 := HP4.out.cell (j := 2) rfl
  go_wp2_with fail
  refine (plainP_any q k ba B.length bc w4).mono ?_
  rintro e w5 ⟨rfl, hb⟩
  have HP5 := Lib.hid (HP4.out.same hb)
  have HSB5 := Lib.hid (HSB4.out.below hb)
  have HR5 := Lib.hid (HR4.out.below hb)
  have HB5 := Lib.hid (Below.step HB4.out hb)
  have HSL5 := Lib.hid (HSL4.out.same hb)
  clear hb HP4 HSB4 HR4 HB4 HSL4 c0 c1 c2
  go_wp2_with fail
  refine (KRE.out w5 HSB5.out).mono ?_
  rintro e w6 ⟨v, rfl, hown, hb⟩
  obtain ⟨ya, yc, rfl, hs⟩ := own_slice hown
  have HP6 := Lib.hid (HP5.out.same hb)
  have HSB6 := Lib.hid (HSB5.out.below hb)
  have HR6 := Lib.hid (HR5.out.below hb)
  have HB6 := Lib.hid (Below.step HB5.out hb)
  have HSL6 := Lib.hid ((HSL5.out.same hb).cons hs (by omega))
  clear hb HP5 HSB5 HR5 HB5 HSL5 hown hs KRE
  have ksx : ∀ W, SliceAt W xa xc (X.map byteV) → SliceAt W ya yc (X.map byteV) → Calls Try.prog 25 #[.slice xa X.length xc, .slice ya X.length yc] W fun e w' => e = .returned (.bool true) ∧ Below W.heap.size W w' := fun W h1 h2 => by have := sameBytes_any xa ya xc yc X X W h1 h2; rwa [decide_eq_true rfl] at this
  have KSX := Lib.hid ksx
  clear ksx
  go_wp2_with fail
  refine (KSX.out w6 (HSL6.out ⟨xa, xc, X⟩ (by simp)).1 (HSL6.out ⟨ya, yc, X⟩ (by simp)).1).mono ?_
  rintro e w7 ⟨rfl, hb⟩
  have HP7 := Lib.hid (HP6.out.same hb)
  have HSB7 := Lib.hid (HSB6.out.below hb)
  have HR7 := Lib.hid (HR6.out.below hb)
  have HB7 := Lib.hid (Below.step HB6.out hb)
  have HSL7 := Lib.hid (HSL6.out.same hb)
  clear hb HP6 HSB6 HR6 HB6 HSL6 KSX
  have s1 := aroundI_lo q 300 (by omega)
  have s2 := aroundI_hi q 300 (by omega)
  have t1 := aroundI_lo k 300 (by omega)
  have t2 := aroundI_hi k 300 (by omega)
  have k1 := fun W => around_any q 300 W (by decide) (by decide) hq.1 hq.2
  have k2 := fun W => around_any k 300 W (by decide) (by decide) hk.1 hk.2
  obtain ⟨S, hS⟩ : ∃ S, aroundI q 300 = S := ⟨_, rfl⟩
  obtain ⟨T, hT⟩ : ∃ S, aroundI k 300 = S := ⟨_, rfl⟩
  rw [hS] at s1 s2 k1
  rw [hT] at t1 t2 k2
  have K1 := Lib.hid k1
  have K2 := Lib.hid k2
  have hSw : IntKind.i64.wrap (1 + S) = 1 + S := by simp [IntKind.wrap, IntKind.bits, IntKind.signed]; omega
  clear hS hT k1 k2 hq hk
  have c0 := HP7.out.cell (j := 0) rfl
  have c1 := HP7.out.cell (j := 1) rfl
  have c2 := HP7.out.cell (j := 2) rfl
  go_upto_region 6 with fail
  refine comb (A := ?_) (fun hfin => ?_) ?_
  rotate_left 1
  · go_region_held3 (fun W => W.cell? ⟨gp, 0, none⟩ = some (.int .i64 q) ∧ W.cell? ⟨gp, 1, none⟩ = some (.int .i64 k) ∧ W.cell? ⟨gp, 2, none⟩ = some (.slice ba B.length bc)) (first | assumption | exact ⟨c0, c1, c2⟩ | (refine ⟨?_, ?_, ?_⟩ <;> first | assumption | go_keep))
      (first
       | (go_at_call 13; (with_reducible refine (K1.out _).mono ?_); rintro e w' ⟨rfl, rfl⟩)
       | (go_at_call 13; (with_reducible refine (K2.out _).mono ?_); rintro e w' ⟨rfl, rfl⟩))
    all_goals exact hfin 0
  clear c0 c1 c2 K1 K2 hSw
  obtain ⟨w8, hw8⟩ : ∃ x, x = (w7.alloc (.cells #[.int .i64 (1 + S), .int .i64 T, .slice ba B.length bc] 40)).drew := ⟨_, rfl⟩
  have hb : Below w7.heap.size w7 w8 := by rw [hw8]; exact Below.drew ((Below.refl _ w7).alloc (Nat.le_refl _) _)
  have hG8 : Blk w8 (fun _ => 0) 0 w7.heap.size [.int .i64 (1 + S), .int .i64 T, .slice ba B.length bc] := by rw [hw8]; exact ⟨_, heap_alloc_new _ _, rfl⟩
  obtain ⟨gg, hgg⟩ : ∃ g, w7.heap.size = g := ⟨_, rfl⟩
  rw [hgg] at hG8
  have HSB8 := Lib.hid (HSB7.out.below hb)
  have HR8 := Lib.hid (HR7.out.below hb)
  have HB8 := Lib.hid (Below.step HB7.out hb)
  have HSL8 := Lib.hid (HSL7.out.same hb)
  have HW8 := Lib.hid hw8
  have HGG := Lib.hid hgg
  have c0 := hG8.cell (j := 0) rfl
  have c1 := hG8.cell (j := 1) rfl
  have c2 := hG8.cell (j := 2) rfl
  have hv : pvalid ⟨1 + S, T, B⟩ = true := by unfold pvalid; simp; omega
  have kg := rchenc_any ⟨1 + S, T, B⟩ ba bc w8 (by simp only; omega) (by simp only; omega) HSB8.out (by simp only; omega)
  have hGl := codeP_len ⟨1 + S, T, B⟩ (by simp only; omega) (by simp only; omega) (by simp only; omega)
  have hGp := codeP_pos hv
  rw [hv, show errP true = 0 from rfl] at kg
  obtain ⟨G, hG⟩ : ∃ X, codeP ⟨1 + S, T, B⟩ = X := ⟨_, rfl⟩
  rw [hG] at kg hGl hGp
  simp only at kg
  have KG := Lib.hid kg
  rw [hw8] at c0 c1 c2
  clear hw8 hb hG8 hgg hv hG kg HP7 HSB7 HR7 HB7 HSL7 s1 s2 t1 t2
  go_wp2_with fail
  rw [← HW8.out, HGG.out]
  clear c0 c1 c2 HW8 HGG
  refine KG.out.mono ?_
  rintro e w9 ⟨v, rfl, hown, hb⟩
  obtain ⟨ga, gc, rfl, hs⟩ := own_slice hown
  have HR9 := Lib.hid (HR8.out.below hb)
  have HB9 := Lib.hid (Below.step HB8.out hb)
  have HSL9 := Lib.hid ((HSL8.out.same hb).cons hs hGl)
  clear hown hb hs HSB8 HR8 HB8 HSL8 KG
  have hGz : ((G.length : Int) == 0) = false := beq_eq_false_iff_ne.2 (by omega)
  have kf := few_any ga gc G G.length w9 (HSL9.out ⟨ga, gc, G⟩ (by simp)).1 (by omega)
  rw [List.take_length] at kf
  have KF := Lib.hid kf
  clear kf
  go_wp2_with fail
  refine KF.out.mono ?_
  rintro e w10 ⟨v, rfl, hO, hb⟩
  obtain ⟨g1, cap1, rfl, hg1⟩ := own_first hO hGp
  have hz1 := aroundI_lo at_ G.length (by omega)
  have hz2 := aroundI_hi at_ G.length (by omega)
  obtain ⟨k1, hk1⟩ : ∃ k : Nat, aroundI at_ G.length = (k : Int) := ⟨(aroundI at_ G.length).toNat, by omega⟩
  have hk1L : k1 < G.length := by omega
  have ka1 := around_any at_ G.length w10 (by omega) (by omega) hat.1 hat.2
  rw [hk1] at ka1
  have KA1 := Lib.hid ka1
  obtain ⟨w11, hw1⟩ : ∃ x, x = w10.setCell ⟨g1, k1, none⟩ (.int .u8 (d.toNat : Int)) := ⟨_, rfl⟩
  have f1 := own_byte hO hk1L
  have f2 := hO.frozenAt k1
  have hOs := own_put hO (k := k1) d
  rw [show byteV d = .int .u8 (d.toNat : Int) from rfl, ← hw1] at hOs
  have hbs := hb.setCell (p := ⟨g1, k1, none⟩) hg1 (.int .u8 (d.toNat : Int))
  rw [← hw1] at hbs
  have hs1 := own_at hOs
  obtain ⟨P1, hP1⟩ : ∃ x, G.set k1 d = x := ⟨_, rfl⟩
  rw [hP1] at hs1
  have hP1l : P1.length = G.length := by rw [← hP1, List.length_set]
  have HR11 := Lib.hid (HR9.out.below hbs)
  have HB11 := Lib.hid (Below.step HB9.out hbs)
  have HSL11 := Lib.hid ((HSL9.out.same hbs).cons hs1 (by omega))
  have HW1 := Lib.hid hw1
  clear hz1 hz2 hk1 ka1 hw1 hO hOs hb hbs hs1 hP1 hg1 KF HR9 HB9 HSL9 hGz
  go_wp2_with fail
  refine KA1.out.mono ?_
  rintro e w' ⟨rfl, rfl⟩
  go_wp2_with fail
  rw [← HW1.out]
  clear f1 f2 KA1 HW1
  obtain ⟨F, hF⟩ : ∃ F, rs.take 40 = F := ⟨_, rfl⟩
  have hFl : F.length ≤ 40 := by rw [← hF, List.length_take]; omega
  have kf := few_any ra rc rs 40 w11 HR11.out (by omega)
  rw [hF] at kf
  have KF := Lib.hid kf
  clear kf hF
  refine KF.out.mono ?_
  rintro e w12 ⟨v, rfl, hown, hb⟩
  obtain ⟨fa, fc, rfl, hs⟩ := own_slice hown
  have HB12 := Lib.hid (Below.step HB11.out hb)
  have HSL12 := Lib.hid ((HSL11.out.same hb).cons hs (by omega))
  clear hown hb hs HR11 HB11 HSL11 KF
  have kw := rwhole_any fa fc F w12 (HSL12.out ⟨fa, fc, F⟩ (by simp)).1 (by omega)
  have hWl := wholeP_len F (by omega)
  obtain ⟨WF, hWF⟩ : ∃ X, wholeP F = X := ⟨_, rfl⟩
  rw [hWF] at kw hWl
  have KW := Lib.hid kw
  clear kw hWF
  go_wp2_with fail
  refine KW.out.mono ?_
  rintro e w13 ⟨v, rfl, hown, hb⟩
  obtain ⟨va, vc, rfl, hs⟩ := own_slice hown
  have HB13 := Lib.hid (Below.step HB12.out hb)
  have HSL13 := Lib.hid ((HSL12.out.same hb).cons hs (by omega))
  clear hown hb hs HB12 HSL12 KW
  obtain ⟨w14, hw1⟩ : ∃ x, x = w13.alloc (.cells #[.slice ga G.length gc, .slice xa X.length xc, .slice (some ⟨g1, 0, none⟩) G.length cap1, .slice fa F.length fc, .slice va WF.length vc] 31) := ⟨_, rfl⟩
  have hb : Below w13.heap.size w13 w14 := by rw [hw1]; exact (Below.refl _ _).alloc (Nat.le_refl _) _
  obtain ⟨LL, hLL⟩ : ∃ l : List Sl, [⟨ga, gc, G⟩, ⟨xa, xc, X⟩, ⟨some ⟨g1, 0, none⟩, cap1, P1⟩, ⟨fa, fc, F⟩, ⟨va, vc, WF⟩] = l := ⟨_, rfl⟩
  have hL7 : LL.length = 5 := by rw [← hLL]; rfl
  have hbl : Blk w14 (fun _ => 0) 0 w13.heap.size (LL.map slV) := by
    rw [← hLL, hw1]
    simp only [List.map_cons, List.map_nil, slV, hP1l]
    exact ⟨_, heap_alloc_new _ _, rfl⟩
  have hsl : Sls w13 LL := by
    rw [← hLL]
    intro s hs
    refine HSL13.out s ?_
    simp only [List.mem_cons, List.not_mem_nil, or_false] at hs ⊢
    rcases hs with rfl | rfl | rfl | rfl | rfl <;> simp
  have HSL14 := Lib.hid (hsl.same hb)
  have HBW14 := Lib.hid (Below.step HB13.out hb)
  obtain ⟨gl, hgl⟩ : ∃ g, w13.heap.size = g := ⟨_, rfl⟩
  rw [hgl] at hbl
  have HBL := Lib.hid hbl
  have HW := Lib.hid hw1
  have HGL := Lib.hid hgl
  clear hb hLL hbl hsl hgl hw1 HB13 HSL13
  go_wp2_with fail
  rw [← HW.out, HGL.out]
  clear HW HGL hP1l hXl hGl hGp hk1L hFl hWl hBl
  go_loopw [19] (fun iv wr => ∃ k : Nat, k ≤ 5 ∧ iv = .int .i64 k ∧ Hid (Below w.heap.size w wr) ∧ Hid (Blk wr (fun _ => 0) 0 gl (LL.map slV)) ∧ Hid (Sls wr LL)) (fun iv _ => 5 - (intOf iv).toNat)
  case atStart => exact ⟨0, by omega, rfl, HBW14.out, HBL.out, HSL14.out⟩
  case round =>
    clear HBW14 HBL HSL14
    obtain ⟨k, hk, rfl, HB, HL, HS⟩ := hrel
    by_cases hk5 : k < 5
    · obtain ⟨s, hs⟩ : ∃ s, LL[k]? = some s := ⟨LL[k], List.getElem?_eq_getElem (by omega)⟩
      obtain ⟨hsl, hll⟩ := HS.out s (List.mem_of_getElem? hs)
      have hsc : (LL.map slV)[k]? = some (slV s) := by rw [List.getElem?_map, hs]; rfl
      clear hs
      obtain ⟨sa, sc, sb⟩ := s
      simp only at hsl hll
      have hsc' : (LL.map slV)[k]? = some (.slice sa sb.length sc) := hsc
      have HSC := Lib.hid hsc'
      have kd1 := fun W h => chdec_any sa sc sb W h hll
      have kd2 := fun W h => rchdec_any sa sc sb W h hll
      obtain ⟨D, hD⟩ : ∃ D, decP sb = D := ⟨_, rfl⟩
      obtain ⟨f1, hf1⟩ : ∃ e, decErr sb = e := ⟨_, rfl⟩
      rw [hD, hf1] at kd1 kd2
      obtain ⟨dq, dk, db⟩ := D
      simp only at kd1 kd2
      have KD1 := Lib.hid kd1
      have KD2 := Lib.hid kd2
      have HSE := Lib.hid hsl
      have hkI : (k : Int) < 5 := by omega
      have hk0 : (0 : Int) ≤ (k : Int) := by omega
      have c := HL.out.cell (j := k) HSC.out
      clear hsc hsc' hD hf1 kd1 kd2 hsl
      go_wp2_with fail
      refine (KD1.out wr HSE.out).mono ?_
      rintro e u1 ⟨pa, pc, rfl, hsa, hb⟩
      obtain ⟨u2, hu⟩ : ∃ x, x = u1.alloc (.cells #[.int .i64 dq, .int .i64 dk, .slice pa db.length pc] 44) := ⟨_, rfl⟩
      have hb2 : Below wr.heap.size wr u2 := by rw [hu]; exact hb.alloc hb.size _
      have hm1 : Blk u2 (fun _ => 0) 0 u1.heap.size [.int .i64 dq, .int .i64 dk, .slice pa db.length pc] := by rw [hu]; exact ⟨_, heap_alloc_new _ _, rfl⟩
      have hsa2 : SliceAt u2 pa pc (db.map byteV) := by rw [hu]; exact hsa.below ((Below.refl _ u1).alloc (Nat.le_refl _) _)
      obtain ⟨m1, hme⟩ : ∃ g, u1.heap.size = g := ⟨_, rfl⟩
      rw [hme] at hm1
      have HM11 := Lib.hid hm1
      have HSA1 := Lib.hid hsa2
      have HBB := Lib.hid hb2
      clear c
      have c := (HL.out.same HBB.out).cell (j := k) HSC.out
      rw [hu] at c
      have HU := Lib.hid hu
      have HM := Lib.hid hme
      clear hb hb2 hu hme hm1 hsa hsa2 KD1
      go_wp2_with fail
      rw [← HU.out, HM.out]
      refine (KD2.out u2 (HSE.out.below HBB.out)).mono ?_
      rintro e u3 ⟨pa2, pc2, rfl, hsa, hb⟩
      obtain ⟨u4, hu⟩ : ∃ x, x = u3.alloc (.cells #[.int .i64 dq, .int .i64 dk, .slice pa2 db.length pc2] 40) := ⟨_, rfl⟩
      have hb2 : Below u2.heap.size u2 u4 := by rw [hu]; exact hb.alloc hb.size _
      have hm2 : Blk u4 (fun _ => 0) 0 u3.heap.size [.int .i64 dq, .int .i64 dk, .slice pa2 db.length pc2] := by rw [hu]; exact ⟨_, heap_alloc_new _ _, rfl⟩
      have hsa2 : SliceAt u4 pa2 pc2 (db.map byteV) := by rw [hu]; exact hsa.below ((Below.refl _ u3).alloc (Nat.le_refl _) _)
      obtain ⟨m2, hme2⟩ : ∃ g, u3.heap.size = g := ⟨_, rfl⟩
      rw [hme2] at hm2
      have HM12 := Lib.hid (HM11.out.same hb2)
      have HM22 := Lib.hid hm2
      have HSA12 := Lib.hid (HSA1.out.below hb2)
      have HSA2 := Lib.hid hsa2
      have HBB2 := Lib.hid (Below.step HBB.out hb2)
      have HU2 := Lib.hid hu
      have HMM2 := Lib.hid hme2
      clear hb hb2 hu hme2 hm2 hsa hsa2 KD2 c HBB HSA1 HM11 HU HM
      have HSA : Hid (∀ W, Below u4.heap.size u4 W → Below u4.heap.size u4 W ∧ W.cell? ⟨m1, 0, none⟩ = some (.int .i64 dq) ∧ W.cell? ⟨m1, 1, none⟩ = some (.int .i64 dk) ∧ W.cell? ⟨m1, 2, none⟩ = some (.slice pa db.length pc) ∧ W.cell? ⟨m2, 0, none⟩ = some (.int .i64 dq) ∧ W.cell? ⟨m2, 1, none⟩ = some (.int .i64 dk) ∧ W.cell? ⟨m2, 2, none⟩ = some (.slice pa2 db.length pc2)) := by
        intro W hb
        have j1 := HM12.out.same hb
        have j2 := HM22.out.same hb
        exact ⟨hb, j1.cell (j := 0) rfl, j1.cell (j := 1) rfl, j1.cell (j := 2) rfl, j2.cell (j := 0) rfl, j2.cell (j := 1) rfl, j2.cell (j := 2) rfl⟩
      have ksm := fun W h1 h2 => sameP_any dq dk dq dk db db pa pa2 pc pc2 W h1 h2
      rw [decide_eq_true rfl, decide_eq_true rfl, decide_eq_true rfl] at ksm
      have KSM := Lib.hid ksm
      clear ksm HM12 HM22
      go_wp2_with fail
      rw [← HU2.out, HMM2.out]
      clear HU2 HMM2
      refine wp_region_held_drew (S := fun W => Below u4.heap.size u4 W ∧ W.cell? ⟨m1, 0, none⟩ = some (.int .i64 dq) ∧ W.cell? ⟨m1, 1, none⟩ = some (.int .i64 dk) ∧ W.cell? ⟨m1, 2, none⟩ = some (.slice pa db.length pc) ∧ W.cell? ⟨m2, 0, none⟩ = some (.int .i64 dq) ∧ W.cell? ⟨m2, 1, none⟩ = some (.int .i64 dk) ∧ W.cell? ⟨m2, 2, none⟩ = some (.slice pa2 db.length pc2)) (by kernel_rfl) (HSA.out _ (Below.drew (Below.refl _ u4))) (fun h0 => ?_)
      (first | ((refine wpAnyH_take (i := 0) (oi := ⟨_, _, _, _, _, _⟩) (v := ?_) rfl (by kernel_rfl) (by kernel_rfl) (by kernel_rfl) (fun _ _ _ h => h) (Or.inl ⟨by rfl, ?_⟩) (by assumption) ?_); rotate_left; focus ((intro w hSw); (try dsimp only at hSw); go_simp; all_goals (with_reducible rfl))) | (refine wpAnyH_take (i := 0) (oi := ⟨_, _, _, _, _, _⟩) (v := undef) rfl (by kernel_rfl) (by kernel_rfl) (by kernel_rfl) (fun _ _ _ h => h) (Or.inr ⟨by rfl, rfl⟩) (by assumption) ?_))
      try simp only [Act.put, List.setIfInBounds_toArray, List.set_cons_zero, List.set_cons_succ]
      (first | ((refine wpAnyH_take (i := 1) (oi := ⟨_, _, _, _, _, _⟩) (v := ?_) rfl (by kernel_rfl) (by kernel_rfl) (by kernel_rfl) (fun _ _ _ h => h) (Or.inl ⟨by rfl, ?_⟩) (by assumption) ?_); rotate_left; focus ((intro w hSw); (try dsimp only at hSw); go_simp; all_goals (with_reducible rfl))) | (refine wpAnyH_take (i := 1) (oi := ⟨_, _, _, _, _, _⟩) (v := undef) rfl (by kernel_rfl) (by kernel_rfl) (by kernel_rfl) (fun _ _ _ h => h) (Or.inr ⟨by rfl, rfl⟩) (by assumption) ?_))
      try simp only [Act.put, List.setIfInBounds_toArray, List.set_cons_zero, List.set_cons_succ]
      (first | ((refine wpAnyH_take (i := 2) (oi := ⟨_, _, _, _, _, _⟩) (v := ?_) rfl (by kernel_rfl) (by kernel_rfl) (by kernel_rfl) (fun _ _ _ h => h) (Or.inl ⟨by rfl, ?_⟩) (by assumption) ?_); rotate_left; focus ((intro w hSw); (try dsimp only at hSw); go_simp; all_goals (with_reducible rfl))) | (refine wpAnyH_take (i := 2) (oi := ⟨_, _, _, _, _, _⟩) (v := undef) rfl (by kernel_rfl) (by kernel_rfl) (by kernel_rfl) (fun _ _ _ h => h) (Or.inr ⟨by rfl, rfl⟩) (by assumption) ?_))
      try simp only [Act.put, List.setIfInBounds_toArray, List.set_cons_zero, List.set_cons_succ]
      (first | ((refine wpAnyH_take (i := 3) (oi := ⟨_, _, _, _, _, _⟩) (v := ?_) rfl (by kernel_rfl) (by kernel_rfl) (by kernel_rfl) (fun _ _ _ h => h) (Or.inl ⟨by rfl, ?_⟩) (by assumption) ?_); rotate_left; focus ((intro w hSw); (try dsimp only at hSw); go_simp; all_goals (with_reducible rfl))) | (refine wpAnyH_take (i := 3) (oi := ⟨_, _, _, _, _, _⟩) (v := undef) rfl (by kernel_rfl) (by kernel_rfl) (by kernel_rfl) (fun _ _ _ h => h) (Or.inr ⟨by rfl, rfl⟩) (by assumption) ?_))
      try simp only [Act.put, List.setIfInBounds_toArray, List.set_cons_zero, List.set_cons_succ]
      (first | ((refine wpAnyH_take (i := 4) (oi := ⟨_, _, _, _, _, _⟩) (v := ?_) rfl (by kernel_rfl) (by kernel_rfl) (by kernel_rfl) (fun _ _ _ h => h) (Or.inl ⟨by rfl, ?_⟩) (by assumption) ?_); rotate_left; focus ((intro w hSw); (try dsimp only at hSw); go_simp; all_goals (with_reducible rfl))) | (refine wpAnyH_take (i := 4) (oi := ⟨_, _, _, _, _, _⟩) (v := undef) rfl (by kernel_rfl) (by kernel_rfl) (by kernel_rfl) (fun _ _ _ h => h) (Or.inr ⟨by rfl, rfl⟩) (by assumption) ?_))
      try simp only [Act.put, List.setIfInBounds_toArray, List.set_cons_zero, List.set_cons_succ]
      (first | ((refine wpAnyH_take (i := 6) (oi := ⟨_, _, _, _, _, _⟩) (v := ?_) rfl (by kernel_rfl) (by kernel_rfl) (by kernel_rfl) (fun _ _ _ h => h) (Or.inl ⟨by rfl, ?_⟩) (by assumption) ?_); rotate_left; focus ((intro w hSw); (try dsimp only at hSw); go_simp; all_goals (with_reducible rfl))) | (refine wpAnyH_take (i := 6) (oi := ⟨_, _, _, _, _, _⟩) (v := undef) rfl (by kernel_rfl) (by kernel_rfl) (by kernel_rfl) (fun _ _ _ h => h) (Or.inr ⟨by rfl, rfl⟩) (by assumption) ?_))
      try simp only [Act.put, List.setIfInBounds_toArray, List.set_cons_zero, List.set_cons_succ]
      refine wpAnyH_ready (rs := [5]) (by kernel_rfl) (by simp) ?_
      refine AllReadyH.cons (o := ⟨_, _, _, _, _, _⟩) rfl (fun K hK => ?_) ?_
      · go_simp
        (with_reducible refine (plainP_any dq dk pa db.length pc _).mono ?_)
        rintro e W1 ⟨rfl, hbb⟩
        go_wp2_with fail
        refine hK.out _ _ (HSA.out _ (Below.step h0.1 hbb)) (fun h1 => ?_)
        clear hK K
        try simp only [Act.put, List.setIfInBounds_toArray, List.set_cons_zero, List.set_cons_succ]
        refine wpAnyH_ready (rs := [7]) (by kernel_rfl) (by simp) ?_
        refine AllReadyH.cons (o := ⟨_, _, _, _, _, _⟩) rfl (fun K hK => ?_) ?_
        · go_simp
          (with_reducible refine (KSM.out _ (HSA12.out.below h1.1) (HSA2.out.below h1.1)).mono ?_)
          rintro e W2 ⟨rfl, hbc⟩
          go_wp2_with fail
          refine hK.out _ _ (HSA.out _ (Below.step h1.1 hbc)) (fun h2 => ?_)
          clear hK K
          try simp only [Act.put, List.setIfInBounds_toArray, List.set_cons_zero, List.set_cons_succ]
          (first | ((refine wpAnyH_take (i := 8) (oi := ⟨_, _, _, _, _, _⟩) (v := ?_) rfl (by kernel_rfl) (by kernel_rfl) (by kernel_rfl) (fun _ _ _ h => h) (Or.inl ⟨by rfl, ?_⟩) (by assumption) ?_); rotate_left; focus ((intro w hSw); (try dsimp only at hSw); go_simp; all_goals (with_reducible rfl))) | (refine wpAnyH_take (i := 8) (oi := ⟨_, _, _, _, _, _⟩) (v := undef) rfl (by kernel_rfl) (by kernel_rfl) (by kernel_rfl) (fun _ _ _ h => h) (Or.inr ⟨by rfl, rfl⟩) (by assumption) ?_))
          try simp only [Act.put, List.setIfInBounds_toArray, List.set_cons_zero, List.set_cons_succ]
          (first | ((refine wpAnyH_take (i := 9) (oi := ⟨_, _, _, _, _, _⟩) (v := ?_) rfl (by kernel_rfl) (by kernel_rfl) (by kernel_rfl) (fun _ _ _ h => h) (Or.inl ⟨by rfl, ?_⟩) (by assumption) ?_); rotate_left; focus ((intro w hSw); (try dsimp only at hSw); go_simp; all_goals (with_reducible rfl))) | (refine wpAnyH_take (i := 9) (oi := ⟨_, _, _, _, _, _⟩) (v := undef) rfl (by kernel_rfl) (by kernel_rfl) (by kernel_rfl) (fun _ _ _ h => h) (Or.inr ⟨by rfl, rfl⟩) (by assumption) ?_))
          try simp only [Act.put, List.setIfInBounds_toArray, List.set_cons_zero, List.set_cons_succ]
          refine wpAnyH_done (by kernel_rfl) ?_ _
          have hend := Below.step HBB2.out h2.1
          have HN1 := Lib.hid (Below.step HB.out hend)
          have HN2 := Lib.hid (HL.out.same hend)
          have HN3 := Lib.hid (HS.out.same hend)
          clear h0 h1 h2 hbb hbc hend
          go_wp2_with fail
          go_roundw
          case rel => exact ⟨k + 1, by omega, by go_num, HN1.out, HN2.out, HN3.out⟩
          case measure => simp [intOf]; omega
        exact AllReadyH.nil
      exact AllReadyH.nil
    · have hk5' : k = 5 := by omega
      subst hk5'
      clear HL HS
      go_wp2_with fail
      refine (lives_any wr).mono ?_
      rintro e w7 ⟨rfl, hb7⟩
      go_wp2_with fail
      go_ret
      exact ⟨rfl, Below.step HB.out hb7⟩
end Go.Proofs.Ytmonpnikdheokaa
