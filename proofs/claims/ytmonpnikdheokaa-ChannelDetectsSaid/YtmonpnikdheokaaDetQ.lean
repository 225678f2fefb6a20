/-
  The walk of ChannelDetects.
-/
import Derived.Test.YtmonpnikdheokaaChnW
import Derived.Test.YtmonpnikdheokaaChanG
import Derived.Test.YtmonpnikdheokaaDetP
import Derived.Test.YtmonpnikdheokaaOwnB
namespace Go.Proofs.Ytmonpnikdheokaa
open Go Go.Proofs
open Go.RowKit
set_option linter.unusedVariables false
set_option linter.unusedSimpArgs false

theorem dec_detects (core : List UInt8) (hl : core.length ≤ 1000000) (k : Nat) (hk0 : (encU core.length).length ≤ k) (hk1 : k < (wholeP core).length) (c : UInt8) (hc : (wholeP core)[k]? ≠ some c) :
    decErr ((wholeP core).set k c) = 2 ∨ decErr ((wholeP core).set k c) = 20 := by
  have e : wholeP core = encR core ++ encU (sumP core) := by unfold wholeP; rw [List.nil_append]
  rw [e] at hk1 hc ⊢
  obtain ⟨core', R1, R2, s, h1, h2, _, h4⟩ := detects labP core (sumP core) (sumP_eq core).symm (sumP_lt core) hl k hk0 hk1 c hc
  unfold decErr dR2 dsum dcore dR1
  rw [h1]
  simp only
  rw [h2]
  simp only
  by_cases he : endR R2 = 0
  · rw [if_neg (by omega), if_pos (fun h => h4 he (by rw [sumP_eq, h]))]
    exact .inr rfl
  · rw [if_pos he]
    exact .inl rfl

theorem encU_pos (n : Nat) : 1 ≤ (encU n).length := by
  by_cases h : n < 128
  · rw [encU_small h]; simp
  · rw [encU_big (by omega)]; simp
theorem whole_ahead (C : List UInt8) : (encU C.length).length < (wholeP C).length := by
  have h1 := encU_pos (sumP C)
  unfold wholeP encR
  simp only [List.length_append, List.nil_append]
  omega
theorem uintR_enc' (C : List UInt8) : uintR ⟨encU (sumP C), 0⟩ = (sumP C, ⟨[], 0⟩) := by
  have h := uintR_enc (sumP_lt C) []
  rwa [List.append_nil] at h
theorem byte_change (z : Int) (h : 0 ≤ z ∧ z ≤ 255) : ∃ d : UInt8, d ≠ 0 ∧ (1 : Int) + z % 255 = (d.toNat : Int) := by
  refine ⟨UInt8.ofNat (1 + z % 255).toNat, ?_, ?_⟩
  · intro e
    have := congrArg UInt8.toNat e
    rw [UInt8.toNat_ofNat'] at this
    simp at this
    omega
  · rw [UInt8.toNat_ofNat']
    omega

set_option maxRecDepth 100000 in
set_option maxHeartbeats 8000000 in
theorem channelDetects_walk (seq ack : Int) (a : Option Addr) (c : Nat) (xs : List UInt8) (at_ by_ : Int) (w : World) (h0 : -9223372036854775808 ≤ seq ∧ seq ≤ 9223372036854775807) (h1 : -9223372036854775808 ≤ ack ∧ ack ≤ 9223372036854775807)
    (hx : SliceAt w a c (xs.map byteV)) (hat : -9223372036854775808 ≤ at_ ∧ at_ ≤ 9223372036854775807) (hby : 0 ≤ by_ ∧ by_ ≤ 255) :
    Calls Try.prog 10 #[.int .i64 seq, .int .i64 ack, .slice a xs.length c, .int .i64 at_, .int .u8 by_] w fun e w' => e = .returned (.bool true) ∧ Below w.heap.size w w' := by
  have s1 := aroundI_lo seq 100000 (by omega)
  have s2 := aroundI_hi seq 100000 (by omega)
  have k1 := aroundI_lo ack 100000 (by omega)
  have k2 := aroundI_hi ack 100000 (by omega)
  have ks := around_any seq 100000 w (by decide) (by decide) h0.1 h0.2
  have ka := around_any ack 100000 w (by decide) (by decide) h1.1 h1.2
  obtain ⟨S, hS⟩ : ∃ S, aroundI seq 100000 = S := ⟨_, rfl⟩
  obtain ⟨A, hA⟩ : ∃ S, aroundI ack 100000 = S := ⟨_, rfl⟩
  rw [hS] at s1 s2 ks
  rw [hA] at k1 k2 ka
  have KS := Lib.hid ks
  have KA := Lib.hid ka
  have HX := Lib.hid hx
  clear ks ka hS hA hx h0 h1
  go_enter Try.func10, Try.ntmps10
  go_wp2_with (first | (go_at_call 13; (with_reducible refine KS.out.mono ?_); rintro e w' ⟨rfl, rfl⟩) | (go_at_call 13; (with_reducible refine KA.out.mono ?_); rintro e w' ⟨rfl, rfl⟩) | fail)
  clear KS KA
  refine (few_any a c xs 200 w HX.out (by decide)).mono ?_
  rintro e w1 ⟨v, rfl, hown, hb1⟩
  obtain ⟨B, hB⟩ : ∃ B, xs.take 200 = B := ⟨_, rfl⟩
  have hBl : B.length ≤ 200 := by rw [← hB, List.length_take]; omega
  rw [hB] at hown
  obtain ⟨ba, bc, rfl, hs1⟩ := own_slice hown
  have HB1 := Lib.hid hb1
  obtain ⟨w2, hw2⟩ : ∃ x, x = w1.alloc (.cells #[.int .i64 (1 + S), .int .i64 A, .slice ba B.length bc] 44) := ⟨_, rfl⟩
  have hb2 : Below w1.heap.size w1 w2 := by rw [hw2]; exact (Below.refl _ w1).alloc (Nat.le_refl _) _
  have hx2 : Blk w2 (fun _ => 0) 0 w1.heap.size [.int .i64 (1 + S), .int .i64 A, .slice ba B.length bc] := by rw [hw2]; exact ⟨_, heap_alloc_new _ _, rfl⟩
  obtain ⟨gp, hgp⟩ : ∃ g, w1.heap.size = g := ⟨_, rfl⟩
  rw [hgp] at hx2
  have x0 := hx2.cell (j := 0) rfl
  have x1 := hx2.cell (j := 1) rfl
  have x2 := hx2.cell (j := 2) rfl
  have hv : pvalid ⟨1 + S, A, B⟩ = true := by unfold pvalid; simp; omega
  have ke := chenc_any ⟨1 + S, A, B⟩ ba bc w2 (by simp only; omega) (by simp only; omega) (hs1.below hb2) (by simp only; omega)
  have hlc := coreP_len ⟨1 + S, A, B⟩ (by simp only; omega) (by simp only; omega) (by simp only; omega)
  rw [hv] at ke
  unfold codeP at ke
  rw [if_pos hv] at ke
  simp only at hlc
  obtain ⟨C, hC⟩ : ∃ C, coreP ⟨1 + S, A, B⟩ = C := ⟨_, rfl⟩
  rw [hC] at ke hlc
  simp only at ke
  rw [show errP true = 0 from rfl] at ke
  have hwl := wholeP_len C (by omega)
  have hdet := dec_detects C (by omega)
  have hw1 : wholeP C = encR C ++ encU (sumP C) := by unfold wholeP; rw [List.nil_append]
  have hr1 := rawR_enc (bs := C) (by omega) (encU (sumP C))
  have hr2 := uintR_enc' C
  rw [← hw1] at hr1
  have hah := whole_ahead C
  obtain ⟨h, hh⟩ : ∃ h, sumP C = h := ⟨_, rfl⟩
  have hh64 : h < 18446744073709551616 := by rw [← hh]; exact sumP_lt C
  have ky := fun (qa : Option Addr) (qc n : Nat) W hx hn hl => bytesP qa qc n C W hx hn hl
  rw [hh] at hr1 hr2 ky
  obtain ⟨X, hX⟩ : ∃ X, wholeP C = X := ⟨_, rfl⟩
  rw [hX] at ke hwl hdet hr1 hah
  have KE := Lib.hid ke
  have HR1 := Lib.hid hr1
  have HR2 := Lib.hid hr2
  have HDET := Lib.hid hdet
  have HW2 := Lib.hid hw2
  have HGP := Lib.hid hgp
  have HB2 := Lib.hid (Below.step HB1.out hb2)
  have KY := Lib.hid ky
  obtain ⟨ah, hahe⟩ : ∃ n, (encU C.length).length = n := ⟨_, rfl⟩
  have HAH := Lib.hid hahe
  rw [hahe] at hah
  have kk : ah ≤ 10 := by rw [← hahe]; exact encU_len10 (by omega)
  clear hahe ke hr1 hr2 hdet hw2 hgp hb1 hb2 hx2 hown hs1 hv hw1 hC hh hX ky HB1 hB HX
  go_wp2_with fail
  rw [← HW2.out, HGP.out]
  clear HW2 HGP
  refine KE.out.mono ?_
  rintro e w3 ⟨v, rfl, hown, hb⟩
  obtain ⟨gx, cx, rfl, hgx⟩ := own_first hown (by omega)
  have HO3 := Lib.hid hown
  have HB3 := Lib.hid (Below.step HB2.out hb)
  have hgw0 : w.heap.size ≤ gx := Nat.le_trans HB2.out.size hgx
  have hsl := own_at hown
  clear hb hown x0 x1 x2 KE HB2
  obtain ⟨n, hn⟩ : ∃ n, X.length = n := ⟨_, rfl⟩
  have kr := read_any 1 (some ⟨gx, 0, none⟩) cx X w3 (fun _ => 0) (by omega) hsl (by omega)
  rw [hn] at kr hwl hah ⊢
  have HN := Lib.hid hn
  have KR := Lib.hid kr
  clear kr hsl hn
  go_wp2_with fail
  refine KR.out.mono ?_
  rintro e w4 ⟨b, rfl, o4, hs, hR⟩
  have HR4 := Lib.hid hR
  have HS4 := Lib.hid (hs.mono (L' := fun x => x ≠ 0) fun l hl e => by unfold Own at hl; omega)
  clear hs hR KR
  go_wp2_with fail
  refine (rraw_any 1 b 90 ⟨X, 0⟩ w4 o4 (by omega) HR4.out (by simp only; rw [HN.out]; omega) (by unfold Own; omega) (by omega)).mono ?_
  rw [HR1.out]
  simp only
  rintro e w5 ⟨v, rfl, o5, hs, hR, hrow⟩
  obtain ⟨m, hm⟩ : ∃ m, C.length = m := ⟨_, rfl⟩
  rw [hm] at hrow
  obtain ⟨ca, cc, rfl⟩ := hrow.form
  have HK5 := Lib.hid hrow
  have HR5 := Lib.hid hR
  have HS5 := Lib.hid (HS4.out.trans (hs.mono fun l hl e => by unfold rdL Own at hl; omega))
  have HM := Lib.hid hm
  have hm2 : m ≤ 1000 := by omega
  clear hs hR hrow HR4 HS4 HR1 hm
  go_wp2_with fail
  refine (ruint_any 1 b ⟨encU h, 0⟩ w5 o5 (by omega) HR5.out).mono ?_
  rw [HR2.out]
  simp only
  rintro e w6 ⟨rfl, hs, hR⟩
  have HK6 := Lib.hid (RowL.step HK5.out hs (by unfold Own; omega))
  have HR6 := Lib.hid hR
  have HS6 := Lib.hid (HS5.out.trans (hs.mono fun l hl e => by unfold Own at hl; omega))
  clear hs hR HK5 HR5 HS5 HR2
  obtain ⟨w7, hw7⟩ : ∃ x, x = w6.alloc (.cells #[.slice none 0 0] 72) := ⟨_, rfl⟩
  obtain ⟨o7, ho7⟩ : ∃ o, newLab w6 o5 (10 * 2) = o := ⟨_, rfl⟩
  have hs7 : Step (fun _ => False) w6 o5 w7 o7 := by rw [hw7, ← ho7]; exact Step.blkNew _ _ _
  have hW7 : WrAt w7 o7 2 w6.heap.size [] := ⟨.slice none 0 0, by rw [hw7, ← ho7]; exact ⟨_, heap_alloc_new _ _, newLab_new _ _ _ (Nat.le_refl _)⟩, RowL.nil _ _ _ _ _⟩
  obtain ⟨gw, hgw⟩ : ∃ g, w6.heap.size = g := ⟨_, rfl⟩
  rw [hgw] at hW7
  have HK7 := Lib.hid (RowL.step HK6.out hs7 (fun h => h))
  have HR7 := Lib.hid (HR6.out.step hs7 (fun h => h) fun _ _ h => h)
  have HS7 := Lib.hid (HS6.out.trans (hs7.mono fun _ h => h.elim))
  have HW7 := Lib.hid hW7
  have HE7 := Lib.hid hw7
  have HG7 := Lib.hid hgw
  have hmw : IntKind.u64.wrap (m : Int) = (m : Int) := by rw [wrap_u64]; omega
  clear hw7 hs7 hW7 hgw ho7 HK6 HR6 HS6
  go_wp2_with fail
  rw [← HE7.out, HG7.out]
  clear HE7 HG7
  refine (uint_any 2 gw m [] w7 o7 (by omega) HW7.out (by omega) (by simp)).mono ?_
  rintro e w8 ⟨rfl, o8, hs, hW⟩
  rw [List.nil_append] at hW
  have hah2 : (encU m).length = ah := by rw [← HM.out]; exact HAH.out
  have HK8 := Lib.hid (RowL.step HK7.out hs (by unfold Own; omega))
  have HR8 := Lib.hid (HR7.out.step hs (by unfold Own; omega) fun l h => by unfold Own at *; omega)
  have HS8 := Lib.hid (HS7.out.trans (hs.mono fun l hl e => by unfold Own at hl; omega))
  have HW8 := Lib.hid hW
  have HL2 := Lib.hid hah2
  clear hs hW HK7 HR7 HS7 HW7 hmw hah2
  go_wp2_with fail
  refine (done_any 2 gw (encU m) w8 o8 HW8.out (by rw [HL2.out]; omega)).mono ?_
  rw [HL2.out]
  rintro e w9 ⟨v, rfl, hown, hb⟩
  obtain ⟨ra, rc, rfl⟩ : ∃ ra rc, v = .slice ra ah rc := by
    rcases hown.2 with ⟨rfl, h0⟩ | ⟨g, cap, cur, rfl, _⟩
    · exact ⟨none, 0, by rw [h0]⟩
    · exact ⟨_, _, rfl⟩
  have hs : Step (fun _ => False) w8 o8 w9 o8 := Step.same hb
  have HK9 := Lib.hid (RowL.step HK8.out hs fun h => h)
  have HR9 := Lib.hid (HR8.out.step hs (fun h => h) fun _ _ h => h)
  have HS9 := Lib.hid (HS8.out.trans (hs.mono fun _ h => h.elim))
  clear hs hown hb HK8 HR8 HS8 HW8
  have f1 : decide (n ≤ ah) = false := decide_eq_false (by omega)
  have f2 : decide ((n : Int) ≤ (ah : Int)) = false := decide_eq_false (by omega)
  go_wp2_with fail
  refine (rend_any 1 b ⟨[], 0⟩ w9 o8 HR9.out).mono ?_
  rintro e w' ⟨rfl, rfl⟩
  rw [show endR ⟨[], 0⟩ = 0 from rfl]
  go_wp2_with fail
  refine (KY.out ca cc m w9 HK9.out.slice HM.out (by omega)).mono ?_
  rintro e w10 ⟨rfl, hb⟩
  have HS10 := Lib.hid (HS9.out.trans ((Step.same hb : Step (fun _ => False) w9 o8 w10 o8).mono fun _ h => h.elim))
  clear hb HS9 HK9 HR9
  obtain ⟨q, hq⟩ : ∃ q : Nat, (n : Int) - (ah : Int) = (q : Int) := ⟨n - ah, by omega⟩
  have z1 := aroundI_lo at_ q (by omega)
  have z2 := aroundI_hi at_ q (by omega)
  have kz := around_any at_ q w10 (by omega) (by omega) hat.1 hat.2
  obtain ⟨z, hz⟩ : ∃ z : Nat, aroundI at_ q = (z : Int) := ⟨(aroundI at_ q).toNat, by omega⟩
  rw [hz] at kz z1 z2
  obtain ⟨k, hk⟩ : ∃ k : Nat, (ah : Int) + (z : Int) = (k : Int) := ⟨ah + z, by omega⟩
  have HKZ := Lib.hid kz
  clear kz hz
  go_wp2_with fail
  refine HKZ.out.mono ?_
  rintro e w' ⟨rfl, rfl⟩
  have hkn : k < n := by omega
  have hkx : k < X.length := by rw [HN.out]; exact hkn
  have hb10 : Below w3.heap.size w3 w10 := HS10.out.toBelow (Nat.le_refl _) fun k _ h => h rfl
  have hown := ownsRow_below HO3.out hb10
  have c1 := own_byte hown hkx
  have c2 := hown.frozenAt k
  obtain ⟨d, hd0, hde⟩ := byte_change by_ hby
  have HBB := Lib.hid hb10
  have HO10 := Lib.hid hown
  clear hb10 hown HS10 HO3 HKZ
  go_wp2_with fail
  have hset := own_put HO10.out (k := k) (X[k] ^^^ d)
  have hbs := (Below.step HB3.out HBB.out).setCell (p := ⟨gx, k, none⟩) hgw0 (byteV (X[k] ^^^ d))
  have hge : X[k]? = some X[k] := List.getElem?_eq_getElem hkx
  have hne : X[k]? ≠ some (X[k] ^^^ d) := by
    rw [hge]
    intro e
    exact xor_ne hd0 (Option.some.inj e).symm
  have hE := HDET.out k (by rw [HAH.out]; omega) hkx (X[k] ^^^ d) hne
  rw [xor_u8]
  obtain ⟨w11, hw11⟩ : ∃ x, x = w10.setCell ⟨gx, k, none⟩ (.int .u8 ((X[k] ^^^ d).toNat : Int)) := ⟨_, rfl⟩
  rw [show byteV (X[k] ^^^ d) = .int .u8 ((X[k] ^^^ d).toNat : Int) from rfl, ← hw11] at hset hbs
  rw [← hw11]
  have hsl := own_at hset
  obtain ⟨Y, hY⟩ : ∃ Y, X.set k (X[k] ^^^ d) = Y := ⟨_, rfl⟩
  have hYl : Y.length = n := by rw [← hY, List.length_set]; exact HN.out
  rw [hY] at hsl hE
  have kd := chdec_any (some ⟨gx, 0, none⟩) cx Y w11 hsl (by rw [hYl]; omega)
  rw [hYl] at kd
  obtain ⟨E, hEe⟩ : ∃ E, decErr Y = E := ⟨_, rfl⟩
  rw [hEe] at kd hE
  have KD := Lib.hid kd
  have HBW := Lib.hid hbs
  clear kd hEe hY hYl hsl hset hbs hge hne hw11 c1 c2 hde HBB HB3 HO10
  rcases hE with rfl | rfl
  all_goals
    refine KD.out.mono ?_
    rintro e w12 ⟨a', c', rfl, hsl, hb⟩
    have HB12 := Lib.hid (Below.step HBW.out hb)
    clear hb hsl
    go_wp2_with fail
    refine (lives_any _).mono ?_
    rintro e w13 ⟨rfl, hb⟩
    have hbz := (HB12.out.alloc HB12.out.size _).trans (hb.mono (HB12.out.alloc HB12.out.size _).size)
    go_wp2_with fail
    go_ret
    exact ⟨rfl, hbz⟩
end Go.Proofs.Ytmonpnikdheokaa
