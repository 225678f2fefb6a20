/-
  The walk of the law WireWrites.
-/
import Derived.Test.YtplhclmmmfpgeaaWireP
import Derived.Test.YtplhclmmmfpgeaaWireI
namespace Go.Proofs.Ytplhclmmmfpgeaa
open Go Go.Proofs
open Go.RowKit
set_option linter.unusedVariables false
set_option linter.unusedSimpArgs false

set_option maxRecDepth 100000 in
set_option maxHeartbeats 4000000 in
theorem wireWrites_walk (a : Option Addr) (c : Nat) (xs : List Int) (u n : Int) (a0 : Option Addr) (c0 : Nat) (raw : List UInt8) (ka : Option Addr) (kc : Nat) (ks : List Int) (w : World)
    (hx : SliceAt w a c (xs.map intV)) (hxb : ∀ n ∈ xs, -9223372036854775808 ≤ n ∧ n ≤ 9223372036854775807) (hu : 0 ≤ u ∧ u ≤ 18446744073709551615) (hn : -9223372036854775808 ≤ n ∧ n ≤ 9223372036854775807)
    (hr0 : SliceAt w a0 c0 (raw.map byteV)) (hk : SliceAt w ka kc (ks.map intV)) (hkb : ∀ n ∈ ks, -9223372036854775808 ≤ n ∧ n ≤ 9223372036854775807) :
    Calls Try.prog 6 #[.slice a xs.length c, .int .u64 u, .int .i64 n, .slice a0 raw.length c0, .slice ka ks.length kc] w fun e w' => e = .returned (.bool true) ∧ Below w.heap.size w w' := by
  obtain ⟨u, rfl⟩ : ∃ z : Nat, u = z := ⟨u.toNat, by omega⟩
  have HX := Lib.hid hx
  have HXB := Lib.hid hxb
  have HR0 := Lib.hid hr0
  have HK := Lib.hid hk
  have HKB := Lib.hid hkb
  clear hx hxb hr0 hk hkb
  go_enter Try.func6, Try.ntmps6
  go_wp2_with fail
  refine (vals_any a c xs 1 w (fun _ => 0) HX.out HXB.out (by omega) (fun _ _ => by omega)).mono ?_
  rintro e w1 ⟨v, o1, vs, rfl, hs1, hv1, hvl, hvo⟩
  obtain ⟨ps, hr1, hr2, hr3⟩ := hv1
  obtain ⟨va, vc, rfl⟩ := hr1.form
  have hB1 : Below w.heap.size w w1 := hs1.toBelow (Nat.le_refl _) fun _ _ h => h
  have hlab1 : Hid (∀ k, k < w.heap.size → o1 k = 0) := fun k hk => hs1.lab k hk
  have HR1 := Lib.hid hr1
  have HR2 := Lib.hid hr2
  have HR3 := Lib.hid hr3
  have HVO := Lib.hid hvo
  have KF := Lib.hid (few_any a0 c0 raw 200 w1 (HR0.out.below hB1) (by omega))
  clear hs1 hr1 hr2 hr3 hvo
  go_wp2_with fail
  refine KF.out.mono ?_
  rintro e w2 ⟨v2, rfl, hown2, hb2⟩
  obtain ⟨fb, hfb⟩ : ∃ fb, fb = raw.take 200 := ⟨_, rfl⟩
  have hfl : fb.length ≤ 200 := by rw [hfb, List.length_take]; omega
  rw [← hfb] at hown2
  obtain ⟨a2, c2, rfl, hs2⟩ := ownsRow_sliceMap hown2
  have hd2 : Dat w2 (newLab w1 o1 0) 0 a2 c2 (fb.map byteV) := Dat.new hs2 fun _ b off ha => by subst ha; exact (hown2.lt b rfl).1
  have hs12 : Step (fun _ => False) w1 o1 w2 (newLab w1 o1 0) := Step.below hb2 fun k hk => newLab_old _ _ _ hk
  have hB2 := Below.step hB1 hb2
  have hlab2 : Hid (∀ k, k < w.heap.size → newLab w1 o1 0 k = 0) := fun k hk => by rw [newLab_old _ _ _ (Nat.lt_of_lt_of_le hk hB1.size)]; exact hlab1.out k hk
  generalize newLab w1 o1 0 = o2 at *
  have KI := Lib.hid (ints_any ka kc ks 20 w2 (HK.out.below hB2) (by omega))
  have HD2 := Lib.hid hd2
  have HS12 := Lib.hid hs12
  clear hown2 hb2 hs2 hd2 hs12 hfb KF
  go_wp2_with fail
  refine KI.out.mono ?_
  rintro e w3 ⟨v3, rfl, hown3, hb3⟩
  obtain ⟨fl, hfl3⟩ : ∃ fl, fl = ks.take 20 := ⟨_, rfl⟩
  have hfll : fl.length ≤ 20 := by rw [hfl3, List.length_take]; omega
  have hflb : ∀ n ∈ fl, -9223372036854775808 ≤ n ∧ n ≤ 9223372036854775807 := fun n hn => HKB.out n (List.mem_of_mem_take (by rw [← hfl3]; exact hn))
  rw [← hfl3] at hown3
  obtain ⟨a3, c3, rfl, hs3⟩ := ownsRow_sliceMap hown3
  have hd3 : Dat w3 (newLab w2 o2 0) 0 a3 c3 (fl.map intV) := Dat.new hs3 fun _ b off ha => by subst ha; exact (hown3.lt b rfl).1
  have hs23 : Step (fun _ => False) w2 o2 w3 (newLab w2 o2 0) := Step.below hb3 fun k hk => newLab_old _ _ _ hk
  have hB3 := Below.step hB2 hb3
  have hlab3 : Hid (∀ k, k < w.heap.size → newLab w2 o2 0 k = 0) := fun k hk => by rw [newLab_old _ _ _ (Nat.lt_of_lt_of_le hk hB2.size)]; exact hlab2.out k hk
  generalize newLab w2 o2 0 = o3 at *
  have HD23 := Lib.hid (HD2.out.step hs23 (fun h => h))
  have HD3 := Lib.hid hd3
  have HS13 := Lib.hid (HS12.out.trans hs23)
  have HR13 := Lib.hid (HR1.out.step HS13.out (fun h => h))
  have HFLB := Lib.hid hflb
  clear hown3 hb3 hs3 hd3 hs23 hfl3 KI hflb HD2 HS12 HR1 hlab2 hlab1
  go_wp2_with (at_builtin; refine wpList_append_row rfl (.tmp 15) (.tmp 27) 35 rfl elemV rfl HR13.out ((Below.refl _ w3).alloc (Nat.le_refl _) _) (some ⟨w3.heap.size, 0, none⟩) 5 5 [.int .i64 0, .int .u64 u, .int .i64 0, .slice none 0 0, .slice none 0 0, .int .i64 1, .int .u64 0, .int .i64 n, .slice none 0 0, .slice none 0 0, .int .i64 4, .int .u64 0, .int .i64 0, .slice a2 fb.length c2, .slice none 0 0, .int .i64 5, .int .u64 0, .int .i64 0, .slice none 0 0, .slice a3 fl.length c3, .int .i64 2, .int .u64 0, .int .i64 1, .slice none 0 0, .slice none 0 0] rfl (row_new (cs := [.int .i64 0, .int .u64 u, .int .i64 0, .slice none 0 0, .slice none 0 0, .int .i64 1, .int .u64 0, .int .i64 n, .slice none 0 0, .slice none 0 0, .int .i64 4, .int .u64 0, .int .i64 0, .slice a2 fb.length c2, .slice none 0 0, .int .i64 5, .int .u64 0, .int .i64 0, .slice none 0 0, .slice a3 fl.length c3, .int .i64 2, .int .u64 0, .int .i64 1, .slice none 0 0, .slice none 0 0]) (by simp) (by omega)) (by simp [Value.oneCell']) (by omega) (by omega) ?_)
  intro v5 w5 hrow5 hs5
  obtain ⟨us, hus⟩ : ∃ us : List ValS, us = vs ++ [⟨0, u, 0, [], []⟩, ⟨1, 0, n, [], []⟩, ⟨4, 0, 0, fb, []⟩, ⟨5, 0, 0, [], fl⟩, ⟨2, 0, 1, [], []⟩] := ⟨_, rfl⟩
  have hul : us.length = vs.length + 5 := by rw [hus]; simp
  have huo : ∀ x ∈ us, x.Ok := by
    intro x hx
    rw [hus] at hx
    rcases List.mem_append.1 hx with h | h
    · exact (HVO.out x h).1
    · simp only [List.mem_cons, List.not_mem_nil, or_false] at h
      rcases h with rfl | rfl | rfl | rfl | rfl
      · exact ⟨by simp, by simp only; omega, by simp, by simp, by simp, by simp⟩
      · exact ⟨by simp, by simp, hn, by simp, by simp, by simp⟩
      · exact ⟨by simp, by simp, by simp, by simp only; omega, by simp, by simp⟩
      · exact ⟨by simp, by simp, by simp, by simp, by simp only; omega, HFLB.out⟩
      · exact ⟨by simp, by simp, by simp, by simp, by simp, by simp⟩
  have hV5 : VRow w5 (newLab w3 o3 1) 1 v5 us := by
    refine ⟨ps ++ [(⟨0, u, 0, [], []⟩, .slice none 0 0, .slice none 0 0), (⟨1, 0, n, [], []⟩, .slice none 0 0, .slice none 0 0), (⟨4, 0, 0, fb, []⟩, .slice a2 fb.length c2, .slice none 0 0), (⟨5, 0, 0, [], fl⟩, .slice none 0 0, .slice a3 fl.length c3), (⟨2, 0, 1, [], []⟩, .slice none 0 0, .slice none 0 0)], ?_, by rw [List.map_append, HR2.out, hus]; rfl, fun p hp => ?_⟩
    · rw [hul]
      have e : ∀ qs, vcells (ps ++ qs) = vcells ps ++ vcells qs := by
        intro qs
        unfold vcells
        rw [List.flatMap_append]
      rw [e]
      exact hrow5
    · rcases List.mem_append.1 hp with h | h
      · exact ((HR3.out p h).step HS13.out (fun h => h)).step hs5 (by omega)
      · simp only [List.mem_cons, List.not_mem_nil, or_false] at h
        rcases h with rfl | rfl | rfl | rfl | rfl
        · exact ⟨none, 0, none, 0, rfl, rfl, Dat.nil byteV _ _ _, Dat.nil intV _ _ _⟩
        · exact ⟨none, 0, none, 0, rfl, rfl, Dat.nil byteV _ _ _, Dat.nil intV _ _ _⟩
        · exact ⟨a2, c2, none, 0, rfl, rfl, HD23.out.step hs5 (by omega), Dat.nil intV _ _ _⟩
        · exact ⟨none, 0, a3, c3, rfl, rfl, Dat.nil byteV _ _ _, HD3.out.step hs5 (by omega)⟩
        · exact ⟨none, 0, none, 0, rfl, rfl, Dat.nil byteV _ _ _, Dat.nil intV _ _ _⟩
  have hB5 : Below w.heap.size w w5 := hB3.trans (hs5.toBelow (n := w.heap.size) hB3.size fun k hk => by rw [hlab3.out k hk]; omega)
  have hlab5 : Hid (∀ k, k < w.heap.size → newLab w3 o3 1 k = 0) := fun k hk => by rw [newLab_old _ _ _ (Nat.lt_of_lt_of_le hk hB3.size)]; exact hlab3.out k hk
  generalize newLab w3 o3 1 = o5 at *
  obtain ⟨ua, uc, hv5⟩ : ∃ ua uc, v5 = .slice ua us.length uc := by
    obtain ⟨ps', h1, _⟩ := hV5
    exact h1.form
  subst hv5
  have hlen : us.length ≤ 13 := by omega
  have s1 := step_new w5 o5 (10 * 1) (.cells #[.slice none 0 0] 26)
  have W1 := Lib.hid (wr_new w5 o5 1 26)
  have HV6 := Lib.hid (hV5.step s1 (fun h => h) (fun h => h))
  have hB6 : Below w.heap.size w (w5.alloc (.cells #[.slice none 0 0] 26)) := hB5.alloc hB5.size _
  have hlab6 : Hid (∀ k, k < w.heap.size → newLab w5 o5 (10 * 1) k = 0) := fun k hk => by rw [newLab_old _ _ _ (Nat.lt_of_lt_of_le hk hB5.size)]; exact hlab5.out k hk
  have HUO := Lib.hid huo
  clear hrow5 hs5 hus hul huo hV5 HR13 HR2 HR3 HVO HS13 HD23 HD3 HFLB hlab3 hlab5 s1
  obtain ⟨b, hb⟩ : ∃ b, b = w5.heap.size := ⟨_, rfl⟩
  generalize newLab w5 o5 (10 * 1) = o6 at *
  obtain ⟨w6, hw6⟩ : ∃ w6, w6 = w5.alloc (.cells #[.slice none 0 0] 26) := ⟨_, rfl⟩
  rw [← hw6] at W1 HV6 hB6
  rw [← hb] at W1
  have HW6 := Lib.hid hw6
  have HB := Lib.hid hb
  clear hw6 hb
  go_wp2_with fail
  rw [← HW6.out, ← HB.out]
  go_loopw [13] (fun jv wq => ∃ (j : Nat) (o8 : Nat → Nat), j ≤ us.length ∧ jv = .int .i64 j ∧ Hid (Step (Own 1) w6 o6 wq o8) ∧ Hid (WrAt wq o8 1 b ((us.take j).flatMap encV))) (fun jv _ => us.length - (intOf jv).toNat)
  case atStart => exact ⟨0, o6, by omega, rfl, Step.refl _ _ _, W1.out⟩
  case round =>
    clear W1
    obtain ⟨j, o8, hj, rfl, HS8, HW8⟩ := hrel
    have HV8 := Lib.hid (HV6.out.step HS8.out (Own.not0 (by omega)) (by unfold Own; omega))
    by_cases hlt : j < us.length
    · have d1 : decide ((j : Int) < (us.length : Int)) = true := decide_eq_true (by omega)
      have d1' : decide (j < us.length) = true := decide_eq_true hlt
      obtain ⟨v, hv⟩ : ∃ v, us[j]? = some v := ⟨us[j], List.getElem?_eq_getElem hlt⟩
      obtain ⟨g, x, y, rfl, -, hnc, e0, e1, e2, e3, e4, hvc⟩ := HV8.out.at hv
      have hvs := HUO.out v (List.mem_of_getElem? hv)
      obtain ⟨q, hq⟩ : ∃ q, q = j + 1 := ⟨_, rfl⟩
      obtain ⟨E, hE⟩ : ∃ E, (us.take q).flatMap encV = E := ⟨_, rfl⟩
      have hE1 : (us.take j).flatMap encV ++ encV v = E := by
        rw [List.getElem?_eq_getElem hlt] at hv
        rw [← hE, hq, List.take_succ_eq_append_getElem hlt, List.flatMap_append, Option.some.inj hv]
        simp
      have hjl : (us.take q).length = q := by rw [List.length_take]; omega
      have hln : ((us.take j).flatMap encV).length ≤ 1000000000 := by
        have h1 := encVs_len (us.take j) fun x hx => HUO.out x (List.mem_of_mem_take hx)
        have h2 : (us.take j).length ≤ 13 := by rw [List.length_take]; omega
        have h3 : 10000010 * (us.take j).length ≤ 10000010 * 13 := Nat.mul_le_mul_left _ h2
        omega
      have hEl : E.length ≤ 1000000000 := by
        have h1 := encVs_len (us.take q) fun x hx => HUO.out x (List.mem_of_mem_take hx)
        have h3 : 10000010 * (us.take q).length ≤ 10000010 * 14 := Nat.mul_le_mul_left _ (by omega)
        rw [hE] at h1
        omega
      have KW := Lib.hid (write_any 1 b v x y _ wr o8 (by omega) hvs HW8.out hvc hln)
      have HE1 := Lib.hid hE1
      have HE := Lib.hid hE
      have HJL := Lib.hid hjl
      obtain ⟨xa, xc, ya, yc, rfl, rfl, -⟩ := hvc
      clear hv hvs hE1 hln HW8 hE hjl
      go_wp2_with fail
      refine KW.out.mono ?_
      rintro e w9 ⟨rfl, o9, hs9, hw9⟩
      rw [HE1.out] at hw9
      have HW9 := Lib.hid hw9
      have HS9 := Lib.hid (HS8.out.trans hs9)
      have hv9 := (HV8.out.step hs9 (Own.not0 (by omega)) (by unfold Own; omega)).take (k := q) (by omega)
      have HV9 := Lib.hid hv9
      clear hs9 hw9 hv9 KW HS8 HV8 e0 e1 e2 e3 e4
      obtain ⟨S, hS⟩ : ∃ S : World → Prop, S = fun W => Below w9.heap.size w9 W := ⟨_, rfl⟩
      have hSb : ∀ W W', S W → Below W.heap.size W W' → S W' := by
        intro W W' h hb
        rw [hS] at h ⊢
        exact Below.step h hb
      have k1 : ∀ W, S W → Calls Try.prog 16 #[.pointer (some ⟨b, 0, none⟩)] W fun e w' => ∃ a c, e = .returned (.slice a E.length c) ∧ SliceAt w' a c (E.map byteV) ∧ S w' ∧ Below W.heap.size W w' := by
        intro W hW
        have h1 : Below w9.heap.size w9 W := by rw [hS] at hW; exact hW
        refine (done_any 1 b E W o9 (HW9.out.step (L := fun _ => False) (Step.same h1) (fun _ _ h => h)) (by omega)).mono ?_
        rintro e w' ⟨v, rfl, h1, h2⟩
        obtain ⟨a1, c1, rfl, hs1⟩ := ownsRow_sliceMap h1
        exact ⟨a1, c1, rfl, hs1, hSb _ _ hW h2, h2⟩
      have k2 : ∀ W, S W → Calls Try.prog 18 #[.slice (some ⟨g, 0, none⟩) q uc] W fun e w' => ∃ a c, e = .returned (.slice a E.length c) ∧ SliceAt w' a c (E.map byteV) ∧ S w' ∧ Below W.heap.size W w' := by
        intro W hW
        have h1 : Below w9.heap.size w9 W := by rw [hS] at hW; exact hW
        have h3 := refEncode_any _ uc 1 (us.take q) W o9 (HV9.out.step (L := fun _ => False) (Step.same h1) (fun h => h) (fun h => h)) (fun x hx => HUO.out x (List.mem_of_mem_take hx)) (by rw [HJL.out]; omega)
        rw [HE.out, HJL.out] at h3
        refine h3.mono ?_
        rintro e w' ⟨v, rfl, h1, h2⟩
        obtain ⟨a1, c1, rfl, hs1⟩ := ownsRow_sliceMap h1
        exact ⟨a1, c1, rfl, hs1, hSb _ _ hW h2, h2⟩
      have k3 : ∀ W a1 c1 a2 c2, S W → SliceAt W a1 c1 (E.map byteV) → SliceAt W a2 c2 (E.map byteV) → Calls Try.prog 30 #[.slice a1 E.length c1, .slice a2 E.length c2] W fun e w' => e = .returned (.bool true) ∧ S w' := by
        intro W a1 c1 a2 c2 hW h1 h2
        exact (sameBytes_any a1 a2 c1 c2 E E W h1 h2).mono fun e w' ⟨g1, g2⟩ => ⟨by rw [g1]; simp, hSb _ _ hW g2⟩
      have HS0 : Hid (S w9.drew) := by
        unfold Hid; rw [hS]; exact Below.drew (Below.refl _ _)
      have K1 := Lib.hid k1
      have K2 := Lib.hid k2
      have K3 := Lib.hid k3
      clear k1 k2 k3 hSb
      subst hS
      have r1 : (j : Int) + 1 = (q : Int) := by omega
      have r2 : IntKind.i64.wrap ((j : Int) + 1) = (q : Int) := by rw [r1]; exact IntWalk.i64_in _ (by omega)
      have r6 : IntKind.i64.wrap (q : Int) = (q : Int) := IntWalk.i64_in _ (by omega)
      have r3 : q ≤ uc := by omega
      have r4 : (q : Int) ≤ (uc : Int) := by omega
      have r5 : (0 : Int) ≤ (q : Int) := by omega
      have HQ := Lib.hid hq
      clear hq
      go_wp2_with fail
      go_region_held3 (fun W => Below w9.heap.size w9 W) (first | assumption | exact HS0.out)
        (first | (go_at_call 16; (with_reducible refine (K1.out _ (by assumption)).mono ?_); rintro e w' ⟨a3, c3, rfl, hs3, hbb, hb3⟩) | (go_at_call 18; (with_reducible refine (K2.out _ (by assumption)).mono ?_); rintro e w' ⟨a4, c4, rfl, hs4, hbb, hb4⟩; have hs3 := hs3.below hb4) | (go_at_call 30; (with_reducible refine (K3.out _ _ _ _ _ (by assumption) hs3 hs4).mono ?_); rintro e w' ⟨rfl, hbb⟩))
      go_wp2
      go_roundw
      case rel => exact ⟨q, o9, by have := HQ.out; omega, rfl, HS9.out.trans (Step.same (by assumption)), by unfold Hid; rw [HE.out]; exact HW9.out.step (L := fun _ => False) (Step.same (by assumption)) (fun _ _ h => h)⟩
      case measure => have := HQ.out; simp [intOf]; omega
    · have d1 : decide ((j : Int) < (us.length : Int)) = false := decide_eq_false (by omega)
      have d1' : decide (j < us.length) = false := decide_eq_false hlt
      have hB8 : Below w.heap.size w wr := hB6.trans (HS8.out.toBelow (n := w.heap.size) hB6.size fun k hk => by rw [hlab6.out k hk]; exact Own.not0 (by omega))
      clear HS8 HW8 HV8
      go_wp2_with fail
      refine (lives_any wr).mono ?_
      rintro e w9 ⟨rfl, hb9⟩
      go_wp2_with fail
      go_ret
      exact ⟨rfl, Below.step hB8 hb9⟩
end Go.Proofs.Ytplhclmmmfpgeaa
