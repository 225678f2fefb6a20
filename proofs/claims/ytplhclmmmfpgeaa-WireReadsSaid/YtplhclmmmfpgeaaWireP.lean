/-
  The law's reference encoder of all kinds.
-/
import Derived.Test.YtplhclmmmfpgeaaWireL
namespace Go.Proofs.Ytplhclmmmfpgeaa
open Go Go.Proofs
open Go.RowKit
set_option linter.unusedVariables false
set_option linter.unusedSimpArgs false

/-- The first rows. -/
theorem VRow.take {w : World} {o : Nat → Nat} {l c : Nat} {a : Option Addr} {vs : List ValS} (h : VRow w o l (.slice a vs.length c) vs) {k : Nat} (hk : k ≤ vs.length) : VRow w o l (.slice a (vs.take k).length c) (vs.take k) := by
  obtain ⟨ps, ⟨⟨h1, h2⟩, h3⟩, h4, h5⟩ := h
  have hkl : (vs.take k).length = k := by rw [List.length_take]; omega
  have hpl : ps.length = vs.length := by rw [← h4, List.length_map]
  have hcl : ∀ (qs : List (ValS × Value × Value)), (vcells qs).length = qs.length * 5 := by
    intro qs
    induction qs with
    | nil => rfl
    | cons q qs ih =>
      have e : vcells (q :: qs) = .int .i64 q.1.kind :: .int .u64 q.1.u :: .int .i64 q.1.n :: q.2.1 :: q.2.2 :: vcells qs := rfl
      rw [e]
      simp only [List.length_cons, ih]
      omega
  have htk : ∀ (qs : List (ValS × Value × Value)) (m : Nat), vcells (qs.take m) = (vcells qs).take (m * 5) := by
    intro qs
    induction qs with
    | nil => intro m; simp [vcells]
    | cons q qs ih =>
      intro m
      cases m with
      | zero => rfl
      | succ m =>
        have e : vcells (q :: qs) = .int .i64 q.1.kind :: .int .u64 q.1.u :: .int .i64 q.1.n :: q.2.1 :: q.2.2 :: vcells qs := rfl
        have e2 : vcells ((q :: qs).take (m + 1)) = .int .i64 q.1.kind :: .int .u64 q.1.u :: .int .i64 q.1.n :: q.2.1 :: q.2.2 :: vcells (qs.take m) := rfl
        rw [e, e2, ih m, show (m + 1) * 5 = m * 5 + 1 + 1 + 1 + 1 + 1 by omega]
        simp only [List.take_succ_cons]
  refine ⟨ps.take k, ⟨⟨?_, ?_⟩, fun i hi => h3 i ?_⟩, by rw [← h4, List.map_take], fun p hp => h5 p (List.mem_of_mem_take hp)⟩
  · rw [hkl, hcl, List.length_take, hpl]
    congr 1
    omega
  · rw [hkl]
    rcases h2 with ⟨h2, h6⟩ | ⟨g, cap, cur, h2, hg, hgg, hc, hm, hs, ht⟩
    · simp only [Value.slice.injEq] at h2
      obtain ⟨rfl, h7, rfl⟩ := h2
      have : k = 0 := by omega
      subst this
      exact .inl ⟨rfl, rfl⟩
    · simp only [Value.slice.injEq] at h2
      obtain ⟨rfl, h7, rfl⟩ := h2
      refine .inr ⟨g, c, cur, rfl, hg, hgg, by omega, hm, hs, ?_⟩
      rw [htk, ← ht, List.take_take]
      congr 1
      omega
  · cases a with
    | none => simp [Value.ownBlock] at hi
    | some p => exact hi

set_option maxRecDepth 100000 in
set_option maxHeartbeats 4000000 in
theorem refEncode_any (a : Option Addr) (c l : Nat) (vs : List ValS) (w : World) (o : Nat → Nat) (hV : VRow w o l (.slice a vs.length c) vs) (hok : ∀ v ∈ vs, v.Ok) (hlen : vs.length ≤ 90) :
    Calls Try.prog 18 #[.slice a vs.length c] w fun e w' => ∃ v, e = .returned v ∧ w'.ownsRow w.heap.size 5 1 v (vs.flatMap encV).length ((vs.flatMap encV).map byteV) ∧ Below w.heap.size w w' := by
  have HOK := Lib.hid hok
  have HV0 := Lib.hid hV
  obtain ⟨n, hn⟩ : ∃ n, vs.length = n := ⟨_, rfl⟩
  rw [hn] at HV0 hlen ⊢
  have HN := Lib.hid hn
  clear hok hV hn
  go_enter Try.func18, Try.ntmps18
  go_wp2_with fail
  go_loopw [3, 4] (fun v jv wr => ∃ (j : Nat) (acc : List UInt8), j ≤ n ∧ jv = .int .i64 j ∧ acc.length ≤ 10000010 * j ∧ wr.ownsRow w.heap.size 5 1 v acc.length (acc.map byteV) ∧ Below w.heap.size w wr ∧ Hid (acc = (vs.take j).flatMap encV)) (fun _ jv _ => n - (intOf jv).toNat)
  case atStart => exact ⟨0, [], by omega, rfl, by simp, World.ownsRow_nil _ _ _ _, Below.refl _ _, rfl⟩
  case round =>
    obtain ⟨j, acc, hj, rfl, hal, hown, hB, HE⟩ := hrel
    by_cases hlt : j < n
    · have d1 : decide ((j : Int) < (n : Int)) = true := decide_eq_true (by omega)
      have d1' : decide (j < n) = true := decide_eq_true hlt
      have hjv : j < vs.length := by rw [HN.out]; exact hlt
      obtain ⟨v, hv⟩ : ∃ v, vs[j]? = some v := ⟨vs[j], List.getElem?_eq_getElem hjv⟩
      have hE5 : acc ++ encV v = (vs.take (j + 1)).flatMap encV := by
        rw [List.getElem?_eq_getElem hjv] at hv
        rw [HE.out, List.take_succ_eq_append_getElem hjv, List.flatMap_append, Option.some.inj hv]
        simp
      obtain ⟨g, x, y, rfl, -, hnc, e0, e1, e2, e3, e4, hvc⟩ := (HV0.out.step (L := fun _ => False) (o' := o) (Step.same hB) (fun h => h) (fun h => h)).at hv
      have hvo := HOK.out v (List.mem_of_getElem? hv)
      have hel := encV_len hvo
      obtain ⟨ev, hev⟩ : ∃ ev, encV v = ev := ⟨_, rfl⟩
      rw [hev] at hE5 hel
      obtain ⟨ba, bc, la, lc, rfl, rfl, hd1, hd2⟩ := hvc
      have hbb := hvo.b
      have hll := hvo.l
      obtain ⟨kd, hkd⟩ : ∃ kd, v.kind = kd := ⟨_, rfl⟩
      have hk5 : kd ≤ 5 := by rw [← hkd]; exact hvo.k
      rw [hkd] at e0
      have HE5 := Lib.hid hE5
      have HVO := Lib.hid hvo
      have HEV := Lib.hid hev
      have HKD := Lib.hid hkd
      have HD1 := Lib.hid hd1
      have HD2 := Lib.hid hd2
      clear hE5 hv hvo hev hkd hd1 hd2 HE hjv
      have hc : kd = 0 ∨ kd = 1 ∨ kd = 2 ∨ kd = 3 ∨ kd = 4 ∨ kd = 5 := by omega
      rcases hc with hc | hc | hc | hc | hc | hc
      · have k0 : ((kd : Int) == 0) = true := by simp; omega
        have hce : encU v.u = ev := by rw [← HEV.out]; unfold encV; rw [HKD.out, if_pos hc]
        have K := refUint_any v.u wr HVO.out.u
        rw [hce] at K
        have K := Lib.hid K
        clear hce hc
        go_wp2_with fail
        refine K.out.mono ?_
        rintro e w9 ⟨v9, rfl, ho9, hb9⟩
        obtain ⟨a9, c9, rfl, hs9⟩ := ownsRow_sliceMap ho9
        have hown9 := ownsRow_below hown hb9
        have hB9 := Below.step hB hb9
        have hr9 := sliceRowB hs9
        clear ho9 hown hb9 hB K hs9 HD1 HD2 HVO HEV HKD e0 e1 e2 e3 e4
        go_wp2_with (at_builtin; refine wpList_append_src _ rfl _ _ 24 rfl elemB w.heap.size _ acc.length _ rfl hown9 a9 ev.length c9 _ rfl hr9 (byteV_one ev) (by omega) (by omega) hB9.size ?_)
        intro v5 w5 hown5 hb5 _
        have ho5 := own_app hown5
        have hB5 := hB9.trans hb5
        have hal5 : (acc ++ ev).length ≤ 10000010 * (j + 1) := by rw [List.length_append]; omega
        have HAL := Lib.hid hal5
        clear hown5 hb5 hown9 hB9 hr9 hal5
        go_wp2_with fail
        go_roundw
        case rel => exact ⟨j + 1, _, by omega, by go_num, HAL.out, ho5, hB5, HE5⟩
        case measure => simp [intOf]; omega
      · have k0 : ((kd : Int) == 0) = false := by simp; omega
        have k1 : ((kd : Int) == 1) = true := by simp; omega
        have hce : encI v.n = ev := by rw [← HEV.out]; unfold encV; rw [HKD.out, if_neg (by omega), if_pos hc]
        have K := refInt_any v.n wr HVO.out.n.1 HVO.out.n.2
        rw [hce] at K
        have K := Lib.hid K
        clear hce hc
        go_wp2_with fail
        refine K.out.mono ?_
        rintro e w9 ⟨v9, rfl, ho9, hb9⟩
        obtain ⟨a9, c9, rfl, hs9⟩ := ownsRow_sliceMap ho9
        have hown9 := ownsRow_below hown hb9
        have hB9 := Below.step hB hb9
        have hr9 := sliceRowB hs9
        clear ho9 hown hb9 hB K hs9 HD1 HD2 HVO HEV HKD e0 e1 e2 e3 e4
        go_wp2_with (at_builtin; refine wpList_append_src _ rfl _ _ 24 rfl elemB w.heap.size _ acc.length _ rfl hown9 a9 ev.length c9 _ rfl hr9 (byteV_one ev) (by omega) (by omega) hB9.size ?_)
        intro v5 w5 hown5 hb5 _
        have ho5 := own_app hown5
        have hB5 := hB9.trans hb5
        have hal5 : (acc ++ ev).length ≤ 10000010 * (j + 1) := by rw [List.length_append]; omega
        have HAL := Lib.hid hal5
        clear hown5 hb5 hown9 hB9 hr9 hal5
        go_wp2_with fail
        go_roundw
        case rel => exact ⟨j + 1, _, by omega, by go_num, HAL.out, ho5, hB5, HE5⟩
        case measure => simp [intOf]; omega
      · have k0 : ((kd : Int) == 0) = false := by simp; omega
        have k1 : ((kd : Int) == 1) = false := by simp; omega
        have k2 : ((kd : Int) == 2) = true := by simp; omega
        have hce : encU (boolN (v.n == 1)) = ev := by rw [← HEV.out]; unfold encV; rw [HKD.out, if_neg (by omega), if_neg (by omega), if_pos hc, show decide (v.n = 1) = (v.n == 1) from by rw [Bool.eq_iff_iff]; simp]
        have K := refBool_any (v.n == 1) wr
        rw [hce] at K
        have K := Lib.hid K
        clear hce hc
        go_wp2_with fail
        refine K.out.mono ?_
        rintro e w9 ⟨v9, rfl, ho9, hb9⟩
        obtain ⟨a9, c9, rfl, hs9⟩ := ownsRow_sliceMap ho9
        have hown9 := ownsRow_below hown hb9
        have hB9 := Below.step hB hb9
        have hr9 := sliceRowB hs9
        clear ho9 hown hb9 hB K hs9 HD1 HD2 HVO HEV HKD e0 e1 e2 e3 e4
        go_wp2_with (at_builtin; refine wpList_append_src _ rfl _ _ 24 rfl elemB w.heap.size _ acc.length _ rfl hown9 a9 ev.length c9 _ rfl hr9 (byteV_one ev) (by omega) (by omega) hB9.size ?_)
        intro v5 w5 hown5 hb5 _
        have ho5 := own_app hown5
        have hB5 := hB9.trans hb5
        have hal5 : (acc ++ ev).length ≤ 10000010 * (j + 1) := by rw [List.length_append]; omega
        have HAL := Lib.hid hal5
        clear hown5 hb5 hown9 hB9 hr9 hal5
        go_wp2_with fail
        go_roundw
        case rel => exact ⟨j + 1, _, by omega, by go_num, HAL.out, ho5, hB5, HE5⟩
        case measure => simp [intOf]; omega
      · have k0 : ((kd : Int) == 0) = false := by simp; omega
        have k1 : ((kd : Int) == 1) = false := by simp; omega
        have k2 : ((kd : Int) == 2) = false := by simp; omega
        have k3 : ((kd : Int) == 3) = true := by simp; omega
        have hce : encR v.b = ev := by rw [← HEV.out]; unfold encV; rw [HKD.out, if_neg (by omega), if_neg (by omega), if_neg (by omega), if_pos (by omega)]
        have K := refRaw_any ba bc v.b wr HD1.out.slice (by omega)
        rw [hce] at K
        have K := Lib.hid K
        clear hce hc
        go_wp2_with fail
        refine K.out.mono ?_
        rintro e w9 ⟨v9, rfl, ho9, hb9⟩
        obtain ⟨a9, c9, rfl, hs9⟩ := ownsRow_sliceMap ho9
        have hown9 := ownsRow_below hown hb9
        have hB9 := Below.step hB hb9
        have hr9 := sliceRowB hs9
        clear ho9 hown hb9 hB K hs9 HD1 HD2 HVO HEV HKD e0 e1 e2 e3 e4
        go_wp2_with (at_builtin; refine wpList_append_src _ rfl _ _ 24 rfl elemB w.heap.size _ acc.length _ rfl hown9 a9 ev.length c9 _ rfl hr9 (byteV_one ev) (by omega) (by omega) hB9.size ?_)
        intro v5 w5 hown5 hb5 _
        have ho5 := own_app hown5
        have hB5 := hB9.trans hb5
        have hal5 : (acc ++ ev).length ≤ 10000010 * (j + 1) := by rw [List.length_append]; omega
        have HAL := Lib.hid hal5
        clear hown5 hb5 hown9 hB9 hr9 hal5
        go_wp2_with fail
        go_roundw
        case rel => exact ⟨j + 1, _, by omega, by go_num, HAL.out, ho5, hB5, HE5⟩
        case measure => simp [intOf]; omega
      · have k0 : ((kd : Int) == 0) = false := by simp; omega
        have k1 : ((kd : Int) == 1) = false := by simp; omega
        have k2 : ((kd : Int) == 2) = false := by simp; omega
        have k3 : ((kd : Int) == 3) = false := by simp; omega
        have k4 : ((kd : Int) == 4) = true := by simp; omega
        have hce : encR v.b = ev := by rw [← HEV.out]; unfold encV; rw [HKD.out, if_neg (by omega), if_neg (by omega), if_neg (by omega), if_pos (by omega)]
        have K := refRaw_any ba bc v.b wr HD1.out.slice (by omega)
        rw [hce] at K
        have K := Lib.hid K
        clear hce hc
        go_wp2_with fail
        refine K.out.mono ?_
        rintro e w9 ⟨v9, rfl, ho9, hb9⟩
        obtain ⟨a9, c9, rfl, hs9⟩ := ownsRow_sliceMap ho9
        have hown9 := ownsRow_below hown hb9
        have hB9 := Below.step hB hb9
        have hr9 := sliceRowB hs9
        clear ho9 hown hb9 hB K hs9 HD1 HD2 HVO HEV HKD e0 e1 e2 e3 e4
        go_wp2_with (at_builtin; refine wpList_append_src _ rfl _ _ 24 rfl elemB w.heap.size _ acc.length _ rfl hown9 a9 ev.length c9 _ rfl hr9 (byteV_one ev) (by omega) (by omega) hB9.size ?_)
        intro v5 w5 hown5 hb5 _
        have ho5 := own_app hown5
        have hB5 := hB9.trans hb5
        have hal5 : (acc ++ ev).length ≤ 10000010 * (j + 1) := by rw [List.length_append]; omega
        have HAL := Lib.hid hal5
        clear hown5 hb5 hown9 hB9 hr9 hal5
        go_wp2_with fail
        go_roundw
        case rel => exact ⟨j + 1, _, by omega, by go_num, HAL.out, ho5, hB5, HE5⟩
        case measure => simp [intOf]; omega
      · have k0 : ((kd : Int) == 0) = false := by simp; omega
        have k1 : ((kd : Int) == 1) = false := by simp; omega
        have k2 : ((kd : Int) == 2) = false := by simp; omega
        have k3 : ((kd : Int) == 3) = false := by simp; omega
        have k4 : ((kd : Int) == 4) = false := by simp; omega
        have hce : encIs v.l = ev := by rw [← HEV.out]; unfold encV; rw [HKD.out, if_neg (by omega), if_neg (by omega), if_neg (by omega), if_neg (by omega)]
        have K := refInts_any la lc v.l wr HD2.out.slice HVO.out.lb (by omega)
        rw [hce] at K
        have K := Lib.hid K
        clear hce hc
        go_wp2_with fail
        refine K.out.mono ?_
        rintro e w9 ⟨v9, rfl, ho9, hb9⟩
        obtain ⟨a9, c9, rfl, hs9⟩ := ownsRow_sliceMap ho9
        have hown9 := ownsRow_below hown hb9
        have hB9 := Below.step hB hb9
        have hr9 := sliceRowB hs9
        clear ho9 hown hb9 hB K hs9 HD1 HD2 HVO HEV HKD e0 e1 e2 e3 e4
        go_wp2_with (at_builtin; refine wpList_append_src _ rfl _ _ 24 rfl elemB w.heap.size _ acc.length _ rfl hown9 a9 ev.length c9 _ rfl hr9 (byteV_one ev) (by omega) (by omega) hB9.size ?_)
        intro v5 w5 hown5 hb5 _
        have ho5 := own_app hown5
        have hB5 := hB9.trans hb5
        have hal5 : (acc ++ ev).length ≤ 10000010 * (j + 1) := by rw [List.length_append]; omega
        have HAL := Lib.hid hal5
        clear hown5 hb5 hown9 hB9 hr9 hal5
        go_wp2_with fail
        go_roundw
        case rel => exact ⟨j + 1, _, by omega, by go_num, HAL.out, ho5, hB5, HE5⟩
        case measure => simp [intOf]; omega
    · have d1 : decide ((j : Int) < (n : Int)) = false := decide_eq_false (by omega)
      have d1' : decide (j < n) = false := decide_eq_false hlt
      have hfin : acc = vs.flatMap encV := by rw [HE.out, List.take_of_length_le (by rw [HN.out]; omega)]
      subst hfin
      clear HE
      go_wp2_with fail
      go_ret
      exact ⟨_, rfl, hown, hB⟩
end Go.Proofs.Ytplhclmmmfpgeaa
