/-
  The law SessionCopies.
-/
import Derived.Test.YtaonhmdifinadaaScE
namespace Go.Proofs.Ytaonhmdifinadaa
open Go Go.Proofs
open Go.RowKit
set_option linter.unusedVariables false
set_option linter.unusedSimpArgs false

set_option maxRecDepth 100000 in
set_option maxHeartbeats 16000000 in
theorem sessionCopies_walk (a : Option Addr) (cap : Nat) (xs : List Int) (cut : Int) (w : World) (hx : SliceAt w a cap (xs.map intV)) (hb : ∀ n ∈ xs, -9223372036854775808 ≤ n ∧ n ≤ 9223372036854775807) (hc : -9223372036854775808 ≤ cut ∧ cut ≤ 9223372036854775807) :
    Calls Try.prog 8 #[.slice a xs.length cap, .int .i64 cut] w fun e w' => e = .returned (.bool true) ∧ Below w.heap.size w w' := by
  obtain ⟨hc1, hc2⟩ := hc
  have hxl := hx.len
  simp only [List.length_map] at hxl
  have HX := Lib.hid hx
  have HB := Lib.hid hb
  clear hx hb
  go_enter Try.func8, Try.ntmps8
  go_wp2_with fail
  refine (snew_any 1 w (fun _ => 0)).mono ?_
  rintro e w1 ⟨b, rfl, o1, hs1, hS1⟩
  obtain ⟨w2, hw2⟩ : ∃ x, x = w1.alloc (.cells #[.slice none 0 0, .bool false, .int .i64 0, .slice none 0 0] 73) := ⟨_, rfl⟩
  obtain ⟨o2, ho2⟩ : ∃ x, newLab w1 o1 (10 * 2) = x := ⟨_, rfl⟩
  have hs2 : Step (fun _ => False) w1 o1 w2 o2 := by rw [hw2, ← ho2]; exact Step.newBlk _ _ _
  have hS2 : SesQ w2 o2 2 w1.heap.size newS := by rw [hw2, ← ho2]; exact SesAt.new
  obtain ⟨c, hc⟩ : ∃ c, w1.heap.size = c := ⟨_, rfl⟩
  rw [hc] at hS2
  have hd2 : Dat w2 o2 0 a cap (xs.map intV) := (Dat.step ⟨HX.out, fun _ _ _ _ => rfl⟩ hs1 (fun h => h)).step hs2 (fun h => h)
  have K2 := Lib.hid (ops_any a cap xs 31 w2 o2 hd2 HB.out (by decide))
  have HST2 := Lib.hid ((hs1.mono (L' := fun x => x ≠ 0) fun _ h => h.elim).trans (hs2.mono fun _ h => h.elim))
  have HS2 := Lib.hid (show Both w2 o2 1 2 b c newS from ⟨hS1.step hs2 fun _ _ h => h, hS2⟩)
  have HW2 := Lib.hid hw2
  have HC := Lib.hid hc
  clear hs1 hS1 hd2 hs2 hS2 hw2 ho2 hc
  go_wp2_with fail
  rw [HC.out, ← HW2.out]
  refine K2.out.mono ?_
  rintro e w3 ⟨v, o3, ops, rfl, hs3, hops, hlen⟩
  obtain ⟨ra, rc, rfl⟩ := hops.1.form
  have hle := hops.1.recAt.2.le
  have hcl := hops.1.recAt.2.cap_le
  obtain ⟨n, hn⟩ : ∃ n, ops.length = n := ⟨_, rfl⟩
  have hn30 : n ≤ 30 := by omega
  have hUW : UW w w3 o3 b c newS (.slice ra ops.length rc) ops := ⟨HST2.out.trans (hs3.mono fun l hl => by omega), HS2.out.step hs3 (fun l hl => by unfold Own2 Own at hl; omega), hops⟩
  rw [hn] at hUW hle ⊢
  have HN := Lib.hid hn
  have HUW := Lib.hid hUW
  have KA := Lib.hid (fun W => around_any cut ((n : Int) + 1) W (by omega) (by omega) hc1 hc2)
  obtain ⟨k, hkk, hkn⟩ : ∃ k : Nat, aroundI cut ((n : Int) + 1) = k ∧ k ≤ n := by
    have h1 := aroundI_lo cut ((n : Int) + 1) (by omega)
    have h2 := aroundI_hi cut ((n : Int) + 1) (by omega)
    exact ⟨(aroundI cut ((n : Int) + 1)).toNat, by omega, by omega⟩
  rw [hkk] at KA
  have iw1 : IntKind.i64.wrap ((n : Int) + 1) = (n : Int) + 1 := IntWalk.i64_in _ (by omega)
  clear hs3 hops hlen hn hUW K2 HST2 HS2 HW2 HC hkk
  go_wp2_with fail
  refine (KA.out w3).mono ?_
  rintro e w4 ⟨rfl, rfl⟩
  go_wp2_with fail
  go_loopw [9] (fun iv wr => ∃ (i : Nat) (o : Nat → Nat) (S : SesS), i ≤ k ∧ iv = .int .i64 i ∧ Hid (Good S) ∧ S.an.length ≤ 65 * i ∧ Hid (UW w wr o b c S (.slice ra n rc) ops)) (fun iv _ => 100 - (intOf iv).toNat)
  case atStart => exact ⟨0, o3, newS, by omega, rfl, good_new, by decide, HUW.out⟩
  case round =>
    clear HUW KA
    obtain ⟨i, o, S, hi, rfl, HG, han, HM⟩ := hrel
    by_cases hin : i < k
    · as_aux_lemma =>
      have d2 : decide (i < k) = true := decide_eq_true hin
      have d2' : decide ((i : Int) < (k : Int)) = true := decide_eq_true (by omega)
      obtain ⟨m, hm⟩ : ∃ m, ops[i]? = some m := ⟨ops[i]'(by rw [HN.out]; omega), List.getElem?_eq_getElem _⟩
      obtain ⟨g, oc, hsl, hgc, hgm, hop, hcells⟩ := HM.out.ops.cells hm
      rw [HN.out] at hgc
      simp only [Value.slice.injEq] at hsl
      obtain ⟨rfl, -, rfl⟩ := hsl
      have KA := Lib.hid (act_any 1 2 b c S m wr o (by omega) (by omega) (by omega) HM.out.both HG.out (by omega) hop)
      have HG2 := Lib.hid (good_op HG.out m)
      have hgr := op_grow HG.out m
      obtain ⟨T, hT⟩ : ∃ T, opS S m = T := ⟨_, rfl⟩
      rw [hT] at KA HG2 hgr
      have c0 := hcells 0 _ rfl
      have c1 := hcells 1 _ rfl
      have c2 := hcells 2 _ rfl
      have c3 := hcells 3 _ rfl
      have c4 := hcells 4 _ rfl
      have c5 := hcells 5 _ rfl
      have c6 := hcells 6 _ rfl
      have c7 := hcells 7 _ rfl
      have c8 := hcells 8 _ rfl
      have c9 := hcells 9 _ rfl
      simp only [Nat.add_zero] at c0
      have hin3 : (i : Int) < (n : Int) := by omega
      clear hcells hm hop hT
      obtain ⟨kd, ⟨ri, rk, rd, rv, rof, rt⟩, nn, ee, oa, oc2, ol⟩ := m
      simp only at c0 c1 c2 c3 c4 c5 c6 c7 c8 c9 KA
      go_wp2_with fail
      refine KA.out.mono ?_
      rintro e w2 ⟨rfl, o2, hs2, hS2⟩
      have HM2 := Lib.hid (HM.out.set hs2 hS2)
      clear hs2 hS2 c0 c1 c2 c3 c4 c5 c6 c7 c8 c9 KA
      go_wp2_with fail
      go_roundw
      case rel => exact ⟨i + 1, o2, T, by omega, by go_num, HG2.out, by omega, HM2.out⟩
      case measure => simp [intOf]; omega
    · have hik : i = k := by omega
      have d2 : decide (i < k) = false := decide_eq_false hin
      have d2' : decide ((i : Int) < (k : Int)) = false := decide_eq_false (by omega)
      clear hin
      subst hik
      have HL := Lib.hid HG.out.len
      have hrl := HL.out
      go_wp2_with fail
      refine (swaiting_any 1 b S wr o HM.out.both.ses (by omega)).mono ?_
      rintro e w2 ⟨v2, rfl, hown2, hb2⟩
      obtain ⟨wa, wc, rfl, hdw⟩ := Dat.ofRow (o := o) (l := 33) hown2
      obtain ⟨o2, ho2⟩ : ∃ x, newLab wr o 33 = x := ⟨_, rfl⟩
      rw [ho2] at hdw
      have hs2 : Step (fun _ => False) wr o w2 o2 := by rw [← ho2]; exact Step.below hb2 fun x hx => newLab_old _ _ _ hx
      have HM2 : Hid (UW w w2 o2 b c S (.slice ra n rc) ops) := ⟨HM.out.since.trans (hs2.mono fun _ h => h.elim), HM.out.both.step hs2 fun _ _ h => h, HM.out.ops.step hs2 (fun h => h) fun h => h⟩
      have HDW := Lib.hid hdw
      clear hown2 hb2 ho2 hs2 hdw HM
      go_wp2_with fail
      refine (copy_any 4 1 b S w2 o2 HM2.out.both.ses (by omega) (by omega)).mono ?_
      rintro e w3 ⟨cb, rfl, o3, hs3, hC3⟩
      have HM3 : Hid (UW w w3 o3 b c S (.slice ra n rc) ops) := ⟨HM2.out.since.trans (hs3.mono fun _ h => h.elim), HM2.out.both.step hs3 fun _ _ h => h, HM2.out.ops.step hs3 (fun h => h) fun h => h⟩
      have HDW3 := Lib.hid (HDW.out.step hs3 fun h => h)
      have HC3 := Lib.hid hC3
      obtain ⟨rv0, av0, q1, q2, q3⟩ := HM3.out.both.mod
      obtain ⟨qa, qc, rfl⟩ := q2.form
      obtain ⟨ya, yc, rfl⟩ := q3.form
      have HQ1 := Lib.hid q1
      have HQ2 := Lib.hid q2
      have HQ3 := Lib.hid q3
      have c0 := q1.cell (j := 0) rfl
      have c1 := q1.cell (j := 1) rfl
      have c2 := q1.cell (j := 2) rfl
      have c3 := q1.cell (j := 3) rfl
      have c0a := fun ob => Below.kept ((Below.refl _ w3).alloc (Nat.le_refl _) ob) (Nat.le_refl _) c0
      have c1a := fun ob => Below.kept ((Below.refl _ w3).alloc (Nat.le_refl _) ob) (Nat.le_refl _) c1
      have c2a := fun ob => Below.kept ((Below.refl _ w3).alloc (Nat.le_refl _) ob) (Nat.le_refl _) c2
      have c3a := fun ob => Below.kept ((Below.refl _ w3).alloc (Nat.le_refl _) ob) (Nat.le_refl _) c3
      obtain ⟨w4, hw4⟩ : ∃ x, x = w3.alloc (.cells #[.slice qa S.rq.length qc, .bool S.run, .int .i64 S.last, .slice ya S.an.length yc] 73) := ⟨_, rfl⟩
      obtain ⟨w5, hw5⟩ : ∃ x, x = w4.alloc (.cells #[.slice qa S.rq.length qc, .bool S.run, .int .i64 S.last, .slice ya S.an.length yc] 73) := ⟨_, rfl⟩
      obtain ⟨bx, hbx⟩ : ∃ x, w3.heap.size = x := ⟨_, rfl⟩
      obtain ⟨y, hy⟩ : ∃ x, bx + 1 = x := ⟨_, rfl⟩
      have hz4 : w4.heap.size = y := by rw [hw4, ← hy, ← hbx]; simp
      obtain ⟨o4, ho4⟩ : ∃ x, newLab w3 o3 20 = x := ⟨_, rfl⟩
      obtain ⟨o5, ho5⟩ : ∃ x, newLab w4 o4 99 = x := ⟨_, rfl⟩
      have hs4 : Step (fun _ => False) w3 o3 w4 o4 := by rw [hw4, ← ho4]; exact Step.newBlk _ _ _
      have hs5 : Step (fun _ => False) w4 o4 w5 o5 := by rw [hw5, ← ho5]; exact Step.newBlk _ _ _
      have hbx4 : Blk w4 o4 20 bx [.slice qa S.rq.length qc, .bool S.run, .int .i64 S.last, .slice ya S.an.length yc] := by rw [hw4, ← ho4, ← hbx]; exact ⟨_, heap_alloc_new _ _, newLab_new _ _ _ (Nat.le_refl _)⟩
      have hby5 : Blk w5 o5 99 y [.slice qa S.rq.length qc, .bool S.run, .int .i64 S.last, .slice ya S.an.length yc] := by rw [hw5, ← ho5, ← hz4]; exact ⟨_, heap_alloc_new _ _, newLab_new _ _ _ (Nat.le_refl _)⟩
      have h25 : RecL rqC 6 60 w5 o5 21 (.slice qa S.rq.length qc) S.rq := (RecL.step HQ2.out hs4 fun h => h).step hs5 fun h => h
      have h35 : RecL anC 4 84 w5 o5 22 (.slice ya S.an.length yc) S.an := (RecL.step HQ3.out hs4 fun h => h).step hs5 fun h => h
      have hV : VX w w5 w5 o5 b cb bx y (.slice qa S.rq.length qc) (.slice ya S.an.length yc) S ops i 0 (.slice qa S.rq.length qc) (.slice ya S.an.length yc) (.slice ra n rc) wa wc :=
        ⟨(HM3.out.since.trans (hs4.mono fun _ h => h.elim)).trans (hs5.mono fun _ h => h.elim), (HM3.out.ops.step hs4 (fun h => h) fun h => h).step hs5 (fun h => h) fun h => h, (HM3.out.both.ses.step hs4 fun _ _ h => h).step hs5 fun _ _ h => h, (HC3.out.step hs4 fun _ _ h => h).step hs5 fun _ _ h => h, XR.start ⟨hbx4.step hs5 fun h => h, h25, h35⟩, hby5, (HDW3.out.step hs4 fun h => h).step hs5 fun h => h⟩
      have HV := Lib.hid hV
      have H25 := Lib.hid h25
      have H35 := Lib.hid h35
      have HW45 := Lib.hid (show w5 = (w3.alloc (.cells #[.slice qa S.rq.length qc, .bool S.run, .int .i64 S.last, .slice ya S.an.length yc] 73)).alloc (.cells #[.slice qa S.rq.length qc, .bool S.run, .int .i64 S.last, .slice ya S.an.length yc] 73) by rw [hw5, hw4])
      have HBX := Lib.hid hbx
      have HBY := Lib.hid hy
      clear hs3 hC3 HM2 HDW q1 q2 q3 hw4 hw5 hbx hy hz4 ho4 ho5 hs4 hs5 hbx4 hby5 h25 h35 hV HM3 HDW3 HC3 HQ1 HQ2 HQ3
      go_wp2_with fail
      rw [← HW45.out, HBX.out, HBY.out]
      clear c0 c1 c2 c3 c0a c1a c2a c3a HW45 HBX HBY
      go_loopw [14] (fun jv wr => ∃ (t p : Nat) (o : Nat → Nat) (rvx avx : Value), t ≤ n - i ∧ i + t = p ∧ jv = .int .i64 p ∧ Hid (VX w w5 wr o b cb bx y (.slice qa S.rq.length qc) (.slice ya S.an.length yc) S ops i t rvx avx (.slice ra n rc) wa wc)) (fun jv _ => 100 - (intOf jv).toNat)
      case atStart => exact ⟨0, i, o5, _, _, by omega, rfl, rfl, HV.out⟩
      case round =>
        clear HV
        obtain ⟨t, p, o, rvx, avx, ht, hpt, rfl, HV⟩ := hrel
        by_cases htn : p < n
        · as_aux_lemma =>
          have d2 : decide (p < n) = true := decide_eq_true (by omega)
          have d2' : decide ((p : Int) < (n : Int)) = true := decide_eq_true (by omega)
          obtain ⟨m, hm⟩ : ∃ m, ops[i + t]? = some m := ⟨ops[i + t]'(by rw [HN.out]; omega), List.getElem?_eq_getElem _⟩
          obtain ⟨g, oc, hsl, hgc, hgm, hop, hcells⟩ := HV.out.opl.cells hm
          rw [HN.out] at hgc
          simp only [Value.slice.injEq] at hsl
          obtain ⟨rfl, -, rfl⟩ := hsl
          obtain ⟨hg1, hg2⟩ := stt_good HG.out ops i t
          have KA := Lib.hid (HV.out.call hg1 (by omega) hm hop)
          rw [hpt] at hcells
          have c0 := hcells 0 _ rfl
          have c1 := hcells 1 _ rfl
          have c2 := hcells 2 _ rfl
          have c3 := hcells 3 _ rfl
          have c4 := hcells 4 _ rfl
          have c5 := hcells 5 _ rfl
          have c6 := hcells 6 _ rfl
          have c7 := hcells 7 _ rfl
          have c8 := hcells 8 _ rfl
          have c9 := hcells 9 _ rfl
          simp only [Nat.add_zero] at c0
          have hin3 : (p : Int) < (n : Int) := by omega
          clear hcells hm hop hg1 hg2
          obtain ⟨kd, ⟨ri, rk, rd, rv, rof, rt⟩, nn, ee, oa, oc2, ol⟩ := m
          simp only at c0 c1 c2 c3 c4 c5 c6 c7 c8 c9 KA
          go_wp2_with fail
          refine KA.out.mono ?_
          rintro e w6 ⟨rfl, o6, rv6, av6, hv6⟩
          have HV6 := Lib.hid hv6
          clear hv6 c0 c1 c2 c3 c4 c5 c6 c7 c8 c9 KA
          go_wp2_with fail
          go_roundw
          case rel => exact ⟨t + 1, p + 1, o6, rv6, av6, by omega, by omega, by go_num, HV6.out⟩
          case measure => simp [intOf]; omega
        · have htT : t = n - i := by omega
          have d2 : decide (p < n) = false := decide_eq_false htn
          have d2' : decide ((p : Int) < (n : Int)) = false := decide_eq_false (by omega)
          obtain ⟨T, hT⟩ : ∃ T, n - i = T := ⟨_, rfl⟩
          rw [hT] at htT
          subst htT
          clear htn hpt
          go_wp2_with fail
          refine (swaiting_any 1 b S wr o HV.out.s (by omega)).mono ?_
          rintro e w6 ⟨v6, rfl, hown6, hb6⟩
          obtain ⟨a6, c6, rfl, hsl6⟩ := ownsRow_sliceMap hown6
          have HV6 := Lib.hid (HV.out.same hb6)
          have HS6 := Lib.hid hsl6
          clear hown6 hb6 hsl6 HV
          go_wp2_with fail
          refine (sameInts_any a6 wa c6 wc (idsR S.rq) (idsR S.rq) w6 HS6.out HV6.out.wi.slice).mono ?_
          rw [decide_eq_true rfl]
          rintro e w7 ⟨rfl, hb7⟩
          have HV7 := Lib.hid (HV6.out.same hb7)
          obtain ⟨o7, hvy⟩ := HV7.out.turn H25.out H35.out
          have HY := Lib.hid hvy
          have HXX := Lib.hid HV7.out.x.ses.2.2
          clear hb7 hvy HV6 HV7 H25 H35 HS6
          go_wp2_with fail
          go_loopw [15] (fun jv wr => ∃ (t' p : Nat) (o : Nat → Nat) (rvy avy : Value), t' ≤ t ∧ i + t' = p ∧ jv = .int .i64 p ∧ Hid (VY w wr o b cb bx y S ops i t' t rvx avx rvy avy (.slice ra n rc))) (fun jv _ => 100 - (intOf jv).toNat)
          case atStart => exact ⟨0, i, o7, _, _, by omega, rfl, rfl, HY.out⟩
          case round =>
            clear HY
            obtain ⟨t', p, o', rvy, avy, ht', hpt, rfl, HV⟩ := hrel
            by_cases htn : p < n
            · as_aux_lemma =>
              have d2 : decide (p < n) = true := decide_eq_true (by omega)
              have d2' : decide ((p : Int) < (n : Int)) = true := decide_eq_true (by omega)
              obtain ⟨m, hm⟩ : ∃ m, ops[i + t']? = some m := ⟨ops[i + t']'(by rw [HN.out]; omega), List.getElem?_eq_getElem _⟩
              obtain ⟨g, oc, hsl, hgc, hgm, hop, hcells⟩ := HV.out.opl.cells hm
              rw [HN.out] at hgc
              simp only [Value.slice.injEq] at hsl
              obtain ⟨rfl, -, rfl⟩ := hsl
              obtain ⟨hg1, hg2⟩ := stt_good HG.out ops i t'
              have KA := Lib.hid (HV.out.call (by omega) hg1 (by omega) hm hop)
              rw [hpt] at hcells
              have c0 := hcells 0 _ rfl
              have c1 := hcells 1 _ rfl
              have c2 := hcells 2 _ rfl
              have c3 := hcells 3 _ rfl
              have c4 := hcells 4 _ rfl
              have c5 := hcells 5 _ rfl
              have c6 := hcells 6 _ rfl
              have c7 := hcells 7 _ rfl
              have c8 := hcells 8 _ rfl
              have c9 := hcells 9 _ rfl
              simp only [Nat.add_zero] at c0
              have hin3 : (p : Int) < (n : Int) := by omega
              clear hcells hm hop hg1 hg2
              obtain ⟨kd, ⟨ri, rk, rd, rv, rof, rt⟩, nn, ee, oa, oc2, ol⟩ := m
              simp only at c0 c1 c2 c3 c4 c5 c6 c7 c8 c9 KA
              go_wp2_with fail
              refine KA.out.mono ?_
              rintro e w6 ⟨rfl, o6, rv6, av6, hv6⟩
              have HV6 := Lib.hid hv6
              clear hv6 c0 c1 c2 c3 c4 c5 c6 c7 c8 c9 KA
              go_wp2_with fail
              go_roundw
              case rel => exact ⟨t' + 1, p + 1, o6, rv6, av6, by omega, by omega, by go_num, HV6.out⟩
              case measure => simp [intOf]; omega
            · have htt : t' = t := by omega
              have d2 : decide (p < n) = false := decide_eq_false htn
              have d2' : decide ((p : Int) < (n : Int)) = false := decide_eq_false (by omega)
              subst htt
              clear htn hpt
              obtain ⟨hg1, hg2⟩ := stt_good HG.out ops i t'
              have hlen := hg1.len
              clear hg1 hg2
              have hd := Below.drew (Below.refl wr.heap.size wr)
              have HVD := Lib.hid (HV.out.same hd)
              clear hd HV
              obtain ⟨y1, y2, y3⟩ := HVD.out.y
              obtain ⟨aq, cq, rfl⟩ := y3.form
              obtain ⟨ax, cx, rfl⟩ := RecL.form HXX.out
              have HYB := Lib.hid y1
              have HYA := Lib.hid y3
              have HXB := Lib.hid HVD.out.x
              have HD := Lib.hid HVD.out.d
              have HSS := Lib.hid HVD.out.s
              have HCC := Lib.hid HVD.out.c
              have HSI := Lib.hid HVD.out.since
              clear y1 y2 y3 HVD
              obtain ⟨X, hX⟩ : ∃ X, stt S ops i t' = X := ⟨_, rfl⟩
              rw [hX] at hlen HYB HYA HXB HSS HCC HXX
              have HXE := Lib.hid hX
              clear hX
              have HS0 : Hid (wr.drew.cell? ⟨y, 3, none⟩ = some (.slice aq X.an.length cq) ∧ wr.drew.cell? ⟨bx, 3, none⟩ = some (.slice ax X.an.length cx)) := ⟨HYB.out.cell (j := 3) rfl, HXB.out.cell (j := 3) rfl⟩
              go_wp2_with fail
              refine wp_region_held_drew (S := fun W => W.cell? ⟨y, 3, none⟩ = some (.slice aq X.an.length cq) ∧ W.cell? ⟨bx, 3, none⟩ = some (.slice ax X.an.length cx)) (by kernel_rfl) (HS0.out) (fun h0 => ?_)
              (first | ((refine wpAnyH_take (i := 0) (oi := ⟨_, _, _, _, _, _⟩) (v := ?_) rfl (by kernel_rfl) (by kernel_rfl) (by kernel_rfl) (fun _ _ _ h => h) (Or.inl ⟨by rfl, ?_⟩) (by assumption) ?_); rotate_left; focus ((intro w hSw); (try dsimp only at hSw); go_simp; all_goals (with_reducible rfl))) | (refine wpAnyH_take (i := 0) (oi := ⟨_, _, _, _, _, _⟩) (v := undef) rfl (by kernel_rfl) (by kernel_rfl) (by kernel_rfl) (fun _ _ _ h => h) (Or.inr ⟨by rfl, rfl⟩) (by assumption) ?_))
              try simp only [Act.put, List.setIfInBounds_toArray, List.set_cons_zero, List.set_cons_succ]
              (first | ((refine wpAnyH_take (i := 2) (oi := ⟨_, _, _, _, _, _⟩) (v := ?_) rfl (by kernel_rfl) (by kernel_rfl) (by kernel_rfl) (fun _ _ _ h => h) (Or.inl ⟨by rfl, ?_⟩) (by assumption) ?_); rotate_left; focus ((intro w hSw); (try dsimp only at hSw); go_simp; all_goals (with_reducible rfl))) | (refine wpAnyH_take (i := 2) (oi := ⟨_, _, _, _, _, _⟩) (v := undef) rfl (by kernel_rfl) (by kernel_rfl) (by kernel_rfl) (fun _ _ _ h => h) (Or.inr ⟨by rfl, rfl⟩) (by assumption) ?_))
              try simp only [Act.put, List.setIfInBounds_toArray, List.set_cons_zero, List.set_cons_succ]
              refine wpAnyH_ready (rs := [1]) (by kernel_rfl) (by simp) ?_
              refine AllReadyH.cons (o := ⟨_, _, _, _, _, _⟩) rfl (fun K hK => ?_) ?_
              · go_simp
                (with_reducible refine (swaiting_any 1 b X wr.drew o' HSS.out (by omega)).mono ?_)
                rintro e w6 ⟨v6, rfl, hown6, hb6⟩
                obtain ⟨a6, c6, rfl, hsl6⟩ := ownsRow_sliceMap hown6
                have HL6 := Lib.hid hsl6
                have HYB1 := Lib.hid (HYB.out.step (Step.same (L := fun _ => False) hb6) fun h => h)
                have HXB1 := Lib.hid (HXB.out.step (Step.same (L := fun _ => False) hb6) fun h => h)
                have HD1 := Lib.hid (HD.out.same hb6)
                have HSI1 := Lib.hid (HSI.out.trans (Step.same hb6))
                have HYA1 := Lib.hid (HYA.out.step (Step.same (L := fun _ => False) hb6) fun h => h)
                have HSS1 := Lib.hid (HSS.out.same hb6)
                have HCC1 := Lib.hid (HCC.out.same hb6)
                clear hown6 hsl6 hb6
                go_wp2_with fail
                refine hK.out _ _ ⟨HYB1.out.cell (j := 3) rfl, HXB1.out.cell (j := 3) rfl⟩ (fun h1 => ?_)
                clear hK K
                try simp only [Act.put, List.setIfInBounds_toArray, List.set_cons_zero, List.set_cons_succ]
                refine wpAnyH_ready (rs := [3]) (by kernel_rfl) (by simp) ?_
                refine AllReadyH.cons (o := ⟨_, _, _, _, _, _⟩) rfl (fun K hK => ?_) ?_
                · go_simp
                  (with_reducible refine (swaiting_any 4 cb X w6 o' HCC1.out (by omega)).mono ?_)
                  rintro e w7 ⟨v7, rfl, hown7, hb7⟩
                  obtain ⟨a7, c7, rfl, hsl7⟩ := ownsRow_sliceMap hown7
                  have HL7 := Lib.hid hsl7
                  have HL67 := Lib.hid (HL6.out.below hb7)
                  have HYB2 := Lib.hid (HYB1.out.step (Step.same (L := fun _ => False) hb7) fun h => h)
                  have HXB2 := Lib.hid (HXB1.out.step (Step.same (L := fun _ => False) hb7) fun h => h)
                  have HD2 := Lib.hid (HD1.out.same hb7)
                  have HSI2 := Lib.hid (HSI1.out.trans (Step.same hb7))
                  have HYA2 := Lib.hid (HYA1.out.step (Step.same (L := fun _ => False) hb7) fun h => h)
                  have HSS2 := Lib.hid (HSS1.out.same hb7)
                  have HCC2 := Lib.hid (HCC1.out.same hb7)
                  clear hown7 hsl7 hb7
                  go_wp2_with fail
                  refine hK.out _ _ ⟨HYB2.out.cell (j := 3) rfl, HXB2.out.cell (j := 3) rfl⟩ (fun h2 => ?_)
                  clear hK K
                  try simp only [Act.put, List.setIfInBounds_toArray, List.set_cons_zero, List.set_cons_succ]
                  refine wpAnyH_ready (rs := [4]) (by kernel_rfl) (by simp) ?_
                  refine AllReadyH.cons (o := ⟨_, _, _, _, _, _⟩) rfl (fun K hK => ?_) ?_
                  · go_simp
                    (with_reducible refine (sameInts_any a6 a7 c6 c7 (idsR X.rq) (idsR X.rq) w7 HL67.out HL7.out).mono ?_)
                    rw [decide_eq_true rfl]
                    rintro e w8 ⟨rfl, hb8⟩
                    have HYB3 := Lib.hid (HYB2.out.step (Step.same (L := fun _ => False) hb8) fun h => h)
                    have HXB3 := Lib.hid (HXB2.out.step (Step.same (L := fun _ => False) hb8) fun h => h)
                    have HD3 := Lib.hid (HD2.out.same hb8)
                    have HSI3 := Lib.hid (HSI2.out.trans (Step.same hb8))
                    have HYA3 := Lib.hid (HYA2.out.step (Step.same (L := fun _ => False) hb8) fun h => h)
                    have HSS3 := Lib.hid (HSS2.out.same hb8)
                    have HCC3 := Lib.hid (HCC2.out.same hb8)
                    clear hb8
                    go_wp2_with fail
                    refine hK.out _ _ ⟨HYB3.out.cell (j := 3) rfl, HXB3.out.cell (j := 3) rfl⟩ (fun h3 => ?_)
                    clear hK K
                    try simp only [Act.put, List.setIfInBounds_toArray, List.set_cons_zero, List.set_cons_succ]
                    (first | ((refine wpAnyH_take (i := 5) (oi := ⟨_, _, _, _, _, _⟩) (v := ?_) rfl (by kernel_rfl) (by kernel_rfl) (by kernel_rfl) (fun _ _ _ h => h) (Or.inl ⟨by rfl, ?_⟩) (by assumption) ?_); rotate_left; focus ((intro w hSw); (try dsimp only at hSw); go_simp; all_goals (with_reducible rfl))) | (refine wpAnyH_take (i := 5) (oi := ⟨_, _, _, _, _, _⟩) (v := undef) rfl (by kernel_rfl) (by kernel_rfl) (by kernel_rfl) (fun _ _ _ h => h) (Or.inr ⟨by rfl, rfl⟩) (by assumption) ?_))
                    try simp only [Act.put, List.setIfInBounds_toArray, List.set_cons_zero, List.set_cons_succ]
                    (first | ((refine wpAnyH_take (i := 6) (oi := ⟨_, _, _, _, _, _⟩) (v := ?_) rfl (by kernel_rfl) (by kernel_rfl) (by kernel_rfl) (fun _ _ _ h => h) (Or.inl ⟨by rfl, ?_⟩) (by assumption) ?_); rotate_left; focus ((intro w hSw); (try dsimp only at hSw); go_simp; all_goals (with_reducible rfl))) | (refine wpAnyH_take (i := 6) (oi := ⟨_, _, _, _, _, _⟩) (v := undef) rfl (by kernel_rfl) (by kernel_rfl) (by kernel_rfl) (fun _ _ _ h => h) (Or.inr ⟨by rfl, rfl⟩) (by assumption) ?_))
                    try simp only [Act.put, List.setIfInBounds_toArray, List.set_cons_zero, List.set_cons_succ]
                    (first | ((refine wpAnyH_take (i := 8) (oi := ⟨_, _, _, _, _, _⟩) (v := ?_) rfl (by kernel_rfl) (by kernel_rfl) (by kernel_rfl) (fun _ _ _ h => h) (Or.inl ⟨by rfl, ?_⟩) (by assumption) ?_); rotate_left; focus ((intro w hSw); (try dsimp only at hSw); go_simp; all_goals (with_reducible rfl))) | (refine wpAnyH_take (i := 8) (oi := ⟨_, _, _, _, _, _⟩) (v := undef) rfl (by kernel_rfl) (by kernel_rfl) (by kernel_rfl) (fun _ _ _ h => h) (Or.inr ⟨by rfl, rfl⟩) (by assumption) ?_))
                    try simp only [Act.put, List.setIfInBounds_toArray, List.set_cons_zero, List.set_cons_succ]
                    (first | ((refine wpAnyH_take (i := 9) (oi := ⟨_, _, _, _, _, _⟩) (v := ?_) rfl (by kernel_rfl) (by kernel_rfl) (by kernel_rfl) (fun _ _ _ h => h) (Or.inl ⟨by rfl, ?_⟩) (by assumption) ?_); rotate_left; focus ((intro w hSw); (try dsimp only at hSw); go_simp; all_goals (with_reducible rfl))) | (refine wpAnyH_take (i := 9) (oi := ⟨_, _, _, _, _, _⟩) (v := undef) rfl (by kernel_rfl) (by kernel_rfl) (by kernel_rfl) (fun _ _ _ h => h) (Or.inr ⟨by rfl, rfl⟩) (by assumption) ?_))
                    try simp only [Act.put, List.setIfInBounds_toArray, List.set_cons_zero, List.set_cons_succ]
                    refine wpAnyH_ready (rs := [7]) (by kernel_rfl) (by simp) ?_
                    refine AllReadyH.cons (o := ⟨_, _, _, _, _, _⟩) rfl (fun K hK => ?_) ?_
                    · go_simp
                      (with_reducible refine (answers_any 1 b X w8 o' (by omega) HSS3.out).mono ?_)
                      rintro e w9 ⟨v9, rfl, hs9, -, hrow9⟩
                      obtain ⟨xa, xc, rfl, hrec9⟩ := hrow9.at
                      have HA9 := Lib.hid hrec9
                      have HYB4 := Lib.hid (HYB3.out.step hs9 (by unfold Own; omega))
                      have HXB4 := Lib.hid (HXB3.out.step hs9 (by unfold Own; omega))
                      have HD4 := Lib.hid (HD3.out.step hs9 (by unfold Own; omega))
                      have HSI4 := Lib.hid (HSI3.out.trans (hs9.mono fun l h e => by unfold Own at h; omega))
                      have HYA4 := Lib.hid (HYA3.out.step hs9 (by unfold Own; omega))
                      have HCC4 := Lib.hid (HCC3.out.step hs9 (fun l h => by unfold Own at *; omega))
                      clear hs9 hrow9 hrec9
                      go_wp2_with fail
                      refine hK.out _ _ ⟨HYB4.out.cell (j := 3) rfl, HXB4.out.cell (j := 3) rfl⟩ (fun h4 => ?_)
                      clear hK K
                      try simp only [Act.put, List.setIfInBounds_toArray, List.set_cons_zero, List.set_cons_succ]
                      refine wpAnyH_ready (rs := [10]) (by kernel_rfl) (by simp) ?_
                      refine AllReadyH.cons (o := ⟨_, _, _, _, _, _⟩) rfl (fun K hK => ?_) ?_
                      · go_simp
                        (with_reducible refine (sameA_any xa aq xc cq X.an w9 HA9.out HYA4.out.recAt.2).mono ?_)
                        rintro e w10 ⟨rfl, hb10⟩
                        have HYB5 := Lib.hid (HYB4.out.step (Step.same (L := fun _ => False) hb10) fun h => h)
                        have HXB5 := Lib.hid (HXB4.out.step (Step.same (L := fun _ => False) hb10) fun h => h)
                        have HD5 := Lib.hid (HD4.out.same hb10)
                        have HSI5 := Lib.hid (HSI4.out.trans (Step.same hb10))
                        have HCC5 := Lib.hid (HCC4.out.same hb10)
                        clear hb10
                        go_wp2_with fail
                        refine hK.out _ _ ⟨HYB5.out.cell (j := 3) rfl, HXB5.out.cell (j := 3) rfl⟩ (fun h5 => ?_)
                        clear hK K
                        try simp only [Act.put, List.setIfInBounds_toArray, List.set_cons_zero, List.set_cons_succ]
                        (first | ((refine wpAnyH_take (i := 11) (oi := ⟨_, _, _, _, _, _⟩) (v := ?_) rfl (by kernel_rfl) (by kernel_rfl) (by kernel_rfl) (fun _ _ _ h => h) (Or.inl ⟨by rfl, ?_⟩) (by assumption) ?_); rotate_left; focus ((intro w hSw); (try dsimp only at hSw); go_simp; all_goals (with_reducible rfl))) | (refine wpAnyH_take (i := 11) (oi := ⟨_, _, _, _, _, _⟩) (v := undef) rfl (by kernel_rfl) (by kernel_rfl) (by kernel_rfl) (fun _ _ _ h => h) (Or.inr ⟨by rfl, rfl⟩) (by assumption) ?_))
                        try simp only [Act.put, List.setIfInBounds_toArray, List.set_cons_zero, List.set_cons_succ]
                        (first | ((refine wpAnyH_take (i := 12) (oi := ⟨_, _, _, _, _, _⟩) (v := ?_) rfl (by kernel_rfl) (by kernel_rfl) (by kernel_rfl) (fun _ _ _ h => h) (Or.inl ⟨by rfl, ?_⟩) (by assumption) ?_); rotate_left; focus ((intro w hSw); (try dsimp only at hSw); go_simp; all_goals (with_reducible rfl))) | (refine wpAnyH_take (i := 12) (oi := ⟨_, _, _, _, _, _⟩) (v := undef) rfl (by kernel_rfl) (by kernel_rfl) (by kernel_rfl) (fun _ _ _ h => h) (Or.inr ⟨by rfl, rfl⟩) (by assumption) ?_))
                        try simp only [Act.put, List.setIfInBounds_toArray, List.set_cons_zero, List.set_cons_succ]
                        (first | ((refine wpAnyH_take (i := 13) (oi := ⟨_, _, _, _, _, _⟩) (v := ?_) rfl (by kernel_rfl) (by kernel_rfl) (by kernel_rfl) (fun _ _ _ h => h) (Or.inl ⟨by rfl, ?_⟩) (by assumption) ?_); rotate_left; focus ((intro w hSw); (try dsimp only at hSw); go_simp; all_goals (with_reducible rfl))) | (refine wpAnyH_take (i := 13) (oi := ⟨_, _, _, _, _, _⟩) (v := undef) rfl (by kernel_rfl) (by kernel_rfl) (by kernel_rfl) (fun _ _ _ h => h) (Or.inr ⟨by rfl, rfl⟩) (by assumption) ?_))
                        try simp only [Act.put, List.setIfInBounds_toArray, List.set_cons_zero, List.set_cons_succ]
                        (first | ((refine wpAnyH_take (i := 15) (oi := ⟨_, _, _, _, _, _⟩) (v := ?_) rfl (by kernel_rfl) (by kernel_rfl) (by kernel_rfl) (fun _ _ _ h => h) (Or.inl ⟨by rfl, ?_⟩) (by assumption) ?_); rotate_left; focus ((intro w hSw); (try dsimp only at hSw); go_simp; all_goals (with_reducible rfl))) | (refine wpAnyH_take (i := 15) (oi := ⟨_, _, _, _, _, _⟩) (v := undef) rfl (by kernel_rfl) (by kernel_rfl) (by kernel_rfl) (fun _ _ _ h => h) (Or.inr ⟨by rfl, rfl⟩) (by assumption) ?_))
                        try simp only [Act.put, List.setIfInBounds_toArray, List.set_cons_zero, List.set_cons_succ]
                        (first | ((refine wpAnyH_take (i := 16) (oi := ⟨_, _, _, _, _, _⟩) (v := ?_) rfl (by kernel_rfl) (by kernel_rfl) (by kernel_rfl) (fun _ _ _ h => h) (Or.inl ⟨by rfl, ?_⟩) (by assumption) ?_); rotate_left; focus ((intro w hSw); (try dsimp only at hSw); go_simp; all_goals (with_reducible rfl))) | (refine wpAnyH_take (i := 16) (oi := ⟨_, _, _, _, _, _⟩) (v := undef) rfl (by kernel_rfl) (by kernel_rfl) (by kernel_rfl) (fun _ _ _ h => h) (Or.inr ⟨by rfl, rfl⟩) (by assumption) ?_))
                        try simp only [Act.put, List.setIfInBounds_toArray, List.set_cons_zero, List.set_cons_succ]
                        refine wpAnyH_ready (rs := [14]) (by kernel_rfl) (by simp) ?_
                        refine AllReadyH.cons (o := ⟨_, _, _, _, _, _⟩) rfl (fun K hK => ?_) ?_
                        · go_simp
                          (with_reducible refine (answers_any 4 cb X w10 o' (by omega) HCC5.out).mono ?_)
                          rintro e w11 ⟨v11, rfl, hs11, -, hrow11⟩
                          obtain ⟨ua, uc, rfl, hrec11⟩ := hrow11.at
                          have HA11 := Lib.hid hrec11
                          have HYB6 := Lib.hid (HYB5.out.step hs11 (by unfold Own; omega))
                          have HXB6 := Lib.hid (HXB5.out.step hs11 (by unfold Own; omega))
                          have HD6 := Lib.hid (HD5.out.step hs11 (by unfold Own; omega))
                          have HSI6 := Lib.hid (HSI5.out.trans (hs11.mono fun l h e => by unfold Own at h; omega))
                          have HRX := Lib.hid (show RecAt anC 4 w11 ax cx X.an from by have h := HD6.out; rw [HXE.out] at h; exact h.recAt HXX.out)
                          clear hs11 hrow11 hrec11
                          go_wp2_with fail
                          refine hK.out _ _ ⟨HYB6.out.cell (j := 3) rfl, HXB6.out.cell (j := 3) rfl⟩ (fun h6 => ?_)
                          clear hK K
                          try simp only [Act.put, List.setIfInBounds_toArray, List.set_cons_zero, List.set_cons_succ]
                          refine wpAnyH_ready (rs := [17]) (by kernel_rfl) (by simp) ?_
                          refine AllReadyH.cons (o := ⟨_, _, _, _, _, _⟩) rfl (fun K hK => ?_) ?_
                          · go_simp
                            (with_reducible refine (sameA_any ua ax uc cx X.an w11 HA11.out HRX.out).mono ?_)
                            rintro e w12 ⟨rfl, hb12⟩
                            have HYB7 := Lib.hid (HYB6.out.step (Step.same (L := fun _ => False) hb12) fun h => h)
                            have HXB7 := Lib.hid (HXB6.out.step (Step.same (L := fun _ => False) hb12) fun h => h)
                            have HSI7 := Lib.hid (HSI6.out.trans (Step.same hb12))
                            clear hb12
                            go_wp2_with fail
                            refine hK.out _ _ ⟨HYB7.out.cell (j := 3) rfl, HXB7.out.cell (j := 3) rfl⟩ (fun h7 => ?_)
                            clear hK K
                            try simp only [Act.put, List.setIfInBounds_toArray, List.set_cons_zero, List.set_cons_succ]
                            (first | ((refine wpAnyH_take (i := 18) (oi := ⟨_, _, _, _, _, _⟩) (v := ?_) rfl (by kernel_rfl) (by kernel_rfl) (by kernel_rfl) (fun _ _ _ h => h) (Or.inl ⟨by rfl, ?_⟩) (by assumption) ?_); rotate_left; focus ((intro w hSw); (try dsimp only at hSw); go_simp; all_goals (with_reducible rfl))) | (refine wpAnyH_take (i := 18) (oi := ⟨_, _, _, _, _, _⟩) (v := undef) rfl (by kernel_rfl) (by kernel_rfl) (by kernel_rfl) (fun _ _ _ h => h) (Or.inr ⟨by rfl, rfl⟩) (by assumption) ?_))
                            try simp only [Act.put, List.setIfInBounds_toArray, List.set_cons_zero, List.set_cons_succ]
                            (first | ((refine wpAnyH_take (i := 19) (oi := ⟨_, _, _, _, _, _⟩) (v := ?_) rfl (by kernel_rfl) (by kernel_rfl) (by kernel_rfl) (fun _ _ _ h => h) (Or.inl ⟨by rfl, ?_⟩) (by assumption) ?_); rotate_left; focus ((intro w hSw); (try dsimp only at hSw); go_simp; all_goals (with_reducible rfl))) | (refine wpAnyH_take (i := 19) (oi := ⟨_, _, _, _, _, _⟩) (v := undef) rfl (by kernel_rfl) (by kernel_rfl) (by kernel_rfl) (fun _ _ _ h => h) (Or.inr ⟨by rfl, rfl⟩) (by assumption) ?_))
                            try simp only [Act.put, List.setIfInBounds_toArray, List.set_cons_zero, List.set_cons_succ]
                            refine wpAnyH_ready (rs := [20]) (by kernel_rfl) (by simp) ?_
                            refine AllReadyH.cons (o := ⟨_, _, _, _, _, _⟩) rfl (fun K hK => ?_) ?_
                            · go_simp
                              (with_reducible refine (lives_any w12).mono ?_)
                              rintro e w13 ⟨rfl, hb13⟩
                              have HYB8 := Lib.hid (HYB7.out.step (Step.same (L := fun _ => False) hb13) fun h => h)
                              have HXB8 := Lib.hid (HXB7.out.step (Step.same (L := fun _ => False) hb13) fun h => h)
                              have HSI8 := Lib.hid (HSI7.out.trans (Step.same hb13))
                              clear hb13
                              go_wp2_with fail
                              refine hK.out _ _ ⟨HYB8.out.cell (j := 3) rfl, HXB8.out.cell (j := 3) rfl⟩ (fun h8 => ?_)
                              clear hK K
                              try simp only [Act.put, List.setIfInBounds_toArray, List.set_cons_zero, List.set_cons_succ]
                              (first | ((refine wpAnyH_take (i := 21) (oi := ⟨_, _, _, _, _, _⟩) (v := ?_) rfl (by kernel_rfl) (by kernel_rfl) (by kernel_rfl) (fun _ _ _ h => h) (Or.inl ⟨by rfl, ?_⟩) (by assumption) ?_); rotate_left; focus ((intro w hSw); (try dsimp only at hSw); go_simp; all_goals (with_reducible rfl))) | (refine wpAnyH_take (i := 21) (oi := ⟨_, _, _, _, _, _⟩) (v := undef) rfl (by kernel_rfl) (by kernel_rfl) (by kernel_rfl) (fun _ _ _ h => h) (Or.inr ⟨by rfl, rfl⟩) (by assumption) ?_))
                              try simp only [Act.put, List.setIfInBounds_toArray, List.set_cons_zero, List.set_cons_succ]
                              (first | ((refine wpAnyH_take (i := 22) (oi := ⟨_, _, _, _, _, _⟩) (v := ?_) rfl (by kernel_rfl) (by kernel_rfl) (by kernel_rfl) (fun _ _ _ h => h) (Or.inl ⟨by rfl, ?_⟩) (by assumption) ?_); rotate_left; focus ((intro w hSw); (try dsimp only at hSw); go_simp; all_goals (with_reducible rfl))) | (refine wpAnyH_take (i := 22) (oi := ⟨_, _, _, _, _, _⟩) (v := undef) rfl (by kernel_rfl) (by kernel_rfl) (by kernel_rfl) (fun _ _ _ h => h) (Or.inr ⟨by rfl, rfl⟩) (by assumption) ?_))
                              try simp only [Act.put, List.setIfInBounds_toArray, List.set_cons_zero, List.set_cons_succ]
                              refine wpAnyH_done (by kernel_rfl) ?_ _
                              clear h0 h1 h2 h3 h4 h5 h6 h7 h8
                              go_wp2_with fail
                              go_ret
                              exact ⟨rfl, HSI8.out.toBelow (Nat.le_refl _) fun k _ h => h rfl⟩
                            exact AllReadyH.nil
                          exact AllReadyH.nil
                        exact AllReadyH.nil
                      exact AllReadyH.nil
                    exact AllReadyH.nil
                  exact AllReadyH.nil
                exact AllReadyH.nil
              exact AllReadyH.nil
end Go.Proofs.Ytaonhmdifinadaa
