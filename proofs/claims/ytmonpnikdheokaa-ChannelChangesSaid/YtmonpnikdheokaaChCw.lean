/-
  The walk of the law ChannelChanges.
-/
import Derived.Test.YtmonpnikdheokaaChCa
import Derived.StillTailTactics
import Derived.Deep.CutBlock
namespace Go.Proofs.Ytmonpnikdheokaa
open Go Go.Proofs
open Go.RowKit
set_option linter.unusedVariables false
set_option linter.unusedSimpArgs false

theorem wr_newC (w : World) (o : Nat → Nat) (i t : Nat) : WrAt (w.alloc (.cells #[.slice none 0 0] t)) (newLab w o (10 * i)) i w.heap.size [] :=
  ⟨_, ⟨_, heap_alloc_new _ _, newLab_new _ _ _ (Nat.le_refl _)⟩, RowL.nil _ _ _ _ _⟩
theorem step_newC (w : World) (o : Nat → Nat) (l : Nat) (ob : Obj) : Step (fun _ => False) w o (w.alloc ob) (newLab w o l) := Step.below ((Below.refl _ _).alloc (Nat.le_refl _) _) fun k hk => newLab_old _ _ _ hk

set_option maxRecDepth 100000 in
set_option maxHeartbeats 16000000 in
theorem channelChanges_walk (a : Option Addr) (c : Nat) (xs : List Int) (window : Int) (a2 : Option Addr) (c2 : Nat) (ys : List Int) (w : World)
    (hx : SliceAt w a c (xs.map intV)) (hxb : ∀ n ∈ xs, -9223372036854775808 ≤ n ∧ n ≤ 9223372036854775807) (h0 : -9223372036854775808 ≤ window ∧ window ≤ 9223372036854775807) (hy : SliceAt w a2 c2 (ys.map intV)) (hyb : ∀ n ∈ ys, -9223372036854775808 ≤ n ∧ n ≤ 9223372036854775807) :
    Calls Try.prog 8 #[.slice a xs.length c, .int .i64 window, .slice a2 ys.length c2] w fun e w' => e = .returned (.bool true) ∧ Below w.heap.size w w' := by
  have hylm := hy.len
  simp only [List.length_map] at hylm
  have qn := fun (wx : World) (ad : Addr) => Lib.run_eql_slice_nil (P := Try.prog) wx 23 33 (some ad) 2 2 0 0 Try.underlying23
  have K1 := Lib.hid (chain_any a c xs w hx hxb)
  have KP := Lib.hid fun (W : World) (hW : Below w.heap.size w W) (i m : Int) (h1 : 1 ≤ m) (h2 : m ≤ 9223372036854775807) (hi : 0 ≤ i) (hi2 : i ≤ 1000000) => pick_b a2 c2 ys i m W (hy.below hW) hyb h1 h2 hi hi2
  clear hx hxb hy hyb
  generalize ys.length = yl at *
  go_enter Try.func8, Try.ntmps8
  go_wp2_with fail
  refine K1.out.mono ?_
  rintro e w1 ⟨l, l', v, vs, cs, rfl, hll, hch, hc6, hrow, hcs, hb1⟩
  obtain ⟨av, cv, rfl, hrat⟩ := ownsRow_row hrow
  obtain ⟨ts, hts, hts0⟩ := chain_texts (by omega) hch
  have hvl : vs.length = cs.length := hcs.1
  have hrc := hrat.2.1
  have hrm := hrat.2.2.1
  have HRAT := Lib.hid hrat
  have HCS := Lib.hid hcs
  have HTS := Lib.hid hts
  have HB1 := Lib.hid hb1
  obtain ⟨n, hn⟩ : ∃ n, cs.length = n := ⟨_, rfl⟩
  rw [hvl, hn] at hrc ⊢
  rw [hn] at hc6
  have HVL := Lib.hid hvl
  have HN := Lib.hid hn
  clear hch hrow hcs hb1 hrat hvl hn hts K1
  go_wp2_with fail
  refine (ends_any window w1 h0.1 h0.2).mono ?_
  rintro e w2 ⟨eb, b1, b2, o2, rfl, hT2, hE2⟩
  have hW1 := winN_lo window
  have hW2 := winN_hi window
  have hW3 := winN_lo (window.tdiv 16)
  have hW4 := winN_hi (window.tdiv 16)
  generalize winN window = W0 at *
  generalize winN (window.tdiv 16) = W9 at *
  have HT2 := Lib.hid hT2
  have HE2 := Lib.hid hE2
  clear hT2 hE2
  go_wp2_with fail
  refine (docNew_any l 5 w2 o2 (by omega)).mono ?_
  rintro e w3 ⟨da, rfl, o3, hs3, hd3⟩
  have HS3 := Lib.hid hs3
  have HD3 := Lib.hid hd3
  clear hs3 hd3
  go_wp2_with fail
  refine (docNew_any l 6 w3 o3 (by omega)).mono ?_
  rintro e w4 ⟨db, rfl, o4, hs4, hd4⟩
  have hts1 : ts.take (0 + 1) = [l] := by
    have := HTS.out.len
    cases ts with
    | nil => simp at this
    | cons t tl => simp at hts0; subst hts0; rfl
  have hCW : CW w1 w4 o4 b1 b2 (newE W0) (newE W9) eb da db 0 0 ts :=
    ⟨(HT2.out.step HS3.out fun _ _ h => h).step hs4 fun _ _ h => h, (HE2.out.step HS3.out fun h => h).step hs4 fun h => h, by rw [hts1]; exact HD3.out.step hs4 fun _ _ h => h, by rw [hts1]; exact hd4⟩
  have HCW := Lib.hid hCW
  have HFA := Lib.hid (Fit.new hW1 hW2)
  have HFB := Lib.hid (Fit.new hW3 hW4)
  have HCH := Lib.hid (show ChS (msgsI 0) (newE W0) (newE W9) from ChS.new W0 W9)
  have hV1 := hW3
  clear hs4 hd4 hCW HS3 HD3 HT2 HE2 hts0 hts1
  go_wp2_with fail
  -- THE SENDS
  go_loopw [14] (fun iv wr => ∃ (k : Nat) (o : Nat → Nat) (A : EndS), k ≤ n ∧ iv = .int .i64 k ∧ Hid (A.window = W0 ∧ Fit A 0 ∧ ChS (msgsI k) A (newE W9)) ∧ Hid (CW w1 wr o b1 b2 A (newE W9) eb da db k 0 ts)) (fun iv _ => n - (intOf iv).toNat)
  case atStart => exact ⟨0, o4, newE W0, by omega, rfl, ⟨rfl, HFA.out, HCH.out⟩, HCW.out⟩
  case round =>
    clear HCW HCH HFA
    obtain ⟨k, o, A, hk, rfl, HI, HM⟩ := hrel
    by_cases hkn : k < n
    · have d1 : decide ((k : Int) < (n : Int)) = true := decide_eq_true (by omega)
      have d1' : decide (k < n) = true := decide_eq_true hkn
      obtain ⟨cg, coff, hav⟩ : ∃ cg coff, av = some ⟨cg, coff, none⟩ := by
        obtain ⟨b, o', he, _⟩ := HRAT.out.2.2.2.2 (by rw [chC_len, HVL.out, HN.out]; omega)
        exact ⟨b, o', he⟩
      subst hav
      obtain ⟨pa, pc, ps, t, es, x0, x1, hpat, t0, hone, htl, t1⟩ := change_at HRAT.out HCS.out HTS.out HN.out hkn HM.out.below
      have K5 := docReceive_any 5 da k (ts.take (k + 1)) t pa pc ps es wr o (by decide) HM.out.da (take_at t0 (Nat.le_refl _)) hpat hone (by omega) htl
      rw [take_next t1] at K5
      have K5 := Lib.hid K5
      clear hpat hone t0 t1
      go_wp2_with fail
      refine K5.out.mono ?_
      rintro e w5 ⟨rfl, o5, hs5, hd5⟩
      have HM5 := Lib.hid (HM.out.docA hs5 hd5)
      clear hs5 hd5 K5 x0 x1 HM
      obtain ⟨w6, hw6⟩ : ∃ x, x = w5.alloc (.cells #[.slice none 0 0] 72) := ⟨_, rfl⟩
      have hs6 : Step (fun _ => False) w5 o5 w6 (newLab w5 o5 (10 * 7)) := by rw [hw6]; exact step_newC _ _ _ _
      have hW6 : WrAt w6 (newLab w5 o5 (10 * 7)) 7 w5.heap.size [] := by rw [hw6]; exact wr_newC _ _ _ _
      obtain ⟨o6, ho6⟩ : ∃ x, newLab w5 o5 (10 * 7) = x := ⟨_, rfl⟩
      rw [ho6] at hs6 hW6
      have HM6 := Lib.hid (HM5.out.step hs6 fun _ h => h.elim)
      have K7 := int_any 7 w5.heap.size (k : Int) [] w6 o6 (by decide) hW6 (by omega) (by omega) (by simp)
      rw [List.nil_append] at K7
      have K7 := Lib.hid K7
      have HW6 := Lib.hid hw6
      clear hw6 ho6 hs6 hW6 HM5
      generalize hg5 : w5.heap.size = g5 at *
      go_wp2_with fail
      rw [← HW6.out]
      refine K7.out.mono ?_
      rintro e w7 ⟨rfl, o7, hs7, hw7⟩
      have HM7 := Lib.hid (HM6.out.step hs7 fun l hl => by unfold Own at hl; omega)
      have hml := encI_len (k : Int) (by omega) (by omega)
      obtain ⟨m, hm⟩ : ∃ m, encI (k : Int) = m := ⟨_, rfl⟩
      rw [hm] at hw7 hml
      have HWR := Lib.hid hw7
      have hsnd := HI.out.2.2.send (m := m) (by omega) (by rw [msgsI_len]; omega)
      have hms : msgsI (k + 1) = msgsI k ++ [m] := by rw [msgsI_succ, hm]
      rw [← hms] at hsnd
      have HSND := Lib.hid hsnd
      have e0 := HM7.out.endA
      clear hs7 hw7 hm hms hsnd K7 HM6 HW6
      go_wp2_with fail
      have hd7 := Below.drew (Below.refl w7.heap.size w7)
      have HM7d := Lib.hid (HM7.out.same hd7)
      have k8 := done_any 7 g5 m w7.drew o7 (HWR.out.step (Step.same (L := fun _ => False) hd7) fun _ _ h => h) (by omega)
      have K8 := Lib.hid k8
      clear k8 hd7
      refine wp_region_held_drew (S := fun W => W.cell? ⟨eb, 0, none⟩ = some (.pointer (some ⟨b1, 0, none⟩))) (by kernel_rfl) e0 (fun h0 => ?_)
      (first | ((refine wpAnyH_take (i := 0) (oi := ⟨_, _, _, _, _, _⟩) (v := ?_) rfl (by kernel_rfl) (by kernel_rfl) (by kernel_rfl) (fun _ _ _ h => h) (Or.inl ⟨by rfl, ?_⟩) (by assumption) ?_); rotate_left; focus ((intro w hSw); (try dsimp only at hSw); go_simp; all_goals (with_reducible rfl))) | (refine wpAnyH_take (i := 0) (oi := ⟨_, _, _, _, _, _⟩) (v := undef) rfl (by kernel_rfl) (by kernel_rfl) (by kernel_rfl) (fun _ _ _ h => h) (Or.inr ⟨by rfl, rfl⟩) (by assumption) ?_))
      try simp only [Act.put, List.setIfInBounds_toArray, List.set_cons_zero, List.set_cons_succ]
      (first | ((refine wpAnyH_take (i := 1) (oi := ⟨_, _, _, _, _, _⟩) (v := ?_) rfl (by kernel_rfl) (by kernel_rfl) (by kernel_rfl) (fun _ _ _ h => h) (Or.inl ⟨by rfl, ?_⟩) (by assumption) ?_); rotate_left; focus ((intro w hSw); (try dsimp only at hSw); go_simp; all_goals (with_reducible rfl))) | (refine wpAnyH_take (i := 1) (oi := ⟨_, _, _, _, _, _⟩) (v := undef) rfl (by kernel_rfl) (by kernel_rfl) (by kernel_rfl) (fun _ _ _ h => h) (Or.inr ⟨by rfl, rfl⟩) (by assumption) ?_))
      try simp only [Act.put, List.setIfInBounds_toArray, List.set_cons_zero, List.set_cons_succ]
      (first | ((refine wpAnyH_take (i := 2) (oi := ⟨_, _, _, _, _, _⟩) (v := ?_) rfl (by kernel_rfl) (by kernel_rfl) (by kernel_rfl) (fun _ _ _ h => h) (Or.inl ⟨by rfl, ?_⟩) (by assumption) ?_); rotate_left; focus ((intro w hSw); (try dsimp only at hSw); go_simp; all_goals (with_reducible rfl))) | (refine wpAnyH_take (i := 2) (oi := ⟨_, _, _, _, _, _⟩) (v := undef) rfl (by kernel_rfl) (by kernel_rfl) (by kernel_rfl) (fun _ _ _ h => h) (Or.inr ⟨by rfl, rfl⟩) (by assumption) ?_))
      try simp only [Act.put, List.setIfInBounds_toArray, List.set_cons_zero, List.set_cons_succ]
      refine wpAnyH_ready (rs := [3]) (by kernel_rfl) (by simp) ?_
      refine AllReadyH.cons (o := ⟨_, _, _, _, _, _⟩) rfl (fun K hK => ?_) AllReadyH.nil
      go_simp
      (with_reducible refine K8.out.mono ?_)
      rintro e w8 ⟨v8, rfl, ho8, hb8⟩
      obtain ⟨a8, c8, rfl, hs8⟩ := ownsRow_sliceMap ho8
      have HM8 := Lib.hid (HM7d.out.same hb8)
      have k9 : Calls Try.prog 14 #[.pointer (some ⟨b1, 0, none⟩), .slice a8 m.length c8] w8 fun e w' => e = .returned (.int .i64 (sendErr A m)) ∧ ∃ o', Step (fun x => 10 ≤ x ∧ x < 30) w8 o7 w' o' ∧ Two w1 w' o' (pr b1 b2) (upd (pr A (newE W9)) 0 (sendE A m)) := send_t HM8.out.two (k := 0) (n := 0) (by decide) HI.out.2.1 hs8
      rw [HSND.out.1] at k9
      have K9 := Lib.hid k9
      have e8 := HM8.out.endA
      clear ho8 hb8 hs8 k9 K8 HM7d
      go_wp2_with fail
      refine hK.out _ _ e8 (fun h1 => ?_)
      clear hK K
      try simp only [Act.put, List.setIfInBounds_toArray, List.set_cons_zero, List.set_cons_succ]
      refine wpAnyH_ready (rs := [4]) (by kernel_rfl) (by simp) ?_
      refine AllReadyH.cons (o := ⟨_, _, _, _, _, _⟩) rfl (fun K hK => ?_) AllReadyH.nil
      go_simp
      (with_reducible refine K9.out.mono ?_)
      rintro e w9 ⟨rfl, o9, hs9, hT9⟩
      have HM9 := Lib.hid (HM8.out.setA (l := 31) (hs9.mono fun l h => .inl h) (by omega) hT9)
      have e9 := HM9.out.endA
      clear hs9 hT9 K9 e8 HM8
      go_wp2_with fail
      refine hK.out _ _ e9 (fun h2 => ?_)
      clear hK K
      try simp only [Act.put, List.setIfInBounds_toArray, List.set_cons_zero, List.set_cons_succ]
      (first | ((refine wpAnyH_take (i := 5) (oi := ⟨_, _, _, _, _, _⟩) (v := ?_) rfl (by kernel_rfl) (by kernel_rfl) (by kernel_rfl) (fun _ _ _ h => h) (Or.inl ⟨by rfl, ?_⟩) (by assumption) ?_); rotate_left; focus ((intro w hSw); (try dsimp only at hSw); go_simp; all_goals (with_reducible rfl))) | (refine wpAnyH_take (i := 5) (oi := ⟨_, _, _, _, _, _⟩) (v := undef) rfl (by kernel_rfl) (by kernel_rfl) (by kernel_rfl) (fun _ _ _ h => h) (Or.inr ⟨by rfl, rfl⟩) (by assumption) ?_))
      try simp only [Act.put, List.setIfInBounds_toArray, List.set_cons_zero, List.set_cons_succ]
      refine wpAnyH_done (by kernel_rfl) ?_ _
      clear h0 h1 h2 e0 e9
      have HI9 : Hid ((sendE A m).window = W0 ∧ Fit (sendE A m) 0 ∧ ChS (msgsI (k + 1)) (sendE A m) (newE W9)) := ⟨by unfold sendE; split <;> exact HI.out.1, HI.out.2.1.send m, HSND.out.2⟩
      go_wp2_with fail
      go_roundw
      case rel => exact ⟨k + 1, o9, sendE A m, by omega, by go_num, HI9.out, HM9.out⟩
      case measure => simp [intOf]; omega
    · obtain rfl : k = n := by omega
      have d1 : decide ((k : Int) < (k : Int)) = false := by simp
      have d1' : decide (k < k) = false := by simp
      go_wp2_with fail
      have HCI : Hid (CI W0 W9 k 0 A (newE W9) []) := ⟨HI.out.2.2, HI.out.1, rfl, by show 0 + 0 ≤ _; omega, fun j q hq => by simp at hq, by simp, fun h => by omega⟩
      have HM0 : Hid (CW w1 wr o b1 b2 A (newE W9) eb da db k (newE W9).got ts) := HM.out
      have HL0 : Hid (PRow wr o (fun _ => 0) 45 (.slice none 0 0) []) := ⟨[], RowL.nil _ _ _ _ _, PktsAt.nil _ _ _⟩
      clear HI HM
      -- THE ROUNDS
      obtain ⟨wL, rfl⟩ : ∃ w', w' = wr := ⟨_, rfl⟩
      go_loopw [16, 17] (fun lv iv wr => ∃ (i : Nat) (o : Nat → Nat) (A B : EndS) (qs : List Pkt), i ≤ 10 + k ∧ iv = .int .i64 i ∧ Hid (CI W0 W9 k i A B qs) ∧ Hid (CW w1 wr o b1 b2 A B eb da db k B.got ts) ∧ Hid (PRow wr o (fun _ => 0) 45 lv qs)) (fun _ iv _ => 20 - (intOf iv).toNat)
      case atStart => exact ⟨0, o, A, newE W9, [], by omega, rfl, HCI.out, HM0.out, HL0.out⟩
      case round =>
        clear HCI HM0 HL0
        obtain ⟨i, o, A, B, qs, hi, rfl, HI, HM, HL⟩ := hrel
        have iw : IntKind.i64.wrap (10 + (k : Int)) = 10 + (k : Int) := IntWalk.i64_in _ (by omega)
        have hBw := Lib.hid (HB1.out.trans (HM.out.below.mono HB1.out.size))
        by_cases hik : i < 10 + k
        · have d2 : decide ((i : Int) < 10 + (k : Int)) = true := decide_eq_true (by omega)
          have e0 := HM.out.endA
          have hql := HI.out.ln
          obtain ⟨ps, hr1, hr2⟩ := HL.out
          obtain ⟨la, lc, rfl⟩ := hr1.form
          have KO : Calls Try.prog 16 #[.pointer (some ⟨b1, 0, none⟩)] wr fun e w' => ∃ v, e = .returned v ∧ ∃ o', Step (fun x => 10 ≤ x ∧ x < 30 ∨ x = 31) wr o w' o' ∧ Two w1 w' o' (pr b1 b2) (upd (pr A B) 0 (outE A)) ∧ PRow w' o' (fun _ => 0) 31 v (outP A) :=
            out_t HM.out.two (k := 0) (n := 1000) 31 (fun _ => 0) (by decide) (HI.out.ch.fitA (by rw [HI.out.wa]; exact hW1) (by rw [HI.out.wa]; exact hW2) (by rw [msgsI_len]; omega)) (by decide) (by decide) (fun _ => .inl rfl) (fun _ => by decide)
          have KO := Lib.hid KO
          have HR1 := Lib.hid hr1
          have HR2 := Lib.hid hr2
          clear hr1 hr2 HL
          go_wp2_with fail
          refine KO.out.mono ?_
          rintro e w5 ⟨v5, rfl, o5, hs5, hT5, hP5⟩
          have HM5 := Lib.hid (HM.out.setA hs5 (by omega) hT5)
          have hr5 := HR1.out.step hs5 (by omega)
          have hq5 := HR2.out.step hs5 (fun _ _ => by omega)
          obtain ⟨ps', hp1, hp2⟩ := hP5
          have hpl := outP_len (E := A) (by rw [HI.out.wa]; exact hW2)
          obtain ⟨pa, pc, rfl, hprow⟩ := ownsRow_row hp1.1
          obtain ⟨P, hP⟩ : ∃ P, outP A = P := ⟨_, rfl⟩
          rw [hP] at hp1 hp2 hpl hprow ⊢
          have hpn := hp2.1
          have HP := Lib.hid hP
          have HR5 := Lib.hid hr5
          have HQ5 := Lib.hid hq5
          have HP2 := Lib.hid hp2
          have HPR := Lib.hid hprow
          have HONE := Lib.hid hp2.one
          have hl0 : qs.length + P.length ≤ 16 * i + 16 := by omega
          clear hs5 hT5 hp1 hp2 hP hr5 hq5 hprow KO HR1 HR2 e0 HM
          go_wp2_with (at_builtin; refine wpList_append_row rfl (.tmp 91) (.tmp 95) 35 rfl elemP rfl HR5.out (Below.refl _ w5) pa P.length pc (pcells ps') rfl HPR.out HONE.out (by omega) (by omega) ?_; intro v6 w6 hrow6 hs6)
          obtain ⟨la6, lc6, rfl⟩ := hrow6.form
          have HM6 := Lib.hid (HM5.out.step hs6 fun l h => by omega)
          have HL6 : Hid (PRow w6 (newLab w5 o5 45) (fun _ => 0) 45 (.slice la6 (qs.length + P.length) lc6) (qs ++ P)) := by
            refine ⟨ps ++ ps', ?_, (HQ5.out.step hs6 (fun _ _ => by omega)).append (HP2.out.step hs6 (fun _ _ => by omega))⟩
            rw [pcells_app, List.length_append]
            exact hrow6
          obtain ⟨o6, ho6⟩ : ∃ x, newLab w5 o5 45 = x := ⟨_, rfl⟩
          rw [ho6] at HM6 HL6
          have hBw6 := Lib.hid (HB1.out.trans (HM6.out.below.mono HB1.out.size))
          clear hrow6 hs6 ho6 HM5 HR5 HQ5 HP2 HPR HONE hpn
          obtain ⟨N, hN⟩ : ∃ N, qs.length + P.length = N := ⟨_, rfl⟩
          rw [hN] at HL6 hl0 ⊢
          have HNN := Lib.hid hN
          clear hN
          go_wp2_with fail
          refine (KP.out w6 hBw6.out i 3 (by decide) (by decide) (by omega) (by omega)).mono ?_
          rintro e w7 ⟨z, hz, rfl, rfl⟩
          by_cases h10 : i < 10
          · have t10 : decide ((10 : Int) ≤ (i : Int)) = false := decide_eq_false (by omega)
            have t10' : decide (10 ≤ i) = false := decide_eq_false (by omega)
            have u10 : decide ((i : Int) < 10) = true := decide_eq_true (by omega)
            have u10' : decide (i < 10) = true := decide_eq_true h10
            by_cases hz0 : 0 < z
            · have tz : decide ((0 : Int) < (z : Int)) = true := decide_eq_true (by omega)
              have tz' : decide (0 < z) = true := decide_eq_true hz0
              by_cases hN0 : 0 < N
              · have tN : decide ((0 : Int) < (N : Int)) = true := decide_eq_true (by omega)
                have tN' : decide (0 < N) = true := decide_eq_true hN0
                have iw2 : IntKind.i64.wrap ((i : Int) + 1) = (i : Int) + 1 := IntWalk.i64_in _ (by omega)
                go_wp2_with fail
                refine (KP.out w6 hBw6.out ((i : Int) + 1) N (by omega) (by omega) (by omega) (by omega)).mono ?_
                rintro e w7 ⟨f, hf, rfl, rfl⟩
                go_wp2_with fail
                go_loopw [20] (fun jv wr => ∃ (t : Nat) (o : Nat → Nat) (B' : EndS), t ≤ N ∧ jv = .int .i64 t ∧ Hid (CJ W9 k i qs.length t (outE A) B') ∧ Hid (CW w1 wr o b1 b2 (outE A) B' eb da db k B'.got ts) ∧ Hid (PRow wr o (fun _ => 0) 45 (.slice la6 N lc6) (qs ++ P))) (fun jv _ => N - (intOf jv).toNat)
                case atStart => exact ⟨f, o6, B, by omega, rfl, (⟨HI.out.ch.outA, HI.out.wb, by have := HI.out.hb; omega, fun h => by omega⟩ : CJ W9 k i qs.length f (outE A) B), HM6.out, HL6.out⟩
                case round =>
                  clear HM6 HL6
                  obtain ⟨t, o, B', ht, rfl, HJ, HM, HL⟩ := hrel
                  by_cases htn : t < N
                  · as_aux_lemma =>
                    have dt : decide ((t : Int) < (N : Int)) = true := decide_eq_true (by omega)
                    have dt' : decide (t < N) = true := decide_eq_true htn
                    have hpl2 : (qs ++ P).length = N := by rw [List.length_append]; exact HNN.out
                    have hq : (qs ++ P)[t]? = some ((qs ++ P)[t]'(by rw [hpl2]; exact htn)) := List.getElem?_eq_getElem _
                    obtain ⟨q, hqq⟩ : ∃ q, (qs ++ P)[t]'(by rw [hpl2]; exact htn) = q := ⟨_, rfl⟩
                    rw [hqq] at hq
                    obtain ⟨lg, ma, mc, rfl, -, hNc, y0, y1, y2, hdat⟩ := HL.out.at hq
                    have hq0 := hq
                    rw [← HP.out] at hq0
                    have HJN := Lib.hid (CJ.next HI.out HJ.out hW1 hq0)
                    obtain ⟨-, hgot, hmsg⟩ := HJ.out.ch.inB (HI.out.all hq0)
                    have eB := HM.out.endB
                    have ki : Calls Try.prog 20 #[.pointer (some ⟨b2, 0, none⟩), .agg #[.int .i64 q.seq, .int .i64 q.ack, .slice ma q.b.length mc]] wr.drew fun e w' => ∃ v, e = .returned v ∧ ∃ o', Step (fun x => 10 ≤ x ∧ x < 30 ∨ x = 32) wr.drew o w' o' ∧ Two w1 w' o' (pr b1 b2) (upd (pr (outE A) B') 1 (inE B' q)) ∧ MRow w' o' 32 v (inO B' q) :=
                      in_t (HM.out.same (Below.drew (Below.refl _ wr))).two (k := 1) (n := 10000) q 0 32 (by decide) (HJ.out.ch.fitB (by rw [HJ.out.wb]; exact hV1) (by rw [HJ.out.wb]; exact hW4) (by have := HJ.out.hb; omega)) (by decide) (hdat.step (Step.same (L := fun _ => False) (Below.drew (Below.refl _ wr))) fun h => h) (.inl rfl) (by decide) (by decide)
                    have KI := Lib.hid ki
                    have HMd := Lib.hid (HM.out.same (Below.drew (Below.refl _ wr)))
                    have HLd := Lib.hid (PRow.step HL.out (Step.same (L := fun _ => False) (Below.drew (Below.refl _ wr))) (fun h => h) fun _ _ h => h)
                    have HGOT := Lib.hid hgot
                    have HMSG := Lib.hid hmsg
                    clear hq hqq hdat ki hq0 hgot hmsg hpl2 HM HL
                    go_upto_region 28 with fail
                    have r0 : (t : Int) < (N : Int) := by omega
                    have r1 : (0 : Int) ≤ (t : Int) := by omega
                    go_still_tail 7, (by kernel_rfl)
                    change wpList _ _ _ _ _ wr.drew
                    go_wp2_with fail
                    refine KI.out.mono ?_
                    rintro e w8 ⟨v8, rfl, o8, hs8, hT8, hX8⟩
                    have HM8 := Lib.hid (HMd.out.setB hs8 (by omega) hT8)
                    have HL8 := Lib.hid (PRow.step HLd.out hs8 (by omega) fun _ _ h => by omega)
                    obtain ⟨X, hX⟩ : ∃ X, inO B' q = X := ⟨_, rfl⟩
                    rw [hX] at hX8 HGOT HMSG
                    obtain ⟨xa, xc, rfl, hx1, hx2, -⟩ := hX8.cells
                    obtain ⟨xl, hxl⟩ : ∃ xl, X.length = xl := ⟨_, rfl⟩
                    rw [hxl] at hx1 hX8 HGOT ⊢
                    have HX8 := Lib.hid hX8
                    have HXL := Lib.hid hxl
                    have hg2 : (inE B' q).got ≤ k := by have := HJN.out.ch.a.go_le; rw [msgsI_len] at this; exact this
                    have hgx : B'.got + xl ≤ 6 := by rw [HGOT.out] at hg2; omega
                    obtain ⟨B2, hB2⟩ : ∃ B2, inE B' q = B2 := ⟨_, rfl⟩
                    rw [hB2] at HM8 HJN HGOT hg2
                    clear hs8 hT8 hX8 hxl hX KI HMd HLd y0 y1 y2 eB r0 r1 hB2
                    go_wp2_with fail
                    go_loopw [22] (fun rv wr => ∃ (r : Nat) (o : Nat → Nat), r ≤ xl ∧ rv = .int .i64 r ∧ Hid (CW w1 wr o b1 b2 (outE A) B2 eb da db k (B'.got + r) ts) ∧ Hid (MRow wr o 32 (.slice xa xl xc) X) ∧ Hid (PRow wr o (fun _ => 0) 45 (.slice (some ⟨lg, 0, none⟩) N lc6) (qs ++ P))) (fun rv _ => xl - (intOf rv).toNat)
                    case atStart => exact ⟨0, o8, by omega, rfl, HM8.out, HX8.out, HL8.out⟩
                    case round =>
                      clear HM8 HX8 HL8
                      obtain ⟨r, o, hr, rfl, HM, HX, HL⟩ := hrel
                      by_cases hrx : r < xl
                      · have dr : decide ((r : Int) < (xl : Int)) = true := decide_eq_true (by omega)
                        have dr' : decide (r < xl) = true := decide_eq_true hrx
                        have hxm : X[r]? = some (X[r]'(by rw [HXL.out]; exact hrx)) := List.getElem?_eq_getElem _
                        obtain ⟨mm, hmm⟩ : ∃ m, X[r]'(by rw [HXL.out]; exact hrx) = m := ⟨_, rfl⟩
                        rw [hmm] at hxm
                        obtain ⟨hGk, hme⟩ := msgsI_get (HMSG.out r mm hxm)
                        obtain ⟨xg, xma, xmc, rfl, -, -, z0, hxd⟩ := HX.out.at hxm
                        obtain ⟨G, hG⟩ : ∃ G, B'.got + r = G := ⟨_, rfl⟩
                        rw [hG] at hGk hme HM
                        have hGG : B'.got + (r + 1) = G + 1 := by omega
                        have hint : (intR ⟨mm, 0⟩).1 = (G : Int) := by
                          have := intR_enc (n := (G : Int)) (by omega) (by omega) []
                          rw [List.append_nil] at this
                          rw [hme, this]
                        have hmml : mm.length ≤ 10 := by rw [hme]; exact encI_len _ (by omega) (by omega)
                        have KR := Lib.hid (read_any 8 xma xmc mm wr o (by decide) hxd.slice (by omega))
                        have HINT := Lib.hid hint
                        have HGG := Lib.hid hGG
                        have r2 : (r : Int) < (xl : Int) := by omega
                        clear hxm hmm hme hxd hint hG hGG
                        go_wp2_with fail
                        refine KR.out.mono ?_
                        rintro e w9 ⟨rb, rfl, o9, hs9, hR9⟩
                        have HM9 := Lib.hid (HM.out.step hs9 fun l hl => by unfold Own at hl; omega)
                        have HX9 := Lib.hid (MRow.step HX.out hs9 (by unfold Own; omega) (by unfold Own; omega))
                        have HL9 := Lib.hid (PRow.step HL.out hs9 (by unfold Own; omega) fun _ _ => by unfold Own; omega)
                        have ki := rint_any 8 rb ⟨mm, 0⟩ w9 o9 (by decide) hR9
                        rw [HINT.out] at ki
                        have KI := Lib.hid ki
                        clear hs9 hR9 ki KR HM HX HL z0
                        go_wp2_with fail
                        refine KI.out.mono ?_
                        rintro e w10 ⟨rfl, hs10, -⟩
                        have HM10 := Lib.hid (HM9.out.step hs10 fun l hl => by unfold Own at hl; omega)
                        have HX10 := Lib.hid (MRow.step HX9.out hs10 (by unfold Own; omega) (by unfold Own; omega))
                        have HL10 := Lib.hid (PRow.step HL9.out hs10 (by unfold Own; omega) fun _ _ => by unfold Own; omega)
                        clear hs10 KI HM9 HX9 HL9
                        obtain ⟨cg, coff, hav⟩ : ∃ cg coff, av = some ⟨cg, coff, none⟩ := by
                          obtain ⟨b, o', he, _⟩ := HRAT.out.2.2.2.2 (by rw [chC_len, HVL.out, HN.out]; omega)
                          exact ⟨b, o', he⟩
                        subst hav
                        obtain ⟨pa2, pc2, ps2, tt, es2, x0, x1, hpat, t0, hone, htl, t1⟩ := change_at HRAT.out HCS.out HTS.out HN.out hGk HM10.out.below
                        have k5 := docReceive_any 6 db G (ts.take (G + 1)) tt pa2 pc2 ps2 es2 w10 o9 (by decide) HM10.out.db (take_at t0 (Nat.le_refl _)) hpat hone (by omega) htl
                        rw [take_next t1] at k5
                        have K5 := Lib.hid k5
                        have dg : decide ((G : Int) < 0) = false := decide_eq_false (by omega)
                        have dg2 : decide ((k : Int) ≤ (G : Int)) = false := decide_eq_false (by omega)
                        have dg2' : decide (k ≤ G) = false := decide_eq_false (by omega)
                        clear hpat t0 hone t1 k5
                        go_wp2_with fail
                        refine K5.out.mono ?_
                        rintro e w11 ⟨rfl, o11, hs11, hd11⟩
                        have hM11 := HM10.out.docB hs11 hd11
                        rw [← HGG.out] at hM11
                        have HM11 := Lib.hid hM11
                        have HX11 := Lib.hid (MRow.step HX10.out hs11 (by unfold Own; omega) (by unfold Own; omega))
                        have HL11 := Lib.hid (PRow.step HL10.out hs11 (by unfold Own; omega) fun _ _ => by unfold Own; omega)
                        clear hs11 hd11 hM11 K5 HM10 HX10 HL10 x0 x1
                        go_wp2_with fail
                        go_roundw
                        case rel => exact ⟨r + 1, o11, by omega, by go_num, HM11.out, HX11.out, HL11.out⟩
                        case measure => simp [intOf]; omega
                      · have hre : r = xl := by omega
                        have dr : decide ((r : Int) < (xl : Int)) = false := decide_eq_false (by omega)
                        have dr' : decide (r < xl) = false := decide_eq_false hrx
                        have hM := HM.out
                        rw [show B'.got + r = B2.got by rw [HGOT.out, hre]] at hM
                        have HM' := Lib.hid hM
                        clear hM HX HM hre
                        go_wp2_with fail
                        go_roundw
                        case rel => exact ⟨t + 1, o, B2, by omega, by go_num, HJN.out, HM'.out, HL.out⟩
                        case measure => simp [intOf]; omega
                  · as_aux_lemma =>
                    have htN : t = N := by omega
                    have dt : decide ((t : Int) < (N : Int)) = false := decide_eq_false (by omega)
                    have dt' : decide (t < N) = false := decide_eq_false htn
                    have hPN : 10 ≤ i → A.acked < k → qs.length < t := fun h10 ha => by
                      have := HI.out.outs hW1 ha
                      rw [HP.out] at this
                      have := HNN.out
                      omega
                    have HPN := Lib.hid hPN
                    have eB := HM.out.endB
                    have ko : Calls Try.prog 16 #[.pointer (some ⟨b2, 0, none⟩)] wr fun e w' => ∃ v, e = .returned v ∧ ∃ o', Step (fun x => 10 ≤ x ∧ x < 30 ∨ x = 33) wr o w' o' ∧ Two w1 w' o' (pr b1 b2) (upd (pr (outE A) B') 1 (outE B')) ∧ PRow w' o' (fun _ => 0) 33 v (outP B') :=
                      out_t HM.out.two (k := 1) (n := 10000) 33 (fun _ => 0) (by decide) (HJ.out.ch.fitB (by rw [HJ.out.wb]; exact hV1) (by rw [HJ.out.wb]; exact hW4) (by have := HJ.out.hb; omega)) (by decide) (by decide) (fun _ => .inl rfl) (fun _ => by decide)
                    have KO := Lib.hid ko
                    clear ko hPN HL
                    rw [← htN] at hl0
                    clear htN htn
                    go_wp2_with fail
                    refine KO.out.mono ?_
                    rintro e w8 ⟨v8, rfl, o8, hs8, hT8, hQ8⟩
                    have HM8 : Hid (CW w1 w8 o8 b1 b2 (outE A) (outE B') eb da db k (outE B').got ts) := HM.out.setB hs8 (by omega) hT8
                    obtain ⟨qa, qc, rfl, hqc, hqcm, -⟩ := hQ8.cells
                    obtain ⟨Q, hQ⟩ : ∃ Q, outP B' = Q := ⟨_, rfl⟩
                    rw [hQ] at hQ8 hqc ⊢
                    have HQ8 := Lib.hid hQ8
                    have HQQ := Lib.hid hQ
                    have HK8 := Lib.hid (CJ.acks HI.out HJ.out)
                    clear hs8 hT8 hQ8 hQ KO HM eB
                    go_wp2_with fail
                    go_loopw [26] (fun jv wr => ∃ (j : Nat) (o : Nat → Nat) (A' : EndS), j ≤ Q.length ∧ jv = .int .i64 j ∧ Hid (CK W0 k i A.acked j A' (outE B')) ∧ Hid (CW w1 wr o b1 b2 A' (outE B') eb da db k (outE B').got ts) ∧ Hid (PRow wr o (fun _ => 0) 33 (.slice qa Q.length qc) Q)) (fun jv _ => Q.length - (intOf jv).toNat)
                    case atStart => exact ⟨0, o8, outE A, by omega, rfl, HK8.out, HM8.out, HQ8.out⟩
                    case round =>
                      clear HM8 HQ8 HK8
                      obtain ⟨j, o, A', hj, rfl, HK, HM, HQ⟩ := hrel
                      by_cases hjq : j < Q.length
                      · have dj : decide ((j : Int) < (Q.length : Int)) = true := decide_eq_true (by omega)
                        have dj' : decide (j < Q.length) = true := decide_eq_true hjq
                        by_cases hz2 : z = 2
                        · have dz2 : ((z : Int) == 2) = true := by simp; omega
                          clear hz2
                          have hq : Q[j]? = some (Q[j]'hjq) := List.getElem?_eq_getElem _
                          obtain ⟨q, hqq⟩ : ∃ q, Q[j]'hjq = q := ⟨_, rfl⟩
                          rw [hqq] at hq
                          obtain ⟨qg, ma, mc, rfl, -, -, y0, y1, y2, hdat⟩ := HQ.out.at hq
                          have HKN := Lib.hid (CK.next HJ.out HPN.out HK.out (by rw [HQQ.out]; exact hq))
                          have eA := HM.out.endA
                          have ki : Calls Try.prog 20 #[.pointer (some ⟨b1, 0, none⟩), .agg #[.int .i64 q.seq, .int .i64 q.ack, .slice ma q.b.length mc]] wr.drew fun e w' => ∃ v, e = .returned v ∧ ∃ o', Step (fun x => 10 ≤ x ∧ x < 30 ∨ x = 34) wr.drew o w' o' ∧ Two w1 w' o' (pr b1 b2) (upd (pr A' (outE B')) 0 (inE A' q)) ∧ MRow w' o' 34 v (inO A' q) :=
                            in_t (HM.out.same (Below.drew (Below.refl _ wr))).two (k := 0) (n := 1000) q 0 34 (by decide) (HK.out.ch.fitA (by rw [HK.out.wa]; exact hW1) (by rw [HK.out.wa]; exact hW2) (by rw [msgsI_len]; omega)) (by decide) (hdat.step (Step.same (L := fun _ => False) (Below.drew (Below.refl _ wr))) fun h => h) (.inl rfl) (by decide) (by decide)
                          have KI := Lib.hid ki
                          have HMd := Lib.hid (HM.out.same (Below.drew (Below.refl _ wr)))
                          have HQd := Lib.hid (PRow.step HQ.out (Step.same (L := fun _ => False) (Below.drew (Below.refl _ wr))) (fun h => h) fun _ _ h => h)
                          clear hq hqq hdat ki
                          go_upto_region 43 with fail
                          have r0 : (j : Int) < (Q.length : Int) := by omega
                          have r1 : (0 : Int) ≤ (j : Int) := by omega
                          go_still_tail 7, (by kernel_rfl)
                          change wpList _ _ _ _ _ wr.drew
                          go_wp2_with fail
                          refine KI.out.mono ?_
                          rintro e w12 ⟨v12, rfl, o12, hs12, hT12, -⟩
                          have HM12 := Lib.hid (HMd.out.setA hs12 (by omega) hT12)
                          have HQ12 := Lib.hid (PRow.step HQd.out hs12 (by omega) fun _ _ h => by omega)
                          clear hs12 hT12 KI HMd HQd y0 y1 y2 eA r0 r1
                          go_wp2_with fail
                          go_roundw
                          case rel => exact ⟨j + 1, o12, inE A' q, by omega, by go_num, HKN.out, HM12.out, HQ12.out⟩
                          case measure => simp [intOf]; omega
                        · have dz2 : ((z : Int) == 2) = false := by simp; omega
                          have HI9 : Hid (CI W0 W9 k (i + 1) A' (outE B') []) := CK.done HI.out HJ.out hl0 (by omega) HK.out (fun h10 => by omega)
                          have HM9 : Hid (CW w1 wr o b1 b2 A' (outE B') eb da db k (outE B').got ts) := HM.out
                          have HL9 : Hid (PRow wr o (fun _ => 0) 45 (.slice none 0 0) []) := ⟨[], RowL.nil _ _ _ _ _, PktsAt.nil _ _ _⟩
                          clear HQ HK
                          have hgk : (outE B').got ≤ k := by have := HI9.out.ch.a.go_le; rw [msgsI_len] at this; exact this
                          obtain ⟨tg, htg⟩ : ∃ t, ts[(outE B').got]? = some t := ⟨ts[(outE B').got]'(by rw [HTS.out.len, HN.out]; omega), List.getElem?_eq_getElem _⟩
                          have hM9 := HM9.out
                          obtain ⟨G9, hG9⟩ : ∃ G, (outE B').got = G := ⟨_, rfl⟩
                          rw [hG9] at hgk htg hM9
                          have htgl := HTS.out.small tg (List.mem_of_getElem? htg)
                          have HG9 := Lib.hid hG9
                          have K21 := Lib.hid (docAt_any 5 da k G9 _ tg wr o hM9.da (take_at htg hgk) (by omega))
                          have K20 := Lib.hid (docVersion_any 6 db G9 _ wr o hM9.db)
                          have K22 := Lib.hid fun W (hW : Below wr.heap.size wr W) => docText_any 6 db G9 _ tg W o (hM9.db.same hW) (take_at htg (Nat.le_refl _)) (by omega)
                          have HMM := Lib.hid hM9
                          have hne : ((strB tg).toList != (strB tg).toList) = false := by simp
                          clear htg hG9 hM9 HM9
                          go_wp2_with fail
                          refine K20.out.mono ?_
                          rintro e w20 ⟨rfl, rfl⟩
                          go_wp2_with fail
                          refine K21.out.mono ?_
                          rintro e w21 ⟨rfl, hb21⟩
                          go_wp2_with fail
                          refine (K22.out w21 hb21).mono ?_
                          rintro e w22 ⟨rfl, hb22⟩
                          have hb := Below.step hb21 hb22
                          have HM22 := Lib.hid (HMM.out.same hb)
                          have HL22 := Lib.hid (PRow.step HL9.out (Step.same (L := fun _ => False) hb) (fun h => h) fun _ _ h => h)
                          clear hb21 hb22 hb K20 K21 K22 HMM HL9
                          go_wp2_with fail
                          go_roundw
                          case rel => exact ⟨i + 1, o, A', outE B', [], by omega, by go_num, HI9.out, by have h := HM22.out; rw [← HG9.out] at h; exact h, HL22.out⟩
                          case measure => simp [intOf]; omega
                      · have dj : decide ((j : Int) < (Q.length : Int)) = false := decide_eq_false (by omega)
                        have dj' : decide (j < Q.length) = false := decide_eq_false hjq
                        have HI9 : Hid (CI W0 W9 k (i + 1) A' (outE B') []) := CK.done HI.out HJ.out hl0 (by omega) HK.out (fun h10 => by omega)
                        have HM9 : Hid (CW w1 wr o b1 b2 A' (outE B') eb da db k (outE B').got ts) := HM.out
                        have HL9 : Hid (PRow wr o (fun _ => 0) 45 (.slice none 0 0) []) := ⟨[], RowL.nil _ _ _ _ _, PktsAt.nil _ _ _⟩
                        clear HQ HK
                        have hgk : (outE B').got ≤ k := by have := HI9.out.ch.a.go_le; rw [msgsI_len] at this; exact this
                        obtain ⟨tg, htg⟩ : ∃ t, ts[(outE B').got]? = some t := ⟨ts[(outE B').got]'(by rw [HTS.out.len, HN.out]; omega), List.getElem?_eq_getElem _⟩
                        have hM9 := HM9.out
                        obtain ⟨G9, hG9⟩ : ∃ G, (outE B').got = G := ⟨_, rfl⟩
                        rw [hG9] at hgk htg hM9
                        have htgl := HTS.out.small tg (List.mem_of_getElem? htg)
                        have HG9 := Lib.hid hG9
                        have K21 := Lib.hid (docAt_any 5 da k G9 _ tg wr o hM9.da (take_at htg hgk) (by omega))
                        have K20 := Lib.hid (docVersion_any 6 db G9 _ wr o hM9.db)
                        have K22 := Lib.hid fun W (hW : Below wr.heap.size wr W) => docText_any 6 db G9 _ tg W o (hM9.db.same hW) (take_at htg (Nat.le_refl _)) (by omega)
                        have HMM := Lib.hid hM9
                        have hne : ((strB tg).toList != (strB tg).toList) = false := by simp
                        clear htg hG9 hM9 HM9
                        go_wp2_with fail
                        refine K20.out.mono ?_
                        rintro e w20 ⟨rfl, rfl⟩
                        go_wp2_with fail
                        refine K21.out.mono ?_
                        rintro e w21 ⟨rfl, hb21⟩
                        go_wp2_with fail
                        refine (K22.out w21 hb21).mono ?_
                        rintro e w22 ⟨rfl, hb22⟩
                        have hb := Below.step hb21 hb22
                        have HM22 := Lib.hid (HMM.out.same hb)
                        have HL22 := Lib.hid (PRow.step HL9.out (Step.same (L := fun _ => False) hb) (fun h => h) fun _ _ h => h)
                        clear hb21 hb22 hb K20 K21 K22 HMM HL9
                        go_wp2_with fail
                        go_roundw
                        case rel => exact ⟨i + 1, o, A', outE B', [], by omega, by go_num, HI9.out, by have h := HM22.out; rw [← HG9.out] at h; exact h, HL22.out⟩
                        case measure => simp [intOf]; omega
              · have tN : decide ((0 : Int) < (N : Int)) = false := decide_eq_false (by omega)
                have tN' : decide (0 < N) = false := decide_eq_false hN0
                have HI9 : Hid (CI W0 W9 k (i + 1) (outE A) B (qs ++ P)) := by have h := HI.out.more hW2 h10; rw [HP.out] at h; exact h
                have HM9 := HM6
                have HL9 := HL6
                clear HM6 HL6
                have hgk : (B).got ≤ k := by have := HI9.out.ch.a.go_le; rw [msgsI_len] at this; exact this
                obtain ⟨tg, htg⟩ : ∃ t, ts[(B).got]? = some t := ⟨ts[(B).got]'(by rw [HTS.out.len, HN.out]; omega), List.getElem?_eq_getElem _⟩
                have hM9 := HM9.out
                obtain ⟨G9, hG9⟩ : ∃ G, (B).got = G := ⟨_, rfl⟩
                rw [hG9] at hgk htg hM9
                have htgl := HTS.out.small tg (List.mem_of_getElem? htg)
                have HG9 := Lib.hid hG9
                have K21 := Lib.hid (docAt_any 5 da k G9 _ tg w6 o6 hM9.da (take_at htg hgk) (by omega))
                have K20 := Lib.hid (docVersion_any 6 db G9 _ w6 o6 hM9.db)
                have K22 := Lib.hid fun W (hW : Below w6.heap.size w6 W) => docText_any 6 db G9 _ tg W o6 (hM9.db.same hW) (take_at htg (Nat.le_refl _)) (by omega)
                have HMM := Lib.hid hM9
                have hne : ((strB tg).toList != (strB tg).toList) = false := by simp
                clear htg hG9 hM9 HM9
                go_wp2_with fail
                refine K20.out.mono ?_
                rintro e w20 ⟨rfl, rfl⟩
                go_wp2_with fail
                refine K21.out.mono ?_
                rintro e w21 ⟨rfl, hb21⟩
                go_wp2_with fail
                refine (K22.out w21 hb21).mono ?_
                rintro e w22 ⟨rfl, hb22⟩
                have hb := Below.step hb21 hb22
                have HM22 := Lib.hid (HMM.out.same hb)
                have HL22 := Lib.hid (PRow.step HL9.out (Step.same (L := fun _ => False) hb) (fun h => h) fun _ _ h => h)
                clear hb21 hb22 hb K20 K21 K22 HMM HL9
                go_wp2_with fail
                go_roundw
                case rel => exact ⟨i + 1, o6, outE A, B, qs ++ P, by omega, by go_num, HI9.out, by have h := HM22.out; rw [← HG9.out] at h; exact h, HL22.out⟩
                case measure => simp [intOf]; omega
            · have tz : decide ((0 : Int) < (z : Int)) = false := decide_eq_false (by omega)
              have tz' : decide (0 < z) = false := decide_eq_false hz0
              have HI9 : Hid (CI W0 W9 k (i + 1) (outE A) B (qs ++ P)) := by have h := HI.out.more hW2 h10; rw [HP.out] at h; exact h
              have HM9 := HM6
              have HL9 := HL6
              clear HM6 HL6
              have hgk : (B).got ≤ k := by have := HI9.out.ch.a.go_le; rw [msgsI_len] at this; exact this
              obtain ⟨tg, htg⟩ : ∃ t, ts[(B).got]? = some t := ⟨ts[(B).got]'(by rw [HTS.out.len, HN.out]; omega), List.getElem?_eq_getElem _⟩
              have hM9 := HM9.out
              obtain ⟨G9, hG9⟩ : ∃ G, (B).got = G := ⟨_, rfl⟩
              rw [hG9] at hgk htg hM9
              have htgl := HTS.out.small tg (List.mem_of_getElem? htg)
              have HG9 := Lib.hid hG9
              have K21 := Lib.hid (docAt_any 5 da k G9 _ tg w6 o6 hM9.da (take_at htg hgk) (by omega))
              have K20 := Lib.hid (docVersion_any 6 db G9 _ w6 o6 hM9.db)
              have K22 := Lib.hid fun W (hW : Below w6.heap.size w6 W) => docText_any 6 db G9 _ tg W o6 (hM9.db.same hW) (take_at htg (Nat.le_refl _)) (by omega)
              have HMM := Lib.hid hM9
              have hne : ((strB tg).toList != (strB tg).toList) = false := by simp
              clear htg hG9 hM9 HM9
              go_wp2_with fail
              refine K20.out.mono ?_
              rintro e w20 ⟨rfl, rfl⟩
              go_wp2_with fail
              refine K21.out.mono ?_
              rintro e w21 ⟨rfl, hb21⟩
              go_wp2_with fail
              refine (K22.out w21 hb21).mono ?_
              rintro e w22 ⟨rfl, hb22⟩
              have hb := Below.step hb21 hb22
              have HM22 := Lib.hid (HMM.out.same hb)
              have HL22 := Lib.hid (PRow.step HL9.out (Step.same (L := fun _ => False) hb) (fun h => h) fun _ _ h => h)
              clear hb21 hb22 hb K20 K21 K22 HMM HL9
              go_wp2_with fail
              go_roundw
              case rel => exact ⟨i + 1, o6, outE A, B, qs ++ P, by omega, by go_num, HI9.out, by have h := HM22.out; rw [← HG9.out] at h; exact h, HL22.out⟩
              case measure => simp [intOf]; omega
          · have t10 : decide ((10 : Int) ≤ (i : Int)) = true := decide_eq_true (by omega)
            have t10' : decide (10 ≤ i) = true := decide_eq_true (by omega)
            have u10 : decide ((i : Int) < 10) = false := decide_eq_false (by omega)
            have u10' : decide (i < 10) = false := decide_eq_false h10
            go_wp2_with fail
            go_loopw [20] (fun jv wr => ∃ (t : Nat) (o : Nat → Nat) (B' : EndS), t ≤ N ∧ jv = .int .i64 t ∧ Hid (CJ W9 k i qs.length t (outE A) B') ∧ Hid (CW w1 wr o b1 b2 (outE A) B' eb da db k B'.got ts) ∧ Hid (PRow wr o (fun _ => 0) 45 (.slice la6 N lc6) (qs ++ P))) (fun jv _ => N - (intOf jv).toNat)
            case atStart => exact ⟨0, o6, B, by omega, rfl, (HI.out.start 0 (Nat.zero_le _)), HM6.out, HL6.out⟩
            case round =>
              clear HM6 HL6
              obtain ⟨t, o, B', ht, rfl, HJ, HM, HL⟩ := hrel
              by_cases htn : t < N
              · as_aux_lemma =>
                have dt : decide ((t : Int) < (N : Int)) = true := decide_eq_true (by omega)
                have dt' : decide (t < N) = true := decide_eq_true htn
                have hpl2 : (qs ++ P).length = N := by rw [List.length_append]; exact HNN.out
                have hq : (qs ++ P)[t]? = some ((qs ++ P)[t]'(by rw [hpl2]; exact htn)) := List.getElem?_eq_getElem _
                obtain ⟨q, hqq⟩ : ∃ q, (qs ++ P)[t]'(by rw [hpl2]; exact htn) = q := ⟨_, rfl⟩
                rw [hqq] at hq
                obtain ⟨lg, ma, mc, rfl, -, hNc, y0, y1, y2, hdat⟩ := HL.out.at hq
                have hq0 := hq
                rw [← HP.out] at hq0
                have HJN := Lib.hid (CJ.next HI.out HJ.out hW1 hq0)
                obtain ⟨-, hgot, hmsg⟩ := HJ.out.ch.inB (HI.out.all hq0)
                have eB := HM.out.endB
                have ki : Calls Try.prog 20 #[.pointer (some ⟨b2, 0, none⟩), .agg #[.int .i64 q.seq, .int .i64 q.ack, .slice ma q.b.length mc]] wr.drew fun e w' => ∃ v, e = .returned v ∧ ∃ o', Step (fun x => 10 ≤ x ∧ x < 30 ∨ x = 32) wr.drew o w' o' ∧ Two w1 w' o' (pr b1 b2) (upd (pr (outE A) B') 1 (inE B' q)) ∧ MRow w' o' 32 v (inO B' q) :=
                  in_t (HM.out.same (Below.drew (Below.refl _ wr))).two (k := 1) (n := 10000) q 0 32 (by decide) (HJ.out.ch.fitB (by rw [HJ.out.wb]; exact hV1) (by rw [HJ.out.wb]; exact hW4) (by have := HJ.out.hb; omega)) (by decide) (hdat.step (Step.same (L := fun _ => False) (Below.drew (Below.refl _ wr))) fun h => h) (.inl rfl) (by decide) (by decide)
                have KI := Lib.hid ki
                have HMd := Lib.hid (HM.out.same (Below.drew (Below.refl _ wr)))
                have HLd := Lib.hid (PRow.step HL.out (Step.same (L := fun _ => False) (Below.drew (Below.refl _ wr))) (fun h => h) fun _ _ h => h)
                have HGOT := Lib.hid hgot
                have HMSG := Lib.hid hmsg
                clear hq hqq hdat ki hq0 hgot hmsg hpl2 HM HL
                go_upto_region 28 with fail
                have r0 : (t : Int) < (N : Int) := by omega
                have r1 : (0 : Int) ≤ (t : Int) := by omega
                go_still_tail 7, (by kernel_rfl)
                change wpList _ _ _ _ _ wr.drew
                go_wp2_with fail
                refine KI.out.mono ?_
                rintro e w8 ⟨v8, rfl, o8, hs8, hT8, hX8⟩
                have HM8 := Lib.hid (HMd.out.setB hs8 (by omega) hT8)
                have HL8 := Lib.hid (PRow.step HLd.out hs8 (by omega) fun _ _ h => by omega)
                obtain ⟨X, hX⟩ : ∃ X, inO B' q = X := ⟨_, rfl⟩
                rw [hX] at hX8 HGOT HMSG
                obtain ⟨xa, xc, rfl, hx1, hx2, -⟩ := hX8.cells
                obtain ⟨xl, hxl⟩ : ∃ xl, X.length = xl := ⟨_, rfl⟩
                rw [hxl] at hx1 hX8 HGOT ⊢
                have HX8 := Lib.hid hX8
                have HXL := Lib.hid hxl
                have hg2 : (inE B' q).got ≤ k := by have := HJN.out.ch.a.go_le; rw [msgsI_len] at this; exact this
                have hgx : B'.got + xl ≤ 6 := by rw [HGOT.out] at hg2; omega
                obtain ⟨B2, hB2⟩ : ∃ B2, inE B' q = B2 := ⟨_, rfl⟩
                rw [hB2] at HM8 HJN HGOT hg2
                clear hs8 hT8 hX8 hxl hX KI HMd HLd y0 y1 y2 eB r0 r1 hB2
                go_wp2_with fail
                go_loopw [22] (fun rv wr => ∃ (r : Nat) (o : Nat → Nat), r ≤ xl ∧ rv = .int .i64 r ∧ Hid (CW w1 wr o b1 b2 (outE A) B2 eb da db k (B'.got + r) ts) ∧ Hid (MRow wr o 32 (.slice xa xl xc) X) ∧ Hid (PRow wr o (fun _ => 0) 45 (.slice (some ⟨lg, 0, none⟩) N lc6) (qs ++ P))) (fun rv _ => xl - (intOf rv).toNat)
                case atStart => exact ⟨0, o8, by omega, rfl, HM8.out, HX8.out, HL8.out⟩
                case round =>
                  clear HM8 HX8 HL8
                  obtain ⟨r, o, hr, rfl, HM, HX, HL⟩ := hrel
                  by_cases hrx : r < xl
                  · have dr : decide ((r : Int) < (xl : Int)) = true := decide_eq_true (by omega)
                    have dr' : decide (r < xl) = true := decide_eq_true hrx
                    have hxm : X[r]? = some (X[r]'(by rw [HXL.out]; exact hrx)) := List.getElem?_eq_getElem _
                    obtain ⟨mm, hmm⟩ : ∃ m, X[r]'(by rw [HXL.out]; exact hrx) = m := ⟨_, rfl⟩
                    rw [hmm] at hxm
                    obtain ⟨hGk, hme⟩ := msgsI_get (HMSG.out r mm hxm)
                    obtain ⟨xg, xma, xmc, rfl, -, -, z0, hxd⟩ := HX.out.at hxm
                    obtain ⟨G, hG⟩ : ∃ G, B'.got + r = G := ⟨_, rfl⟩
                    rw [hG] at hGk hme HM
                    have hGG : B'.got + (r + 1) = G + 1 := by omega
                    have hint : (intR ⟨mm, 0⟩).1 = (G : Int) := by
                      have := intR_enc (n := (G : Int)) (by omega) (by omega) []
                      rw [List.append_nil] at this
                      rw [hme, this]
                    have hmml : mm.length ≤ 10 := by rw [hme]; exact encI_len _ (by omega) (by omega)
                    have KR := Lib.hid (read_any 8 xma xmc mm wr o (by decide) hxd.slice (by omega))
                    have HINT := Lib.hid hint
                    have HGG := Lib.hid hGG
                    have r2 : (r : Int) < (xl : Int) := by omega
                    clear hxm hmm hme hxd hint hG hGG
                    go_wp2_with fail
                    refine KR.out.mono ?_
                    rintro e w9 ⟨rb, rfl, o9, hs9, hR9⟩
                    have HM9 := Lib.hid (HM.out.step hs9 fun l hl => by unfold Own at hl; omega)
                    have HX9 := Lib.hid (MRow.step HX.out hs9 (by unfold Own; omega) (by unfold Own; omega))
                    have HL9 := Lib.hid (PRow.step HL.out hs9 (by unfold Own; omega) fun _ _ => by unfold Own; omega)
                    have ki := rint_any 8 rb ⟨mm, 0⟩ w9 o9 (by decide) hR9
                    rw [HINT.out] at ki
                    have KI := Lib.hid ki
                    clear hs9 hR9 ki KR HM HX HL z0
                    go_wp2_with fail
                    refine KI.out.mono ?_
                    rintro e w10 ⟨rfl, hs10, -⟩
                    have HM10 := Lib.hid (HM9.out.step hs10 fun l hl => by unfold Own at hl; omega)
                    have HX10 := Lib.hid (MRow.step HX9.out hs10 (by unfold Own; omega) (by unfold Own; omega))
                    have HL10 := Lib.hid (PRow.step HL9.out hs10 (by unfold Own; omega) fun _ _ => by unfold Own; omega)
                    clear hs10 KI HM9 HX9 HL9
                    obtain ⟨cg, coff, hav⟩ : ∃ cg coff, av = some ⟨cg, coff, none⟩ := by
                      obtain ⟨b, o', he, _⟩ := HRAT.out.2.2.2.2 (by rw [chC_len, HVL.out, HN.out]; omega)
                      exact ⟨b, o', he⟩
                    subst hav
                    obtain ⟨pa2, pc2, ps2, tt, es2, x0, x1, hpat, t0, hone, htl, t1⟩ := change_at HRAT.out HCS.out HTS.out HN.out hGk HM10.out.below
                    have k5 := docReceive_any 6 db G (ts.take (G + 1)) tt pa2 pc2 ps2 es2 w10 o9 (by decide) HM10.out.db (take_at t0 (Nat.le_refl _)) hpat hone (by omega) htl
                    rw [take_next t1] at k5
                    have K5 := Lib.hid k5
                    have dg : decide ((G : Int) < 0) = false := decide_eq_false (by omega)
                    have dg2 : decide ((k : Int) ≤ (G : Int)) = false := decide_eq_false (by omega)
                    have dg2' : decide (k ≤ G) = false := decide_eq_false (by omega)
                    clear hpat t0 hone t1 k5
                    go_wp2_with fail
                    refine K5.out.mono ?_
                    rintro e w11 ⟨rfl, o11, hs11, hd11⟩
                    have hM11 := HM10.out.docB hs11 hd11
                    rw [← HGG.out] at hM11
                    have HM11 := Lib.hid hM11
                    have HX11 := Lib.hid (MRow.step HX10.out hs11 (by unfold Own; omega) (by unfold Own; omega))
                    have HL11 := Lib.hid (PRow.step HL10.out hs11 (by unfold Own; omega) fun _ _ => by unfold Own; omega)
                    clear hs11 hd11 hM11 K5 HM10 HX10 HL10 x0 x1
                    go_wp2_with fail
                    go_roundw
                    case rel => exact ⟨r + 1, o11, by omega, by go_num, HM11.out, HX11.out, HL11.out⟩
                    case measure => simp [intOf]; omega
                  · have hre : r = xl := by omega
                    have dr : decide ((r : Int) < (xl : Int)) = false := decide_eq_false (by omega)
                    have dr' : decide (r < xl) = false := decide_eq_false hrx
                    have hM := HM.out
                    rw [show B'.got + r = B2.got by rw [HGOT.out, hre]] at hM
                    have HM' := Lib.hid hM
                    clear hM HX HM hre
                    go_wp2_with fail
                    go_roundw
                    case rel => exact ⟨t + 1, o, B2, by omega, by go_num, HJN.out, HM'.out, HL.out⟩
                    case measure => simp [intOf]; omega
              · as_aux_lemma =>
                have htN : t = N := by omega
                have dt : decide ((t : Int) < (N : Int)) = false := decide_eq_false (by omega)
                have dt' : decide (t < N) = false := decide_eq_false htn
                have hPN : 10 ≤ i → A.acked < k → qs.length < t := fun h10 ha => by
                  have := HI.out.outs hW1 ha
                  rw [HP.out] at this
                  have := HNN.out
                  omega
                have HPN := Lib.hid hPN
                have eB := HM.out.endB
                have ko : Calls Try.prog 16 #[.pointer (some ⟨b2, 0, none⟩)] wr fun e w' => ∃ v, e = .returned v ∧ ∃ o', Step (fun x => 10 ≤ x ∧ x < 30 ∨ x = 33) wr o w' o' ∧ Two w1 w' o' (pr b1 b2) (upd (pr (outE A) B') 1 (outE B')) ∧ PRow w' o' (fun _ => 0) 33 v (outP B') :=
                  out_t HM.out.two (k := 1) (n := 10000) 33 (fun _ => 0) (by decide) (HJ.out.ch.fitB (by rw [HJ.out.wb]; exact hV1) (by rw [HJ.out.wb]; exact hW4) (by have := HJ.out.hb; omega)) (by decide) (by decide) (fun _ => .inl rfl) (fun _ => by decide)
                have KO := Lib.hid ko
                clear ko hPN HL
                rw [← htN] at hl0
                clear htN htn
                go_wp2_with fail
                refine KO.out.mono ?_
                rintro e w8 ⟨v8, rfl, o8, hs8, hT8, hQ8⟩
                have HM8 : Hid (CW w1 w8 o8 b1 b2 (outE A) (outE B') eb da db k (outE B').got ts) := HM.out.setB hs8 (by omega) hT8
                obtain ⟨qa, qc, rfl, hqc, hqcm, -⟩ := hQ8.cells
                obtain ⟨Q, hQ⟩ : ∃ Q, outP B' = Q := ⟨_, rfl⟩
                rw [hQ] at hQ8 hqc ⊢
                have HQ8 := Lib.hid hQ8
                have HQQ := Lib.hid hQ
                have HK8 := Lib.hid (CJ.acks HI.out HJ.out)
                clear hs8 hT8 hQ8 hQ KO HM eB
                go_wp2_with fail
                go_loopw [26] (fun jv wr => ∃ (j : Nat) (o : Nat → Nat) (A' : EndS), j ≤ Q.length ∧ jv = .int .i64 j ∧ Hid (CK W0 k i A.acked j A' (outE B')) ∧ Hid (CW w1 wr o b1 b2 A' (outE B') eb da db k (outE B').got ts) ∧ Hid (PRow wr o (fun _ => 0) 33 (.slice qa Q.length qc) Q)) (fun jv _ => Q.length - (intOf jv).toNat)
                case atStart => exact ⟨0, o8, outE A, by omega, rfl, HK8.out, HM8.out, HQ8.out⟩
                case round =>
                  clear HM8 HQ8 HK8
                  obtain ⟨j, o, A', hj, rfl, HK, HM, HQ⟩ := hrel
                  by_cases hjq : j < Q.length
                  · have dj : decide ((j : Int) < (Q.length : Int)) = true := decide_eq_true (by omega)
                    have dj' : decide (j < Q.length) = true := decide_eq_true hjq
                    have hq : Q[j]? = some (Q[j]'hjq) := List.getElem?_eq_getElem _
                    obtain ⟨q, hqq⟩ : ∃ q, Q[j]'hjq = q := ⟨_, rfl⟩
                    rw [hqq] at hq
                    obtain ⟨qg, ma, mc, rfl, -, -, y0, y1, y2, hdat⟩ := HQ.out.at hq
                    have HKN := Lib.hid (CK.next HJ.out HPN.out HK.out (by rw [HQQ.out]; exact hq))
                    have eA := HM.out.endA
                    have ki : Calls Try.prog 20 #[.pointer (some ⟨b1, 0, none⟩), .agg #[.int .i64 q.seq, .int .i64 q.ack, .slice ma q.b.length mc]] wr.drew fun e w' => ∃ v, e = .returned v ∧ ∃ o', Step (fun x => 10 ≤ x ∧ x < 30 ∨ x = 34) wr.drew o w' o' ∧ Two w1 w' o' (pr b1 b2) (upd (pr A' (outE B')) 0 (inE A' q)) ∧ MRow w' o' 34 v (inO A' q) :=
                      in_t (HM.out.same (Below.drew (Below.refl _ wr))).two (k := 0) (n := 1000) q 0 34 (by decide) (HK.out.ch.fitA (by rw [HK.out.wa]; exact hW1) (by rw [HK.out.wa]; exact hW2) (by rw [msgsI_len]; omega)) (by decide) (hdat.step (Step.same (L := fun _ => False) (Below.drew (Below.refl _ wr))) fun h => h) (.inl rfl) (by decide) (by decide)
                    have KI := Lib.hid ki
                    have HMd := Lib.hid (HM.out.same (Below.drew (Below.refl _ wr)))
                    have HQd := Lib.hid (PRow.step HQ.out (Step.same (L := fun _ => False) (Below.drew (Below.refl _ wr))) (fun h => h) fun _ _ h => h)
                    clear hq hqq hdat ki
                    go_upto_region 43 with fail
                    have r0 : (j : Int) < (Q.length : Int) := by omega
                    have r1 : (0 : Int) ≤ (j : Int) := by omega
                    go_still_tail 7, (by kernel_rfl)
                    change wpList _ _ _ _ _ wr.drew
                    go_wp2_with fail
                    refine KI.out.mono ?_
                    rintro e w12 ⟨v12, rfl, o12, hs12, hT12, -⟩
                    have HM12 := Lib.hid (HMd.out.setA hs12 (by omega) hT12)
                    have HQ12 := Lib.hid (PRow.step HQd.out hs12 (by omega) fun _ _ h => by omega)
                    clear hs12 hT12 KI HMd HQd y0 y1 y2 eA r0 r1
                    go_wp2_with fail
                    go_roundw
                    case rel => exact ⟨j + 1, o12, inE A' q, by omega, by go_num, HKN.out, HM12.out, HQ12.out⟩
                    case measure => simp [intOf]; omega
                  · have dj : decide ((j : Int) < (Q.length : Int)) = false := decide_eq_false (by omega)
                    have dj' : decide (j < Q.length) = false := decide_eq_false hjq
                    have HI9 : Hid (CI W0 W9 k (i + 1) A' (outE B') []) := CK.done HI.out HJ.out hl0 (by omega) HK.out (fun h10 ha => by have h1 := HJ.out.owes h10 ha (HPN.out h10 ha); rw [HQQ.out] at h1; omega)
                    have HM9 : Hid (CW w1 wr o b1 b2 A' (outE B') eb da db k (outE B').got ts) := HM.out
                    have HL9 : Hid (PRow wr o (fun _ => 0) 45 (.slice none 0 0) []) := ⟨[], RowL.nil _ _ _ _ _, PktsAt.nil _ _ _⟩
                    clear HQ HK
                    have hgk : (outE B').got ≤ k := by have := HI9.out.ch.a.go_le; rw [msgsI_len] at this; exact this
                    obtain ⟨tg, htg⟩ : ∃ t, ts[(outE B').got]? = some t := ⟨ts[(outE B').got]'(by rw [HTS.out.len, HN.out]; omega), List.getElem?_eq_getElem _⟩
                    have hM9 := HM9.out
                    obtain ⟨G9, hG9⟩ : ∃ G, (outE B').got = G := ⟨_, rfl⟩
                    rw [hG9] at hgk htg hM9
                    have htgl := HTS.out.small tg (List.mem_of_getElem? htg)
                    have HG9 := Lib.hid hG9
                    have K21 := Lib.hid (docAt_any 5 da k G9 _ tg wr o hM9.da (take_at htg hgk) (by omega))
                    have K20 := Lib.hid (docVersion_any 6 db G9 _ wr o hM9.db)
                    have K22 := Lib.hid fun W (hW : Below wr.heap.size wr W) => docText_any 6 db G9 _ tg W o (hM9.db.same hW) (take_at htg (Nat.le_refl _)) (by omega)
                    have HMM := Lib.hid hM9
                    have hne : ((strB tg).toList != (strB tg).toList) = false := by simp
                    clear htg hG9 hM9 HM9
                    go_wp2_with fail
                    refine K20.out.mono ?_
                    rintro e w20 ⟨rfl, rfl⟩
                    go_wp2_with fail
                    refine K21.out.mono ?_
                    rintro e w21 ⟨rfl, hb21⟩
                    go_wp2_with fail
                    refine (K22.out w21 hb21).mono ?_
                    rintro e w22 ⟨rfl, hb22⟩
                    have hb := Below.step hb21 hb22
                    have HM22 := Lib.hid (HMM.out.same hb)
                    have HL22 := Lib.hid (PRow.step HL9.out (Step.same (L := fun _ => False) hb) (fun h => h) fun _ _ h => h)
                    clear hb21 hb22 hb K20 K21 K22 HMM HL9
                    go_wp2_with fail
                    go_roundw
                    case rel => exact ⟨i + 1, o, A', outE B', [], by omega, by go_num, HI9.out, by have h := HM22.out; rw [← HG9.out] at h; exact h, HL22.out⟩
                    case measure => simp [intOf]; omega
        · have hie : i = 10 + k := by omega
          have d2 : decide ((i : Int) < 10 + (k : Int)) = false := decide_eq_false (by omega)
          rw [hie] at HI
          have hgot := HI.out.fin
          obtain ⟨tg, htg⟩ : ∃ t, ts[k]? = some t := ⟨ts[k]'(by rw [HTS.out.len, HN.out]; omega), List.getElem?_eq_getElem _⟩
          have hM9 := HM.out
          rw [hgot] at hM9
          have HMM := Lib.hid hM9
          have K20 := Lib.hid (docText_any 6 db k _ tg wr o hM9.db (take_at htg (Nat.le_refl _)) (by omega))
          have K21 := Lib.hid fun W (hW : Below wr.heap.size wr W) => docText_any 5 da k _ tg W o (hM9.da.same hW) (take_at htg (Nat.le_refl _)) (by omega)
          have K22 := Lib.hid fun W (hW : Below wr.heap.size wr W) => docVersion_any 6 db k _ W o (hM9.db.same hW)
          have heq : ((strB tg).toList == (strB tg).toList) = true := by simp
          have heqk : ((k : Int) == (k : Int)) = true := by simp
          clear hgot htg hM9 HM HI HL
          go_wp2_with fail
          refine K20.out.mono ?_
          rintro e w20 ⟨rfl, hb20⟩
          go_wp2_with fail
          refine (K21.out w20 hb20).mono ?_
          rintro e w21 ⟨rfl, hb21⟩
          have hb := Below.step hb20 hb21
          go_wp2_with fail
          refine (K22.out w21 hb).mono ?_
          rintro e w22 ⟨rfl, rfl⟩
          go_wp2_with fail
          refine (lives_any w21).mono ?_
          rintro e w23 ⟨rfl, hb23⟩
          go_wp2_with fail
          go_ret
          exact ⟨rfl, Below.step (Below.step hBw.out hb) hb23⟩
end Go.Proofs.Ytmonpnikdheokaa
