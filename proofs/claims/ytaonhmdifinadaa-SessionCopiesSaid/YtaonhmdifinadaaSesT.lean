/-
  The law SessionRuns.
-/
import Derived.Test.YtaonhmdifinadaaSesI
import Derived.Test.YtaonhmdifinadaaSesS
namespace Go.Proofs.Ytaonhmdifinadaa
open Go Go.Proofs
open Go.RowKit
set_option linter.unusedVariables false
set_option linter.unusedSimpArgs false

/-- The law's state in memory: the session, the model, the calls. -/
structure UW (w wr : World) (o : Nat → Nat) (b c : Nat) (S : SesS) (ov : Value) (ops : List OpM) : Prop where
  since : Step (fun x => x ≠ 0) w (fun _ => 0) wr o
  both : Both wr o 1 2 b c S
  ops : OpsL wr o 31 ov ops
section
variable {w wr w' : World} {o o' : Nat → Nat} {b c : Nat} {S S' : SesS} {ov : Value} {ops : List OpM}
theorem UW.same (h : UW w wr o b c S ov ops) (hb : Below wr.heap.size wr w') : UW w w' o b c S ov ops :=
  ⟨h.since.trans (Step.same hb), h.both.same hb, h.ops.step (Step.same (L := fun _ => False) hb) (fun h => h) (fun h => h)⟩
theorem UW.set (h : UW w wr o b c S ov ops) (hs : Step (Own2 1 2) wr o w' o') (hS : Both w' o' 1 2 b c S') : UW w w' o' b c S' ov ops :=
  ⟨h.since.trans (hs.mono fun l hl e => by unfold Own2 Own at hl; omega), hS, h.ops.step hs (by unfold Own2 Own; omega) (by unfold Own2 Own; omega)⟩
theorem UW.below (h : UW w wr o b c S ov ops) : Below w.heap.size w wr := h.since.toBelow (Nat.le_refl _) fun k _ h => h rfl
end

set_option maxRecDepth 100000 in
set_option maxHeartbeats 8000000 in
theorem sessionRuns_walk (a : Option Addr) (cap : Nat) (xs : List Int) (w : World) (hx : SliceAt w a cap (xs.map intV)) (hb : ∀ n ∈ xs, -9223372036854775808 ≤ n ∧ n ≤ 9223372036854775807) :
    Calls Try.prog 5 #[.slice a xs.length cap] w fun e w' => e = .returned (.bool true) ∧ Below w.heap.size w w' := by
  have hxl := hx.len
  simp only [List.length_map] at hxl
  have HX := Lib.hid hx
  have HB := Lib.hid hb
  clear hx hb
  go_enter Try.func5, Try.ntmps5
  go_wp2_with fail
  refine (snew_any 1 w (fun _ => 0)).mono ?_
  rintro e w1 ⟨b, rfl, o1, hs1, hS1⟩
  obtain ⟨w2, hw2⟩ : ∃ x, x = w1.alloc (.cells #[.slice none 0 0, .bool false, .int .i64 0, .slice none 0 0] 73) := ⟨_, rfl⟩
  obtain ⟨o2, ho2⟩ : ∃ x, newLab w1 o1 (10 * 2) = x := ⟨_, rfl⟩
  have hs2 : Step (fun _ => False) w1 o1 w2 o2 := by rw [hw2, ← ho2]; exact Step.newBlk _ _ _
  have hS2 : SesQ w2 o2 2 w1.heap.size newS := by rw [hw2, ← ho2]; exact SesAt.new
  obtain ⟨c, hc⟩ : ∃ c, w1.heap.size = c := ⟨_, rfl⟩
  rw [hc] at hS2
  have hd2 : Dat w2 o2 0 a cap (xs.map intV) := (Dat.step ⟨HX.out, fun _ _ _ _ => rfl⟩ hs1 (fun h => h)).step hs2 (fun h => h)
  have K2 := Lib.hid (ops_any a cap xs 31 w2 o2 hd2 HB.out (by decide))
  have HST2 := Lib.hid ((hs1.mono (L' := fun x => x ≠ 0) fun _ h => h.elim).trans (hs2.mono fun _ h => h.elim))
  have HS2 := Lib.hid (show Both w2 o2 1 2 b c newS from ⟨hS1.step hs2 fun _ _ h => h, hS2⟩)
  have HW2 := Lib.hid hw2
  have HC := Lib.hid hc
  clear hs1 hS1 hd2 hs2 hS2 hw2 ho2 hc
  go_wp2_with fail
  rw [HC.out, ← HW2.out]
  refine K2.out.mono ?_
  rintro e w3 ⟨v, o3, ops, rfl, hs3, hops, hlen⟩
  obtain ⟨ra, rc, rfl⟩ := hops.1.form
  have hle := hops.1.recAt.2.le
  have hcl := hops.1.recAt.2.cap_le
  obtain ⟨n, hn⟩ : ∃ n, ops.length = n := ⟨_, rfl⟩
  have hn30 : n ≤ 30 := by omega
  have hUW : UW w w3 o3 b c newS (.slice ra ops.length rc) ops := ⟨HST2.out.trans (hs3.mono fun l hl => by omega), HS2.out.step hs3 (fun l hl => by unfold Own2 Own at hl; omega), hops⟩
  rw [hn] at hUW hle ⊢
  have HN := Lib.hid hn
  have HUW := Lib.hid hUW
  clear hs3 hops hlen hn hUW K2 HST2 HS2 HW2 HC
  go_wp2_with fail
  go_loopw [6] (fun iv wr => ∃ (i : Nat) (o : Nat → Nat) (S : SesS), i ≤ n ∧ iv = .int .i64 i ∧ Hid (Good S) ∧ S.an.length ≤ 65 * i ∧ Hid (UW w wr o b c S (.slice ra n rc) ops)) (fun iv _ => 100 - (intOf iv).toNat)
  case atStart => exact ⟨0, o3, newS, by omega, rfl, good_new, by decide, HUW.out⟩
  case round =>
    clear HUW
    obtain ⟨i, o, S, hi, rfl, HG, han, HM⟩ := hrel
    by_cases hin : i < n
    · have d2 : decide (i < n) = true := decide_eq_true hin
      have d2' : decide ((i : Int) < (n : Int)) = true := decide_eq_true (by omega)
      obtain ⟨m, hm⟩ : ∃ m, ops[i]? = some m := ⟨ops[i]'(by rw [HN.out]; exact hin), List.getElem?_eq_getElem _⟩
      obtain ⟨g, oc, hsl, hgc, hgm, hop, hcells⟩ := HM.out.ops.cells hm
      rw [HN.out] at hgc
      simp only [Value.slice.injEq] at hsl
      obtain ⟨rfl, -, rfl⟩ := hsl
      have KA := Lib.hid (act_any 1 2 b c S m wr o (by omega) (by omega) (by omega) HM.out.both HG.out (by omega) hop)
      have HG2 := Lib.hid (good_op HG.out m)
      have hgr := op_grow HG.out m
      obtain ⟨T, hT⟩ : ∃ T, opS S m = T := ⟨_, rfl⟩
      rw [hT] at KA HG2 hgr
      have hrl := HG2.out.len
      have c0 := hcells 0 _ rfl
      have c1 := hcells 1 _ rfl
      have c2 := hcells 2 _ rfl
      have c3 := hcells 3 _ rfl
      have c4 := hcells 4 _ rfl
      have c5 := hcells 5 _ rfl
      have c6 := hcells 6 _ rfl
      have c7 := hcells 7 _ rfl
      have c8 := hcells 8 _ rfl
      have c9 := hcells 9 _ rfl
      simp only [Nat.add_zero] at c0
      clear hcells hm hop hT
      obtain ⟨kd, ⟨ri, rk, rd, rv, rof, rt⟩, nn, ee, oa, oc2, ol⟩ := m
      simp only at c0 c1 c2 c3 c4 c5 c6 c7 c8 c9 KA
      go_wp2_with fail
      refine KA.out.mono ?_
      rintro e w2 ⟨rfl, o2, hs2, hS2⟩
      have HM2 := Lib.hid (HM.out.set hs2 hS2)
      clear hs2 hS2 c0 c1 c2 c3 c4 c5 c6 c7 c8 c9 KA
      go_wp2_with fail
      refine (swaiting_any 1 b T w2 o2 HM2.out.both.ses (by omega)).mono ?_
      rintro e w3 ⟨v3, rfl, hown3, hb3⟩
      obtain ⟨a3, c3, rfl, hsl3⟩ := ownsRow_sliceMap hown3
      have HM3 := Lib.hid (HM2.out.same hb3)
      have HS3 := Lib.hid hsl3
      clear hown3 hb3 hsl3
      go_wp2_with fail
      refine (rwaiting_any 2 c T w3 o2 HM3.out.both.mod (by omega)).mono ?_
      rintro e w4 ⟨v4, rfl, hown4, hb4⟩
      obtain ⟨a4, c4, rfl, hsl4⟩ := ownsRow_sliceMap hown4
      have HM4 := Lib.hid (HM3.out.same hb4)
      have HS34 := Lib.hid (HS3.out.below hb4)
      have HS4 := Lib.hid hsl4
      clear hown4 hb4 hsl4
      go_wp2_with fail
      refine (sameInts_any a3 a4 c3 c4 (idsR T.rq) (idsR T.rq) w4 HS34.out HS4.out).mono ?_
      rw [decide_eq_true rfl]
      rintro e w5 ⟨rfl, hb5⟩
      have HM5 := Lib.hid (HM4.out.same hb5)
      clear hb5
      go_wp2_with fail
      go_roundw
      case rel => exact ⟨i + 1, o2, T, by omega, by go_num, HG2.out, by omega, HM5.out⟩
      case measure => simp [intOf]; omega
    · have hin2 : i = n := by omega
      subst hin2
      have hd := Below.drew (Below.refl wr.heap.size wr)
      have HMD := Lib.hid (HM.out.same hd)
      obtain ⟨qv, av, q1, q2, q3⟩ := HMD.out.both.mod
      obtain ⟨aq, cq, rfl⟩ := q3.form
      have HS0 : Hid (wr.drew.cell? ⟨c, 3, none⟩ = some (.slice aq S.an.length cq)) := q1.cell (j := 3) rfl
      have HQ1 := Lib.hid q1
      have HQ3 := Lib.hid q3
      have HBD := Lib.hid HMD.out.below
      clear q1 q2 q3 hd
      go_wp2_with fail
      refine wp_region_held_drew (S := fun W => W.cell? ⟨c, 3, none⟩ = some (.slice aq S.an.length cq)) (by kernel_rfl) (HS0.out) (fun h0 => ?_)
      (first | ((refine wpAnyH_take (i := 0) (oi := ⟨_, _, _, _, _, _⟩) (v := ?_) rfl (by kernel_rfl) (by kernel_rfl) (by kernel_rfl) (fun _ _ _ h => h) (Or.inl ⟨by rfl, ?_⟩) (by assumption) ?_); rotate_left; focus ((intro w hSw); (try dsimp only at hSw); go_simp; all_goals (with_reducible rfl))) | (refine wpAnyH_take (i := 0) (oi := ⟨_, _, _, _, _, _⟩) (v := undef) rfl (by kernel_rfl) (by kernel_rfl) (by kernel_rfl) (fun _ _ _ h => h) (Or.inr ⟨by rfl, rfl⟩) (by assumption) ?_))
      try simp only [Act.put, List.setIfInBounds_toArray, List.set_cons_zero, List.set_cons_succ]
      (first | ((refine wpAnyH_take (i := 2) (oi := ⟨_, _, _, _, _, _⟩) (v := ?_) rfl (by kernel_rfl) (by kernel_rfl) (by kernel_rfl) (fun _ _ _ h => h) (Or.inl ⟨by rfl, ?_⟩) (by assumption) ?_); rotate_left; focus ((intro w hSw); (try dsimp only at hSw); go_simp; all_goals (with_reducible rfl))) | (refine wpAnyH_take (i := 2) (oi := ⟨_, _, _, _, _, _⟩) (v := undef) rfl (by kernel_rfl) (by kernel_rfl) (by kernel_rfl) (fun _ _ _ h => h) (Or.inr ⟨by rfl, rfl⟩) (by assumption) ?_))
      try simp only [Act.put, List.setIfInBounds_toArray, List.set_cons_zero, List.set_cons_succ]
      (first | ((refine wpAnyH_take (i := 3) (oi := ⟨_, _, _, _, _, _⟩) (v := ?_) rfl (by kernel_rfl) (by kernel_rfl) (by kernel_rfl) (fun _ _ _ h => h) (Or.inl ⟨by rfl, ?_⟩) (by assumption) ?_); rotate_left; focus ((intro w hSw); (try dsimp only at hSw); go_simp; all_goals (with_reducible rfl))) | (refine wpAnyH_take (i := 3) (oi := ⟨_, _, _, _, _, _⟩) (v := undef) rfl (by kernel_rfl) (by kernel_rfl) (by kernel_rfl) (fun _ _ _ h => h) (Or.inr ⟨by rfl, rfl⟩) (by assumption) ?_))
      try simp only [Act.put, List.setIfInBounds_toArray, List.set_cons_zero, List.set_cons_succ]
      (first | ((refine wpAnyH_take (i := 4) (oi := ⟨_, _, _, _, _, _⟩) (v := ?_) rfl (by kernel_rfl) (by kernel_rfl) (by kernel_rfl) (fun _ _ _ h => h) (Or.inl ⟨by rfl, ?_⟩) (by assumption) ?_); rotate_left; focus ((intro w hSw); (try dsimp only at hSw); go_simp; all_goals (with_reducible rfl))) | (refine wpAnyH_take (i := 4) (oi := ⟨_, _, _, _, _, _⟩) (v := undef) rfl (by kernel_rfl) (by kernel_rfl) (by kernel_rfl) (fun _ _ _ h => h) (Or.inr ⟨by rfl, rfl⟩) (by assumption) ?_))
      try simp only [Act.put, List.setIfInBounds_toArray, List.set_cons_zero, List.set_cons_succ]
      (first | ((refine wpAnyH_take (i := 5) (oi := ⟨_, _, _, _, _, _⟩) (v := ?_) rfl (by kernel_rfl) (by kernel_rfl) (by kernel_rfl) (fun _ _ _ h => h) (Or.inl ⟨by rfl, ?_⟩) (by assumption) ?_); rotate_left; focus ((intro w hSw); (try dsimp only at hSw); go_simp; all_goals (with_reducible rfl))) | (refine wpAnyH_take (i := 5) (oi := ⟨_, _, _, _, _, _⟩) (v := undef) rfl (by kernel_rfl) (by kernel_rfl) (by kernel_rfl) (fun _ _ _ h => h) (Or.inr ⟨by rfl, rfl⟩) (by assumption) ?_))
      try simp only [Act.put, List.setIfInBounds_toArray, List.set_cons_zero, List.set_cons_succ]
      refine wpAnyH_ready (rs := [1]) (by kernel_rfl) (by simp) ?_
      refine AllReadyH.cons (o := ⟨_, _, _, _, _, _⟩) rfl (fun K hK => ?_) ?_
      · go_simp
        (with_reducible refine (answers_any 1 b S _ o (by omega) HMD.out.both.ses).mono ?_)
        rintro e w2 ⟨v, rfl, hs2, hS2, hrow⟩
        obtain ⟨xa, xc, rfl, hrec⟩ := hrow.at
        have HP2 := Lib.hid hS2
        have HA2 := Lib.hid hrec
        have HM1 := Lib.hid (HQ1.out.step hs2 (by unfold Own; omega))
        have HM3 := Lib.hid (HQ3.out.step hs2 (by unfold Own; omega))
        have HST2 := Lib.hid (HMD.out.since.trans (hs2.mono fun l h e => by unfold Own at h; omega))
        clear hs2 hS2 hrow hrec
        go_wp2_with fail
        refine hK.out _ _ (HM1.out.cell (j := 3) rfl) (fun h1 => ?_)
        clear hK K
        try simp only [Act.put, List.setIfInBounds_toArray, List.set_cons_zero, List.set_cons_succ]
        refine wpAnyH_ready (rs := [6]) (by kernel_rfl) (by simp) ?_
        refine AllReadyH.cons (o := ⟨_, _, _, _, _, _⟩) rfl (fun K hK => ?_) ?_
        · go_simp
          (with_reducible refine (sameA_any xa aq xc cq S.an w2 HA2.out HM3.out.recAt.2).mono ?_)
          rintro e w3 ⟨rfl, hb3⟩
          have HP3 := Lib.hid (HP2.out.same hb3)
          have HN1 := Lib.hid (HM1.out.step (Step.same (L := fun _ => False) hb3) fun h => h)
          have HST3 := Lib.hid (HST2.out.trans (Step.same hb3))
          clear hb3
          go_wp2_with fail
          refine hK.out _ _ (HN1.out.cell (j := 3) rfl) (fun h2 => ?_)
          clear hK K
          try simp only [Act.put, List.setIfInBounds_toArray, List.set_cons_zero, List.set_cons_succ]
          (first | ((refine wpAnyH_take (i := 7) (oi := ⟨_, _, _, _, _, _⟩) (v := ?_) rfl (by kernel_rfl) (by kernel_rfl) (by kernel_rfl) (fun _ _ _ h => h) (Or.inl ⟨by rfl, ?_⟩) (by assumption) ?_); rotate_left; focus ((intro w hSw); (try dsimp only at hSw); go_simp; all_goals (with_reducible rfl))) | (refine wpAnyH_take (i := 7) (oi := ⟨_, _, _, _, _, _⟩) (v := undef) rfl (by kernel_rfl) (by kernel_rfl) (by kernel_rfl) (fun _ _ _ h => h) (Or.inr ⟨by rfl, rfl⟩) (by assumption) ?_))
          try simp only [Act.put, List.setIfInBounds_toArray, List.set_cons_zero, List.set_cons_succ]
          (first | ((refine wpAnyH_take (i := 8) (oi := ⟨_, _, _, _, _, _⟩) (v := ?_) rfl (by kernel_rfl) (by kernel_rfl) (by kernel_rfl) (fun _ _ _ h => h) (Or.inl ⟨by rfl, ?_⟩) (by assumption) ?_); rotate_left; focus ((intro w hSw); (try dsimp only at hSw); go_simp; all_goals (with_reducible rfl))) | (refine wpAnyH_take (i := 8) (oi := ⟨_, _, _, _, _, _⟩) (v := undef) rfl (by kernel_rfl) (by kernel_rfl) (by kernel_rfl) (fun _ _ _ h => h) (Or.inr ⟨by rfl, rfl⟩) (by assumption) ?_))
          try simp only [Act.put, List.setIfInBounds_toArray, List.set_cons_zero, List.set_cons_succ]
          refine wpAnyH_ready (rs := [9]) (by kernel_rfl) (by simp) ?_
          refine AllReadyH.cons (o := ⟨_, _, _, _, _, _⟩) rfl (fun K hK => ?_) ?_
          · go_simp
            (with_reducible refine (answers_any 1 b (clrS S) w3 o (by omega) HP3.out).mono ?_)
            rintro e w4 ⟨v, rfl, hs4, hS4, hrow⟩
            obtain ⟨xa4, xc4, rfl, hrec⟩ := hrow.at
            rw [show (clrS S).an.length = 0 from rfl]
            have HN4 := Lib.hid (HN1.out.step hs4 (by unfold Own; omega))
            have HST4 := Lib.hid (HST3.out.trans (hs4.mono fun l h e => by unfold Own at h; omega))
            clear hs4 hS4 hrow hrec
            go_wp2_with fail
            refine hK.out _ _ (HN4.out.cell (j := 3) rfl) (fun h3 => ?_)
            clear hK K
            try simp only [Act.put, List.setIfInBounds_toArray, List.set_cons_zero, List.set_cons_succ]
            (first | ((refine wpAnyH_take (i := 10) (oi := ⟨_, _, _, _, _, _⟩) (v := ?_) rfl (by kernel_rfl) (by kernel_rfl) (by kernel_rfl) (fun _ _ _ h => h) (Or.inl ⟨by rfl, ?_⟩) (by assumption) ?_); rotate_left; focus ((intro w hSw); (try dsimp only at hSw); go_simp; all_goals (with_reducible rfl))) | (refine wpAnyH_take (i := 10) (oi := ⟨_, _, _, _, _, _⟩) (v := undef) rfl (by kernel_rfl) (by kernel_rfl) (by kernel_rfl) (fun _ _ _ h => h) (Or.inr ⟨by rfl, rfl⟩) (by assumption) ?_))
            try simp only [Act.put, List.setIfInBounds_toArray, List.set_cons_zero, List.set_cons_succ]
            (first | ((refine wpAnyH_take (i := 11) (oi := ⟨_, _, _, _, _, _⟩) (v := ?_) rfl (by kernel_rfl) (by kernel_rfl) (by kernel_rfl) (fun _ _ _ h => h) (Or.inl ⟨by rfl, ?_⟩) (by assumption) ?_); rotate_left; focus ((intro w hSw); (try dsimp only at hSw); go_simp; all_goals (with_reducible rfl))) | (refine wpAnyH_take (i := 11) (oi := ⟨_, _, _, _, _, _⟩) (v := undef) rfl (by kernel_rfl) (by kernel_rfl) (by kernel_rfl) (fun _ _ _ h => h) (Or.inr ⟨by rfl, rfl⟩) (by assumption) ?_))
            try simp only [Act.put, List.setIfInBounds_toArray, List.set_cons_zero, List.set_cons_succ]
            (first | ((refine wpAnyH_take (i := 12) (oi := ⟨_, _, _, _, _, _⟩) (v := ?_) rfl (by kernel_rfl) (by kernel_rfl) (by kernel_rfl) (fun _ _ _ h => h) (Or.inl ⟨by rfl, ?_⟩) (by assumption) ?_); rotate_left; focus ((intro w hSw); (try dsimp only at hSw); go_simp; all_goals (with_reducible rfl))) | (refine wpAnyH_take (i := 12) (oi := ⟨_, _, _, _, _, _⟩) (v := undef) rfl (by kernel_rfl) (by kernel_rfl) (by kernel_rfl) (fun _ _ _ h => h) (Or.inr ⟨by rfl, rfl⟩) (by assumption) ?_))
            try simp only [Act.put, List.setIfInBounds_toArray, List.set_cons_zero, List.set_cons_succ]
            (first | ((refine wpAnyH_take (i := 13) (oi := ⟨_, _, _, _, _, _⟩) (v := ?_) rfl (by kernel_rfl) (by kernel_rfl) (by kernel_rfl) (fun _ _ _ h => h) (Or.inl ⟨by rfl, ?_⟩) (by assumption) ?_); rotate_left; focus ((intro w hSw); (try dsimp only at hSw); go_simp; all_goals (with_reducible rfl))) | (refine wpAnyH_take (i := 13) (oi := ⟨_, _, _, _, _, _⟩) (v := undef) rfl (by kernel_rfl) (by kernel_rfl) (by kernel_rfl) (fun _ _ _ h => h) (Or.inr ⟨by rfl, rfl⟩) (by assumption) ?_))
            try simp only [Act.put, List.setIfInBounds_toArray, List.set_cons_zero, List.set_cons_succ]
            refine wpAnyH_ready (rs := [14]) (by kernel_rfl) (by simp) ?_
            refine AllReadyH.cons (o := ⟨_, _, _, _, _, _⟩) rfl (fun K hK => ?_) ?_
            · go_simp
              (with_reducible refine (lives_any w4).mono ?_)
              rintro e w5 ⟨rfl, hb5⟩
              have HST5 := Lib.hid (HST4.out.trans (Step.same hb5))
              have HN5 := Lib.hid (HN4.out.step (Step.same (L := fun _ => False) hb5) fun h => h)
              clear hb5
              go_wp2_with fail
              refine hK.out _ _ (HN5.out.cell (j := 3) rfl) (fun h4 => ?_)
              clear hK K
              try simp only [Act.put, List.setIfInBounds_toArray, List.set_cons_zero, List.set_cons_succ]
              (first | ((refine wpAnyH_take (i := 15) (oi := ⟨_, _, _, _, _, _⟩) (v := ?_) rfl (by kernel_rfl) (by kernel_rfl) (by kernel_rfl) (fun _ _ _ h => h) (Or.inl ⟨by rfl, ?_⟩) (by assumption) ?_); rotate_left; focus ((intro w hSw); (try dsimp only at hSw); go_simp; all_goals (with_reducible rfl))) | (refine wpAnyH_take (i := 15) (oi := ⟨_, _, _, _, _, _⟩) (v := undef) rfl (by kernel_rfl) (by kernel_rfl) (by kernel_rfl) (fun _ _ _ h => h) (Or.inr ⟨by rfl, rfl⟩) (by assumption) ?_))
              try simp only [Act.put, List.setIfInBounds_toArray, List.set_cons_zero, List.set_cons_succ]
              (first | ((refine wpAnyH_take (i := 16) (oi := ⟨_, _, _, _, _, _⟩) (v := ?_) rfl (by kernel_rfl) (by kernel_rfl) (by kernel_rfl) (fun _ _ _ h => h) (Or.inl ⟨by rfl, ?_⟩) (by assumption) ?_); rotate_left; focus ((intro w hSw); (try dsimp only at hSw); go_simp; all_goals (with_reducible rfl))) | (refine wpAnyH_take (i := 16) (oi := ⟨_, _, _, _, _, _⟩) (v := undef) rfl (by kernel_rfl) (by kernel_rfl) (by kernel_rfl) (fun _ _ _ h => h) (Or.inr ⟨by rfl, rfl⟩) (by assumption) ?_))
              try simp only [Act.put, List.setIfInBounds_toArray, List.set_cons_zero, List.set_cons_succ]
              refine wpAnyH_done (by kernel_rfl) ?_ _
              clear h0 h1 h2 h3 h4
              go_wp2_with fail
              go_ret
              exact ⟨rfl, HST5.out.toBelow (Nat.le_refl _) fun k _ h => h rfl⟩
            exact AllReadyH.nil
          exact AllReadyH.nil
        exact AllReadyH.nil
      exact AllReadyH.nil
end Go.Proofs.Ytaonhmdifinadaa
