/-
  One call on a session and on the model, with what happens to the model's rows.
-/
import Derived.Test.YtaonhmdifinadaaScN
import Derived.Deep.DeepCutAuto
import Derived.Deep.CutBlock
namespace Go.Proofs.Ytaonhmdifinadaa
open Go Go.Proofs
open Go.RowKit
set_option linter.unusedVariables false
set_option linter.unusedSimpArgs false
/-- A session and its model, with what happened to the model's rows. -/
structure BothG (w0 : World) (rv0 av0 : Value) (R0 : Nat) (A0 : List Value) (w : World) (o : Nat → Nat) (i j b c : Nat) (S : SesS) : Prop where
  ses : SesP w o i b S
  mod : SesG 60 84 w0 rv0 av0 R0 A0 w o j c S
section
variable {w0 w w' : World} {o o' : Nat → Nat} {i j b c R0 : Nat} {S : SesS} {L : Nat → Prop} {rv0 av0 : Value} {A0 : List Value}
theorem BothG.step (h : BothG w0 rv0 av0 R0 A0 w o i j b c S) (hs : Step L w o w' o') (hl : ∀ l, Own2 i j l → ¬ L l) : BothG w0 rv0 av0 R0 A0 w' o' i j b c S :=
  ⟨h.ses.step hs fun l h => hl l (.inl h), h.mod.step hs fun l h => hl l (.inr h)⟩
theorem BothG.same (h : BothG w0 rv0 av0 R0 A0 w o i j b c S) (hb : Below w.heap.size w w') : BothG w0 rv0 av0 R0 A0 w' o i j b c S := h.step (L := fun _ => False) (Step.same hb) fun _ _ h => h
end
set_option maxRecDepth 100000 in
set_option maxHeartbeats 8000000 in
theorem gact_any {w0 : World} {rv0 av0 : Value} {R0 : Nat} {A0 : List Value} (i j b c : Nat) (S : SesS) (m : OpM) (w : World) (o : Nat → Nat) (hi : 1 ≤ i) (hj : 1 ≤ j) (hij : i ≠ j) (hS : BothG w0 rv0 av0 R0 A0 w o i j b c S) (hG : Good S) (ha : S.an.length ≤ 10000) (hm : OpAt w o m) :
    Calls Try.prog 30 #[.pointer (some ⟨b, 0, none⟩), .pointer (some ⟨c, 0, none⟩), .agg #[.int .i64 m.kind, .int .i64 m.r.id, .int .i64 m.r.kind, .string m.r.doc, .int .i64 m.r.ver, .int .i64 m.r.off, .string m.r.txt, .int .i64 m.n, .int .i64 m.e, .slice m.la m.l.length m.lc]] w fun e w' =>
      e = .returned (.bool true) ∧ ∃ o', Step (Own2 i j) w o w' o' ∧ SesP w' o' i b (opS S m) ∧ (m.kind ≠ 4 → SesG 60 84 w0 rv0 av0 R0 A0 w' o' j c (opS S m)) ∧ (m.kind = 4 → ∃ rv av, SesVQ w' o' j c rv (.slice none 0 0) (opS S m) ∧ Hist w0 j rv0 av0 R0 A0 w' o' rv av (S.rq.flatMap rqC) (S.an.flatMap anC)) := by
  obtain ⟨hmb, hml⟩ := hm
  have hkk := opB_kind hmb
  have hod := hmb.d
  have hot := hmb.t
  have hl2 := hmb.l
  have hn0 := hmb.n0
  have hn1 := hmb.n1
  have hrl := hG.len
  obtain ⟨kd, ⟨ri, rk, rd, rv, rof, rt⟩, nn, ee, oa, oc, ol⟩ := m
  simp only at hkk hod hot hl2 hn0 hn1 hml
  have hnot0 : ¬ Own2 i j 0 := by unfold Own2 Own; omega
  have hnij : ∀ l, Own i l → ¬ Own j l := fun l h => own_ne hij h
  have hnji : ∀ l, Own j l → ¬ Own i l := fun l h => own_ne (fun e => hij e.symm) h
  obtain ⟨w1, hw1⟩ : ∃ x, x = w.alloc (.cells #[.int .i64 kd, .int .i64 ri, .int .i64 rk, .string rd, .int .i64 rv, .int .i64 rof, .string rt, .int .i64 nn, .int .i64 ee, .slice oa ol.length oc] 63) := ⟨_, rfl⟩
  obtain ⟨o1, ho1⟩ : ∃ x, newLab w o 0 = x := ⟨_, rfl⟩
  have hs1 : Step (fun _ => False) w o w1 o1 := by rw [hw1, ← ho1]; exact Step.newBlk _ _ _
  have hb1 : Blk w1 o1 0 w.heap.size [.int .i64 kd, .int .i64 ri, .int .i64 rk, .string rd, .int .i64 rv, .int .i64 rof, .string rt, .int .i64 nn, .int .i64 ee, .slice oa ol.length oc] := by
    rw [hw1, ← ho1]; exact ⟨_, heap_alloc_new _ _, newLab_new _ _ _ (Nat.le_refl _)⟩
  have HS1 := Lib.hid (hS.step hs1 fun _ _ h => h)
  have HL1 := Lib.hid (hml.step hs1 fun h => h)
  have HST1 := Lib.hid (hs1.mono (L' := Own2 i j) fun _ h => h.elim)
  have HW1 := Lib.hid hw1
  have hlc := hml.1.le
  have hlm := hml.1.cap_le
  try simp only at hlc hlm
  obtain ⟨gw, hgw⟩ : ∃ gw, w.heap.size = gw := ⟨_, rfl⟩
  rw [hgw] at hb1
  have HB1 := Lib.hid hb1
  have HG := Lib.hid hG
  have HNIJ := Lib.hid hnij
  have HNJI := Lib.hid hnji
  have HN0 := Lib.hid hnot0
  have HMB := Lib.hid hmb
  have c0 := hb1.cell (j := 0) rfl
  have d0 : w1.drew.cell? ⟨gw, 0, none⟩ = some (.int .i64 kd) := c0
  have c1 := hb1.cell (j := 1) rfl
  have c2 := hb1.cell (j := 2) rfl
  have c3 := hb1.cell (j := 3) rfl
  have c4 := hb1.cell (j := 4) rfl
  have c5 := hb1.cell (j := 5) rfl
  have c6 := hb1.cell (j := 6) rfl
  have c7 := hb1.cell (j := 7) rfl
  have c8 := hb1.cell (j := 8) rfl
  have c9 := hb1.cell (j := 9) rfl
  have HCD := Lib.hid (show w1.drew.cell? ⟨gw, 1, none⟩ = some (.int .i64 ri) ∧ w1.drew.cell? ⟨gw, 2, none⟩ = some (.int .i64 rk) ∧ w1.drew.cell? ⟨gw, 3, none⟩ = some (.string rd) ∧ w1.drew.cell? ⟨gw, 4, none⟩ = some (.int .i64 rv) ∧ w1.drew.cell? ⟨gw, 5, none⟩ = some (.int .i64 rof) ∧ w1.drew.cell? ⟨gw, 6, none⟩ = some (.string rt) from ⟨c1, c2, c3, c4, c5, c6⟩)
  have HC7 := Lib.hid (show w1.drew.cell? ⟨gw, 7, none⟩ = some (.int .i64 nn) from c7)
  have HC89 := Lib.hid (show w1.drew.cell? ⟨gw, 8, none⟩ = some (.int .i64 ee) ∧ w1.drew.cell? ⟨gw, 9, none⟩ = some (.slice oa ol.length oc) from ⟨c8, c9⟩)
  have hd := Below.drew (Below.refl w1.heap.size w1)
  have HSD := Lib.hid (HS1.out.same hd)
  have HLD := Lib.hid (HL1.out.same hd)
  have HBD := Lib.hid (HB1.out.step (Step.same (L := fun _ => False) hd) fun h => h)
  have HSTD := Lib.hid (HST1.out.trans (Step.same hd))
  rw [hw1] at c0
  rw [← hgw] at c0
  obtain ⟨T, hT⟩ : ∃ T, opS S ⟨kd, ⟨ri, rk, rd, rv, rof, rt⟩, nn, ee, oa, oc, ol⟩ = T := ⟨_, rfl⟩
  rw [hT]
  have HT := Lib.hid hT
  clear hw1 ho1 hs1 hb1 hS hml hG hnij hnji hnot0 hmb hT hd c1 c2 c3 c4 c5 c6 c7 c8 c9 d0
  go_enter Try.func30, Try.ntmps30
  rcases hkk with rfl | rfl | rfl | rfl | rfl
  · as_aux_lemma =>
    have HT0 : Hid (begS S ⟨ri, rk, rd, rv, rof, rt⟩ = T) := HT.out
    go_upto_region 3 with fail
    rw [← HW1.out]
    refine wp_region_held_drew (S := fun W => W.cell? ⟨gw, 1, none⟩ = some (.int .i64 ri) ∧ W.cell? ⟨gw, 2, none⟩ = some (.int .i64 rk) ∧ W.cell? ⟨gw, 3, none⟩ = some (.string rd) ∧ W.cell? ⟨gw, 4, none⟩ = some (.int .i64 rv) ∧ W.cell? ⟨gw, 5, none⟩ = some (.int .i64 rof) ∧ W.cell? ⟨gw, 6, none⟩ = some (.string rt)) (by kernel_rfl) (HCD.out) (fun h0 => ?_)
    (first | ((refine wpAnyH_take (i := 0) (oi := ⟨_, _, _, _, _, _⟩) (v := ?_) rfl (by kernel_rfl) (by kernel_rfl) (by kernel_rfl) (fun _ _ _ h => h) (Or.inl ⟨by rfl, ?_⟩) (by assumption) ?_); rotate_left; focus ((intro w hSw); (try dsimp only at hSw); go_simp; all_goals (with_reducible rfl))) | (refine wpAnyH_take (i := 0) (oi := ⟨_, _, _, _, _, _⟩) (v := undef) rfl (by kernel_rfl) (by kernel_rfl) (by kernel_rfl) (fun _ _ _ h => h) (Or.inr ⟨by rfl, rfl⟩) (by assumption) ?_))
    try simp only [Act.put, List.setIfInBounds_toArray, List.set_cons_zero, List.set_cons_succ]
    (first | ((refine wpAnyH_take (i := 1) (oi := ⟨_, _, _, _, _, _⟩) (v := ?_) rfl (by kernel_rfl) (by kernel_rfl) (by kernel_rfl) (fun _ _ _ h => h) (Or.inl ⟨by rfl, ?_⟩) (by assumption) ?_); rotate_left; focus ((intro w hSw); (try dsimp only at hSw); go_simp; all_goals (with_reducible rfl))) | (refine wpAnyH_take (i := 1) (oi := ⟨_, _, _, _, _, _⟩) (v := undef) rfl (by kernel_rfl) (by kernel_rfl) (by kernel_rfl) (fun _ _ _ h => h) (Or.inr ⟨by rfl, rfl⟩) (by assumption) ?_))
    try simp only [Act.put, List.setIfInBounds_toArray, List.set_cons_zero, List.set_cons_succ]
    (first | ((refine wpAnyH_take (i := 2) (oi := ⟨_, _, _, _, _, _⟩) (v := ?_) rfl (by kernel_rfl) (by kernel_rfl) (by kernel_rfl) (fun _ _ _ h => h) (Or.inl ⟨by rfl, ?_⟩) (by assumption) ?_); rotate_left; focus ((intro w hSw); (try dsimp only at hSw); go_simp; all_goals (with_reducible rfl))) | (refine wpAnyH_take (i := 2) (oi := ⟨_, _, _, _, _, _⟩) (v := undef) rfl (by kernel_rfl) (by kernel_rfl) (by kernel_rfl) (fun _ _ _ h => h) (Or.inr ⟨by rfl, rfl⟩) (by assumption) ?_))
    try simp only [Act.put, List.setIfInBounds_toArray, List.set_cons_zero, List.set_cons_succ]
    (first | ((refine wpAnyH_take (i := 5) (oi := ⟨_, _, _, _, _, _⟩) (v := ?_) rfl (by kernel_rfl) (by kernel_rfl) (by kernel_rfl) (fun _ _ _ h => h) (Or.inl ⟨by rfl, ?_⟩) (by assumption) ?_); rotate_left; focus ((intro w hSw); (try dsimp only at hSw); go_simp; all_goals (with_reducible rfl))) | (refine wpAnyH_take (i := 5) (oi := ⟨_, _, _, _, _, _⟩) (v := undef) rfl (by kernel_rfl) (by kernel_rfl) (by kernel_rfl) (fun _ _ _ h => h) (Or.inr ⟨by rfl, rfl⟩) (by assumption) ?_))
    try simp only [Act.put, List.setIfInBounds_toArray, List.set_cons_zero, List.set_cons_succ]
    (first | ((refine wpAnyH_take (i := 6) (oi := ⟨_, _, _, _, _, _⟩) (v := ?_) rfl (by kernel_rfl) (by kernel_rfl) (by kernel_rfl) (fun _ _ _ h => h) (Or.inl ⟨by rfl, ?_⟩) (by assumption) ?_); rotate_left; focus ((intro w hSw); (try dsimp only at hSw); go_simp; all_goals (with_reducible rfl))) | (refine wpAnyH_take (i := 6) (oi := ⟨_, _, _, _, _, _⟩) (v := undef) rfl (by kernel_rfl) (by kernel_rfl) (by kernel_rfl) (fun _ _ _ h => h) (Or.inr ⟨by rfl, rfl⟩) (by assumption) ?_))
    try simp only [Act.put, List.setIfInBounds_toArray, List.set_cons_zero, List.set_cons_succ]
    (first | ((refine wpAnyH_take (i := 7) (oi := ⟨_, _, _, _, _, _⟩) (v := ?_) rfl (by kernel_rfl) (by kernel_rfl) (by kernel_rfl) (fun _ _ _ h => h) (Or.inl ⟨by rfl, ?_⟩) (by assumption) ?_); rotate_left; focus ((intro w hSw); (try dsimp only at hSw); go_simp; all_goals (with_reducible rfl))) | (refine wpAnyH_take (i := 7) (oi := ⟨_, _, _, _, _, _⟩) (v := undef) rfl (by kernel_rfl) (by kernel_rfl) (by kernel_rfl) (fun _ _ _ h => h) (Or.inr ⟨by rfl, rfl⟩) (by assumption) ?_))
    try simp only [Act.put, List.setIfInBounds_toArray, List.set_cons_zero, List.set_cons_succ]
    refine wpAnyH_ready (rs := [3]) (by kernel_rfl) (by simp) ?_
    refine AllReadyH.cons (o := ⟨_, _, _, _, _, _⟩) rfl (fun K hK => ?_) ?_
    · go_simp
      (with_reducible refine (of_any ⟨ri, rk, rd, rv, rof, rt⟩ _).mono ?_)
      rintro e w2 ⟨rfl, hb2⟩
      have HS2 := Lib.hid (HSD.out.same hb2)
      have HB2 := Lib.hid (HBD.out.step (Step.same (L := fun _ => False) hb2) fun h => h)
      have HST2 := Lib.hid (HSTD.out.trans (Step.same hb2))
      clear hb2
      go_wp2_with fail
      refine hK.out _ _ ⟨HB2.out.cell (j := 1) rfl, HB2.out.cell (j := 2) rfl, HB2.out.cell (j := 3) rfl, HB2.out.cell (j := 4) rfl, HB2.out.cell (j := 5) rfl, HB2.out.cell (j := 6) rfl⟩ (fun h1 => ?_)
      clear hK K
      try simp only [Act.put, List.setIfInBounds_toArray, List.set_cons_zero, List.set_cons_succ]
      refine wpAnyH_ready (rs := [4]) (by kernel_rfl) (by simp) ?_
      refine AllReadyH.cons (o := ⟨_, _, _, _, _, _⟩) rfl (fun K hK => ?_) ?_
      · go_simp
        (with_reducible refine (begin_any i b S ⟨ri, rk, rd, rv, rof, rt⟩ w2 o1 hi HS2.out.ses HG.out (by show rd.size ≤ _; omega) (by show rt.size ≤ _; omega)).mono ?_)
        rintro e w3 ⟨rfl, o3, hs3, hS3⟩
        have HB3 := Lib.hid (HB2.out.step hs3 fun h => HN0.out (.inl h))
        have HQ3 := Lib.hid (HS2.out.mod.step hs3 HNJI.out)
        have HP3 := Lib.hid hS3
        have HST3 := Lib.hid (HST2.out.trans (hs3.mono fun l h => .inl h))
        clear hs3 hS3
        go_wp2_with fail
        refine hK.out _ _ ⟨HB3.out.cell (j := 1) rfl, HB3.out.cell (j := 2) rfl, HB3.out.cell (j := 3) rfl, HB3.out.cell (j := 4) rfl, HB3.out.cell (j := 5) rfl, HB3.out.cell (j := 6) rfl⟩ (fun h2 => ?_)
        clear hK K
        try simp only [Act.put, List.setIfInBounds_toArray, List.set_cons_zero, List.set_cons_succ]
        refine wpAnyH_ready (rs := [8]) (by kernel_rfl) (by simp) ?_
        refine AllReadyH.cons (o := ⟨_, _, _, _, _, _⟩) rfl (fun K hK => ?_) ?_
        · go_simp
          (with_reducible refine (gbegin_any j c S ⟨ri, rk, rd, rv, rof, rt⟩ w3 o3 hj HQ3.out HG.out (by show rd.size ≤ _; omega) (by show rt.size ≤ _; omega)).mono ?_)
          rintro e w4 ⟨rfl, o4, hs4, hS4⟩
          have HB4 := Lib.hid (HB3.out.step hs4 fun h => HN0.out (.inr h))
          have HP4 := Lib.hid (HP3.out.step hs4 HNIJ.out)
          have HQ4 := Lib.hid hS4
          have HST4 := Lib.hid (HST3.out.trans (hs4.mono fun l h => .inr h))
          clear hs4 hS4
          go_wp2_with fail
          refine hK.out _ _ ⟨HB4.out.cell (j := 1) rfl, HB4.out.cell (j := 2) rfl, HB4.out.cell (j := 3) rfl, HB4.out.cell (j := 4) rfl, HB4.out.cell (j := 5) rfl, HB4.out.cell (j := 6) rfl⟩ (fun h3 => ?_)
          clear hK K
          try simp only [Act.put, List.setIfInBounds_toArray, List.set_cons_zero, List.set_cons_succ]
          (first | ((refine wpAnyH_take (i := 9) (oi := ⟨_, _, _, _, _, _⟩) (v := ?_) rfl (by kernel_rfl) (by kernel_rfl) (by kernel_rfl) (fun _ _ _ h => h) (Or.inl ⟨by rfl, ?_⟩) (by assumption) ?_); rotate_left; focus ((intro w hSw); (try dsimp only at hSw); go_simp; all_goals (with_reducible rfl))) | (refine wpAnyH_take (i := 9) (oi := ⟨_, _, _, _, _, _⟩) (v := undef) rfl (by kernel_rfl) (by kernel_rfl) (by kernel_rfl) (fun _ _ _ h => h) (Or.inr ⟨by rfl, rfl⟩) (by assumption) ?_))
          try simp only [Act.put, List.setIfInBounds_toArray, List.set_cons_zero, List.set_cons_succ]
          (first | ((refine wpAnyH_take (i := 10) (oi := ⟨_, _, _, _, _, _⟩) (v := ?_) rfl (by kernel_rfl) (by kernel_rfl) (by kernel_rfl) (fun _ _ _ h => h) (Or.inl ⟨by rfl, ?_⟩) (by assumption) ?_); rotate_left; focus ((intro w hSw); (try dsimp only at hSw); go_simp; all_goals (with_reducible rfl))) | (refine wpAnyH_take (i := 10) (oi := ⟨_, _, _, _, _, _⟩) (v := undef) rfl (by kernel_rfl) (by kernel_rfl) (by kernel_rfl) (fun _ _ _ h => h) (Or.inr ⟨by rfl, rfl⟩) (by assumption) ?_))
          try simp only [Act.put, List.setIfInBounds_toArray, List.set_cons_zero, List.set_cons_succ]
          refine wpAnyH_done (by kernel_rfl) ?_ _
          go_wp2_with fail
          go_ret
          exact ⟨rfl, o4, HST4.out, by rw [← HT0.out]; exact HP4.out, fun _ => by rw [← HT0.out]; exact HQ4.out, fun h => absurd h (by decide)⟩
        exact AllReadyH.nil
      exact AllReadyH.nil
    exact AllReadyH.nil
  · as_aux_lemma =>
    have HT0 : Hid (canS S nn = T) := HT.out
    go_upto_region 5 with fail
    rw [← HW1.out]
    refine wp_region_held_drew (S := fun W => W.cell? ⟨gw, 7, none⟩ = some (.int .i64 nn)) (by kernel_rfl) (HC7.out) (fun h0 => ?_)
    (first | ((refine wpAnyH_take (i := 0) (oi := ⟨_, _, _, _, _, _⟩) (v := ?_) rfl (by kernel_rfl) (by kernel_rfl) (by kernel_rfl) (fun _ _ _ h => h) (Or.inl ⟨by rfl, ?_⟩) (by assumption) ?_); rotate_left; focus ((intro w hSw); (try dsimp only at hSw); go_simp; all_goals (with_reducible rfl))) | (refine wpAnyH_take (i := 0) (oi := ⟨_, _, _, _, _, _⟩) (v := undef) rfl (by kernel_rfl) (by kernel_rfl) (by kernel_rfl) (fun _ _ _ h => h) (Or.inr ⟨by rfl, rfl⟩) (by assumption) ?_))
    try simp only [Act.put, List.setIfInBounds_toArray, List.set_cons_zero, List.set_cons_succ]
    (first | ((refine wpAnyH_take (i := 1) (oi := ⟨_, _, _, _, _, _⟩) (v := ?_) rfl (by kernel_rfl) (by kernel_rfl) (by kernel_rfl) (fun _ _ _ h => h) (Or.inl ⟨by rfl, ?_⟩) (by assumption) ?_); rotate_left; focus ((intro w hSw); (try dsimp only at hSw); go_simp; all_goals (with_reducible rfl))) | (refine wpAnyH_take (i := 1) (oi := ⟨_, _, _, _, _, _⟩) (v := undef) rfl (by kernel_rfl) (by kernel_rfl) (by kernel_rfl) (fun _ _ _ h => h) (Or.inr ⟨by rfl, rfl⟩) (by assumption) ?_))
    try simp only [Act.put, List.setIfInBounds_toArray, List.set_cons_zero, List.set_cons_succ]
    (first | ((refine wpAnyH_take (i := 2) (oi := ⟨_, _, _, _, _, _⟩) (v := ?_) rfl (by kernel_rfl) (by kernel_rfl) (by kernel_rfl) (fun _ _ _ h => h) (Or.inl ⟨by rfl, ?_⟩) (by assumption) ?_); rotate_left; focus ((intro w hSw); (try dsimp only at hSw); go_simp; all_goals (with_reducible rfl))) | (refine wpAnyH_take (i := 2) (oi := ⟨_, _, _, _, _, _⟩) (v := undef) rfl (by kernel_rfl) (by kernel_rfl) (by kernel_rfl) (fun _ _ _ h => h) (Or.inr ⟨by rfl, rfl⟩) (by assumption) ?_))
    try simp only [Act.put, List.setIfInBounds_toArray, List.set_cons_zero, List.set_cons_succ]
    (first | ((refine wpAnyH_take (i := 4) (oi := ⟨_, _, _, _, _, _⟩) (v := ?_) rfl (by kernel_rfl) (by kernel_rfl) (by kernel_rfl) (fun _ _ _ h => h) (Or.inl ⟨by rfl, ?_⟩) (by assumption) ?_); rotate_left; focus ((intro w hSw); (try dsimp only at hSw); go_simp; all_goals (with_reducible rfl))) | (refine wpAnyH_take (i := 4) (oi := ⟨_, _, _, _, _, _⟩) (v := undef) rfl (by kernel_rfl) (by kernel_rfl) (by kernel_rfl) (fun _ _ _ h => h) (Or.inr ⟨by rfl, rfl⟩) (by assumption) ?_))
    try simp only [Act.put, List.setIfInBounds_toArray, List.set_cons_zero, List.set_cons_succ]
    (first | ((refine wpAnyH_take (i := 5) (oi := ⟨_, _, _, _, _, _⟩) (v := ?_) rfl (by kernel_rfl) (by kernel_rfl) (by kernel_rfl) (fun _ _ _ h => h) (Or.inl ⟨by rfl, ?_⟩) (by assumption) ?_); rotate_left; focus ((intro w hSw); (try dsimp only at hSw); go_simp; all_goals (with_reducible rfl))) | (refine wpAnyH_take (i := 5) (oi := ⟨_, _, _, _, _, _⟩) (v := undef) rfl (by kernel_rfl) (by kernel_rfl) (by kernel_rfl) (fun _ _ _ h => h) (Or.inr ⟨by rfl, rfl⟩) (by assumption) ?_))
    try simp only [Act.put, List.setIfInBounds_toArray, List.set_cons_zero, List.set_cons_succ]
    (first | ((refine wpAnyH_take (i := 6) (oi := ⟨_, _, _, _, _, _⟩) (v := ?_) rfl (by kernel_rfl) (by kernel_rfl) (by kernel_rfl) (fun _ _ _ h => h) (Or.inl ⟨by rfl, ?_⟩) (by assumption) ?_); rotate_left; focus ((intro w hSw); (try dsimp only at hSw); go_simp; all_goals (with_reducible rfl))) | (refine wpAnyH_take (i := 6) (oi := ⟨_, _, _, _, _, _⟩) (v := undef) rfl (by kernel_rfl) (by kernel_rfl) (by kernel_rfl) (fun _ _ _ h => h) (Or.inr ⟨by rfl, rfl⟩) (by assumption) ?_))
    try simp only [Act.put, List.setIfInBounds_toArray, List.set_cons_zero, List.set_cons_succ]
    refine wpAnyH_ready (rs := [3]) (by kernel_rfl) (by simp) ?_
    refine AllReadyH.cons (o := ⟨_, _, _, _, _, _⟩) rfl (fun K hK => ?_) ?_
    · go_simp
      (with_reducible refine (cancel_any i b S nn _ o1 hi HSD.out.ses (by omega) (by omega)).mono ?_)
      rintro e w3 ⟨rfl, o3, hs3, hS3⟩
      have HB3 := Lib.hid (HBD.out.step hs3 fun h => HN0.out (.inl h))
      have HQ3 := Lib.hid (HSD.out.mod.step hs3 HNJI.out)
      have HP3 := Lib.hid hS3
      have HST3 := Lib.hid (HSTD.out.trans (hs3.mono fun l h => .inl h))
      clear hs3 hS3
      go_wp2_with fail
      refine hK.out _ _ (HB3.out.cell (j := 7) rfl) (fun h1 => ?_)
      clear hK K
      try simp only [Act.put, List.setIfInBounds_toArray, List.set_cons_zero, List.set_cons_succ]
      refine wpAnyH_ready (rs := [7]) (by kernel_rfl) (by simp) ?_
      refine AllReadyH.cons (o := ⟨_, _, _, _, _, _⟩) rfl (fun K hK => ?_) ?_
      · go_simp
        (with_reducible refine (gcancel_any j c S nn w3 o3 hj HQ3.out (by omega) (by omega)).mono ?_)
        rintro e w4 ⟨rfl, o4, hs4, hS4⟩
        have HB4 := Lib.hid (HB3.out.step hs4 fun h => HN0.out (.inr h))
        have HP4 := Lib.hid (HP3.out.step hs4 HNIJ.out)
        have HQ4 := Lib.hid hS4
        have HST4 := Lib.hid (HST3.out.trans (hs4.mono fun l h => .inr h))
        clear hs4 hS4
        go_wp2_with fail
        refine hK.out _ _ (HB4.out.cell (j := 7) rfl) (fun h2 => ?_)
        clear hK K
        try simp only [Act.put, List.setIfInBounds_toArray, List.set_cons_zero, List.set_cons_succ]
        (first | ((refine wpAnyH_take (i := 8) (oi := ⟨_, _, _, _, _, _⟩) (v := ?_) rfl (by kernel_rfl) (by kernel_rfl) (by kernel_rfl) (fun _ _ _ h => h) (Or.inl ⟨by rfl, ?_⟩) (by assumption) ?_); rotate_left; focus ((intro w hSw); (try dsimp only at hSw); go_simp; all_goals (with_reducible rfl))) | (refine wpAnyH_take (i := 8) (oi := ⟨_, _, _, _, _, _⟩) (v := undef) rfl (by kernel_rfl) (by kernel_rfl) (by kernel_rfl) (fun _ _ _ h => h) (Or.inr ⟨by rfl, rfl⟩) (by assumption) ?_))
        try simp only [Act.put, List.setIfInBounds_toArray, List.set_cons_zero, List.set_cons_succ]
        (first | ((refine wpAnyH_take (i := 9) (oi := ⟨_, _, _, _, _, _⟩) (v := ?_) rfl (by kernel_rfl) (by kernel_rfl) (by kernel_rfl) (fun _ _ _ h => h) (Or.inl ⟨by rfl, ?_⟩) (by assumption) ?_); rotate_left; focus ((intro w hSw); (try dsimp only at hSw); go_simp; all_goals (with_reducible rfl))) | (refine wpAnyH_take (i := 9) (oi := ⟨_, _, _, _, _, _⟩) (v := undef) rfl (by kernel_rfl) (by kernel_rfl) (by kernel_rfl) (fun _ _ _ h => h) (Or.inr ⟨by rfl, rfl⟩) (by assumption) ?_))
        try simp only [Act.put, List.setIfInBounds_toArray, List.set_cons_zero, List.set_cons_succ]
        refine wpAnyH_done (by kernel_rfl) ?_ _
        go_wp2_with fail
        go_ret
        exact ⟨rfl, o4, HST4.out, by rw [← HT0.out]; exact HP4.out, fun _ => by rw [← HT0.out]; exact HQ4.out, fun h => absurd h (by decide)⟩
      exact AllReadyH.nil
    exact AllReadyH.nil
  · as_aux_lemma =>
    have HT0 : Hid (nextS S ol = T) := HT.out
    have c9 := HB1.out.cell (j := 9) rfl
    have K1 := Lib.hid (versions_any oa oc ol w1 HL1.out.1 (by omega))
    rw [HW1.out, ← hgw] at c9
    go_wp2_with fail
    rw [← HW1.out]
    clear c0 c9
    refine K1.out.mono ?_
    rintro e w2 ⟨v2, rfl, hown2, hb2⟩
    obtain ⟨va, vc, rfl, hx2⟩ := RecD.new (o := o1) (l := 0) hown2
    obtain ⟨o2, ho2⟩ : ∃ x, newLab w1 o1 0 = x := ⟨_, rfl⟩
    rw [ho2] at hx2
    have hs2 : Step (fun _ => False) w1 o1 w2 o2 := by rw [← ho2]; exact Step.below hb2 fun k hk => newLab_old _ _ _ hk
    have HS2 := Lib.hid (HS1.out.step hs2 fun _ _ h => h)
    have HB2 := Lib.hid (HB1.out.step hs2 fun h => h)
    have HL2 := Lib.hid (HL1.out.step hs2 fun h => h)
    have HST2 := Lib.hid (HST1.out.trans (hs2.mono fun _ h => h.elim))
    have HX2 := Lib.hid hx2
    clear hown2 hb2 ho2 hs2 hx2
    go_wp2_with fail
    refine (next_any i b 0 S va vc ol w2 o2 hi HS2.out.ses (by omega) (by omega) HX2.out (fun h => HN0.out (.inl h))).mono ?_
    rintro e w3 ⟨⟨r, hr, rfl⟩, o3, hs3, hS3⟩
    have HB3 := Lib.hid (HB2.out.step hs3 fun h => HN0.out (.inl h))
    have HQ3 := Lib.hid (HS2.out.mod.step hs3 HNJI.out)
    have HL3 := Lib.hid (HL2.out.step hs3 fun h => HN0.out (.inl h))
    have HP3 := Lib.hid hS3
    have HST3 := Lib.hid (HST2.out.trans (hs3.mono fun l h => .inl h))
    have HR := Lib.hid hr
    obtain ⟨is, his⟩ : ∃ is, (nextO S ol).isSome = is := ⟨_, rfl⟩
    rw [his]
    have HIS := Lib.hid his
    obtain ⟨w4, hw4⟩ : ∃ x, x = w3.alloc (.cells #[.int .i64 r.id, .int .i64 r.kind, .string r.doc, .int .i64 r.ver, .int .i64 r.off, .string r.txt] 44) := ⟨_, rfl⟩
    obtain ⟨o4, ho4⟩ : ∃ x, newLab w3 o3 0 = x := ⟨_, rfl⟩
    have hs4 : Step (fun _ => False) w3 o3 w4 o4 := by rw [hw4, ← ho4]; exact Step.newBlk _ _ _
    have hb4 : Blk w4 o4 0 w3.heap.size (rqC r) := by rw [hw4, ← ho4]; exact ⟨_, heap_alloc_new _ _, newLab_new _ _ _ (Nat.le_refl _)⟩
    obtain ⟨g3, hg3⟩ : ∃ g, w3.heap.size = g := ⟨_, rfl⟩
    rw [hg3] at hb4
    have HB4 := Lib.hid (HB3.out.step hs4 fun h => h)
    have HQ4 := Lib.hid (HQ3.out.step hs4 fun _ _ h => h)
    have HP4 := Lib.hid (HP3.out.step hs4 fun _ _ h => h)
    have HL4 := Lib.hid (HL3.out.step hs4 fun h => h)
    have HST4 := Lib.hid (HST3.out.trans (hs4.mono fun _ h => h.elim))
    have HR4 := Lib.hid hb4
    have HW4 := Lib.hid hw4
    have c9 := HB4.out.cell (j := 9) rfl
    rw [hw4] at c9
    clear hs3 hS3 hr his hw4 ho4 hs4 hb4
    obtain ⟨ri2, rk2, rd2, rv2, rof2, rt2⟩ := r
    simp only at c9 HW4 HR4
    go_wp2_with fail
    rw [← HW4.out]
    clear c9
    refine (gnext_any j c 0 S oa oc ol w4 o4 hj HQ4.out (by omega) (by omega) HL4.out (fun h => HN0.out (.inr h))).mono ?_
    rintro e w5 ⟨⟨r, hr, rfl⟩, o5, hs5, hS5⟩
    have hrr : r = ⟨ri2, rk2, rd2, rv2, rof2, rt2⟩ := by rw [hr]; exact HR.out.symm
    subst hrr
    rw [HIS.out]
    have HP5 := Lib.hid (HP4.out.step hs5 HNIJ.out)
    have HQ5 := Lib.hid hS5
    have HR5 := Lib.hid (HR4.out.step hs5 fun h => HN0.out (.inr h))
    have HST5 := Lib.hid (HST4.out.trans (hs5.mono fun l h => .inr h))
    obtain ⟨w6, hw6⟩ : ∃ x, x = w5.alloc (.cells #[.int .i64 ri2, .int .i64 rk2, .string rd2, .int .i64 rv2, .int .i64 rof2, .string rt2] 60) := ⟨_, rfl⟩
    obtain ⟨o6, ho6⟩ : ∃ x, newLab w5 o5 0 = x := ⟨_, rfl⟩
    have hs6 : Step (fun _ => False) w5 o5 w6 o6 := by rw [hw6, ← ho6]; exact Step.newBlk _ _ _
    have hb6 : Blk w6 o6 0 w5.heap.size (rqC ⟨ri2, rk2, rd2, rv2, rof2, rt2⟩) := by rw [hw6, ← ho6]; exact ⟨_, heap_alloc_new _ _, newLab_new _ _ _ (Nat.le_refl _)⟩
    obtain ⟨g5, hg5⟩ : ∃ g, w5.heap.size = g := ⟨_, rfl⟩
    rw [hg5] at hb6
    have HP6 := Lib.hid (HP5.out.step hs6 fun _ _ h => h)
    have HQ6 := Lib.hid (HQ5.out.step hs6 fun _ _ h => h)
    have HST6 := Lib.hid (HST5.out.trans (hs6.mono fun _ h => h.elim))
    have HR6 := Lib.hid (HR5.out.step hs6 fun h => h)
    have HU6 := Lib.hid hb6
    have HW6 := Lib.hid hw6
    clear hs5 hS5 hr hw6 ho6 hs6 hb6
    have hd6 := Below.drew (Below.refl w6.heap.size w6)
    have HPD := Lib.hid (HP6.out.same hd6)
    have HQD := Lib.hid (HQ6.out.same hd6)
    have HSTE := Lib.hid (HST6.out.trans (Step.same hd6))
    have HRD := Lib.hid (HR6.out.step (Step.same (L := fun _ => False) hd6) fun h => h)
    have HUD := Lib.hid (HU6.out.step (Step.same (L := fun _ => False) hd6) fun h => h)
    have HS0 : Hid (w6.drew.cell? ⟨g3, 0, none⟩ = some (.int .i64 ri2) ∧ w6.drew.cell? ⟨g3, 1, none⟩ = some (.int .i64 rk2) ∧ w6.drew.cell? ⟨g3, 2, none⟩ = some (.string rd2) ∧ w6.drew.cell? ⟨g3, 3, none⟩ = some (.int .i64 rv2) ∧ w6.drew.cell? ⟨g3, 4, none⟩ = some (.int .i64 rof2) ∧ w6.drew.cell? ⟨g3, 5, none⟩ = some (.string rt2) ∧ w6.drew.cell? ⟨g5, 0, none⟩ = some (.int .i64 ri2) ∧ w6.drew.cell? ⟨g5, 1, none⟩ = some (.int .i64 rk2) ∧ w6.drew.cell? ⟨g5, 2, none⟩ = some (.string rd2) ∧ w6.drew.cell? ⟨g5, 3, none⟩ = some (.int .i64 rv2) ∧ w6.drew.cell? ⟨g5, 4, none⟩ = some (.int .i64 rof2) ∧ w6.drew.cell? ⟨g5, 5, none⟩ = some (.string rt2)) := ⟨HRD.out.cell (j := 0) rfl, HRD.out.cell (j := 1) rfl, HRD.out.cell (j := 2) rfl, HRD.out.cell (j := 3) rfl, HRD.out.cell (j := 4) rfl, HRD.out.cell (j := 5) rfl, HUD.out.cell (j := 0) rfl, HUD.out.cell (j := 1) rfl, HUD.out.cell (j := 2) rfl, HUD.out.cell (j := 3) rfl, HUD.out.cell (j := 4) rfl, HUD.out.cell (j := 5) rfl⟩
    clear hd6
    cases is
    all_goals
      go_upto_region 9 with fail
      rw [← HW6.out]
      refine wp_region_held_drew (S := fun W => W.cell? ⟨g3, 0, none⟩ = some (.int .i64 ri2) ∧ W.cell? ⟨g3, 1, none⟩ = some (.int .i64 rk2) ∧ W.cell? ⟨g3, 2, none⟩ = some (.string rd2) ∧ W.cell? ⟨g3, 3, none⟩ = some (.int .i64 rv2) ∧ W.cell? ⟨g3, 4, none⟩ = some (.int .i64 rof2) ∧ W.cell? ⟨g3, 5, none⟩ = some (.string rt2) ∧ W.cell? ⟨g5, 0, none⟩ = some (.int .i64 ri2) ∧ W.cell? ⟨g5, 1, none⟩ = some (.int .i64 rk2) ∧ W.cell? ⟨g5, 2, none⟩ = some (.string rd2) ∧ W.cell? ⟨g5, 3, none⟩ = some (.int .i64 rv2) ∧ W.cell? ⟨g5, 4, none⟩ = some (.int .i64 rof2) ∧ W.cell? ⟨g5, 5, none⟩ = some (.string rt2)) (by kernel_rfl) (HS0.out) (fun h0 => ?_)
      (first | ((refine wpAnyH_take (i := 0) (oi := ⟨_, _, _, _, _, _⟩) (v := ?_) rfl (by kernel_rfl) (by kernel_rfl) (by kernel_rfl) (fun _ _ _ h => h) (Or.inl ⟨by rfl, ?_⟩) (by assumption) ?_); rotate_left; focus ((intro w hSw); (try dsimp only at hSw); go_simp; all_goals (with_reducible rfl))) | (refine wpAnyH_take (i := 0) (oi := ⟨_, _, _, _, _, _⟩) (v := undef) rfl (by kernel_rfl) (by kernel_rfl) (by kernel_rfl) (fun _ _ _ h => h) (Or.inr ⟨by rfl, rfl⟩) (by assumption) ?_))
      try simp only [Act.put, List.setIfInBounds_toArray, List.set_cons_zero, List.set_cons_succ]
      (first | ((refine wpAnyH_take (i := 1) (oi := ⟨_, _, _, _, _, _⟩) (v := ?_) rfl (by kernel_rfl) (by kernel_rfl) (by kernel_rfl) (fun _ _ _ h => h) (Or.inl ⟨by rfl, ?_⟩) (by assumption) ?_); rotate_left; focus ((intro w hSw); (try dsimp only at hSw); go_simp; all_goals (with_reducible rfl))) | (refine wpAnyH_take (i := 1) (oi := ⟨_, _, _, _, _, _⟩) (v := undef) rfl (by kernel_rfl) (by kernel_rfl) (by kernel_rfl) (fun _ _ _ h => h) (Or.inr ⟨by rfl, rfl⟩) (by assumption) ?_))
      try simp only [Act.put, List.setIfInBounds_toArray, List.set_cons_zero, List.set_cons_succ]
      (first | ((refine wpAnyH_take (i := 2) (oi := ⟨_, _, _, _, _, _⟩) (v := ?_) rfl (by kernel_rfl) (by kernel_rfl) (by kernel_rfl) (fun _ _ _ h => h) (Or.inl ⟨by rfl, ?_⟩) (by assumption) ?_); rotate_left; focus ((intro w hSw); (try dsimp only at hSw); go_simp; all_goals (with_reducible rfl))) | (refine wpAnyH_take (i := 2) (oi := ⟨_, _, _, _, _, _⟩) (v := undef) rfl (by kernel_rfl) (by kernel_rfl) (by kernel_rfl) (fun _ _ _ h => h) (Or.inr ⟨by rfl, rfl⟩) (by assumption) ?_))
      try simp only [Act.put, List.setIfInBounds_toArray, List.set_cons_zero, List.set_cons_succ]
      (first | ((refine wpAnyH_take (i := 3) (oi := ⟨_, _, _, _, _, _⟩) (v := ?_) rfl (by kernel_rfl) (by kernel_rfl) (by kernel_rfl) (fun _ _ _ h => h) (Or.inl ⟨by rfl, ?_⟩) (by assumption) ?_); rotate_left; focus ((intro w hSw); (try dsimp only at hSw); go_simp; all_goals (with_reducible rfl))) | (refine wpAnyH_take (i := 3) (oi := ⟨_, _, _, _, _, _⟩) (v := undef) rfl (by kernel_rfl) (by kernel_rfl) (by kernel_rfl) (fun _ _ _ h => h) (Or.inr ⟨by rfl, rfl⟩) (by assumption) ?_))
      try simp only [Act.put, List.setIfInBounds_toArray, List.set_cons_zero, List.set_cons_succ]
      (first | ((refine wpAnyH_take (i := 4) (oi := ⟨_, _, _, _, _, _⟩) (v := ?_) rfl (by kernel_rfl) (by kernel_rfl) (by kernel_rfl) (fun _ _ _ h => h) (Or.inl ⟨by rfl, ?_⟩) (by assumption) ?_); rotate_left; focus ((intro w hSw); (try dsimp only at hSw); go_simp; all_goals (with_reducible rfl))) | (refine wpAnyH_take (i := 4) (oi := ⟨_, _, _, _, _, _⟩) (v := undef) rfl (by kernel_rfl) (by kernel_rfl) (by kernel_rfl) (fun _ _ _ h => h) (Or.inr ⟨by rfl, rfl⟩) (by assumption) ?_))
      try simp only [Act.put, List.setIfInBounds_toArray, List.set_cons_zero, List.set_cons_succ]
      (first | ((refine wpAnyH_take (i := 6) (oi := ⟨_, _, _, _, _, _⟩) (v := ?_) rfl (by kernel_rfl) (by kernel_rfl) (by kernel_rfl) (fun _ _ _ h => h) (Or.inl ⟨by rfl, ?_⟩) (by assumption) ?_); rotate_left; focus ((intro w hSw); (try dsimp only at hSw); go_simp; all_goals (with_reducible rfl))) | (refine wpAnyH_take (i := 6) (oi := ⟨_, _, _, _, _, _⟩) (v := undef) rfl (by kernel_rfl) (by kernel_rfl) (by kernel_rfl) (fun _ _ _ h => h) (Or.inr ⟨by rfl, rfl⟩) (by assumption) ?_))
      try simp only [Act.put, List.setIfInBounds_toArray, List.set_cons_zero, List.set_cons_succ]
      refine wpAnyH_ready (rs := [5]) (by kernel_rfl) (by simp) ?_
      refine AllReadyH.cons (o := ⟨_, _, _, _, _, _⟩) rfl (fun K hK => ?_) ?_
      · go_simp
        (with_reducible refine (plain_any ⟨ri2, rk2, rd2, rv2, rof2, rt2⟩ _).mono ?_)
        rintro e w7 ⟨rfl, hb7⟩
        have HP7 := Lib.hid (HPD.out.same hb7)
        have HQ7 := Lib.hid (HQD.out.same hb7)
        have HST7 := Lib.hid (HSTE.out.trans (Step.same hb7))
        have HR7 := Lib.hid (HRD.out.step (Step.same (L := fun _ => False) hb7) fun h => h)
        have HU7 := Lib.hid (HUD.out.step (Step.same (L := fun _ => False) hb7) fun h => h)
        clear hb7
        go_wp2_with fail
        refine hK.out _ _ ⟨HR7.out.cell (j := 0) rfl, HR7.out.cell (j := 1) rfl, HR7.out.cell (j := 2) rfl, HR7.out.cell (j := 3) rfl, HR7.out.cell (j := 4) rfl, HR7.out.cell (j := 5) rfl, HU7.out.cell (j := 0) rfl, HU7.out.cell (j := 1) rfl, HU7.out.cell (j := 2) rfl, HU7.out.cell (j := 3) rfl, HU7.out.cell (j := 4) rfl, HU7.out.cell (j := 5) rfl⟩ (fun h1 => ?_)
        clear hK K
        try simp only [Act.put, List.setIfInBounds_toArray, List.set_cons_zero, List.set_cons_succ]
        (first | ((refine wpAnyH_take (i := 7) (oi := ⟨_, _, _, _, _, _⟩) (v := ?_) rfl (by kernel_rfl) (by kernel_rfl) (by kernel_rfl) (fun _ _ _ h => h) (Or.inl ⟨by rfl, ?_⟩) (by assumption) ?_); rotate_left; focus ((intro w hSw); (try dsimp only at hSw); go_simp; all_goals (with_reducible rfl))) | (refine wpAnyH_take (i := 7) (oi := ⟨_, _, _, _, _, _⟩) (v := undef) rfl (by kernel_rfl) (by kernel_rfl) (by kernel_rfl) (fun _ _ _ h => h) (Or.inr ⟨by rfl, rfl⟩) (by assumption) ?_))
        try simp only [Act.put, List.setIfInBounds_toArray, List.set_cons_zero, List.set_cons_succ]
        (first | ((refine wpAnyH_take (i := 8) (oi := ⟨_, _, _, _, _, _⟩) (v := ?_) rfl (by kernel_rfl) (by kernel_rfl) (by kernel_rfl) (fun _ _ _ h => h) (Or.inl ⟨by rfl, ?_⟩) (by assumption) ?_); rotate_left; focus ((intro w hSw); (try dsimp only at hSw); go_simp; all_goals (with_reducible rfl))) | (refine wpAnyH_take (i := 8) (oi := ⟨_, _, _, _, _, _⟩) (v := undef) rfl (by kernel_rfl) (by kernel_rfl) (by kernel_rfl) (fun _ _ _ h => h) (Or.inr ⟨by rfl, rfl⟩) (by assumption) ?_))
        try simp only [Act.put, List.setIfInBounds_toArray, List.set_cons_zero, List.set_cons_succ]
        (first | ((refine wpAnyH_take (i := 9) (oi := ⟨_, _, _, _, _, _⟩) (v := ?_) rfl (by kernel_rfl) (by kernel_rfl) (by kernel_rfl) (fun _ _ _ h => h) (Or.inl ⟨by rfl, ?_⟩) (by assumption) ?_); rotate_left; focus ((intro w hSw); (try dsimp only at hSw); go_simp; all_goals (with_reducible rfl))) | (refine wpAnyH_take (i := 9) (oi := ⟨_, _, _, _, _, _⟩) (v := undef) rfl (by kernel_rfl) (by kernel_rfl) (by kernel_rfl) (fun _ _ _ h => h) (Or.inr ⟨by rfl, rfl⟩) (by assumption) ?_))
        try simp only [Act.put, List.setIfInBounds_toArray, List.set_cons_zero, List.set_cons_succ]
        refine wpAnyH_done (by kernel_rfl) ?_ _
        go_wp2_with fail
        go_ret
        exact ⟨rfl, o6, HST7.out, by rw [← HT0.out]; exact HP7.out, fun _ => by rw [← HT0.out]; exact HQ7.out, fun h => absurd h (by decide)⟩
      exact AllReadyH.nil
  · as_aux_lemma =>
    have HT0 : Hid (finS S (runI S nn) ee ⟨#[116, 101, 120, 116]⟩ ol = T) := HT.out
    have c7 := HB1.out.cell (j := 7) rfl
    rw [HW1.out, ← hgw] at c7
    go_wp2_with fail
    rw [← HW1.out]
    refine (running_any j c S nn w1 o1 HS1.out.mod.at hn0 (by omega)).mono ?_
    rintro e w2 ⟨rfl, rfl⟩
    obtain ⟨id, hid⟩ : ∃ id, runI S nn = id := ⟨_, rfl⟩
    rw [hid] at HT0 ⊢
    clear c0 c7 hid
    go_upto_region 12 with fail
    refine wp_region_held_drew (S := fun W => W.cell? ⟨gw, 8, none⟩ = some (.int .i64 ee) ∧ W.cell? ⟨gw, 9, none⟩ = some (.slice oa ol.length oc)) (by kernel_rfl) (HC89.out) (fun h0 => ?_)
    (first | ((refine wpAnyH_take (i := 0) (oi := ⟨_, _, _, _, _, _⟩) (v := ?_) rfl (by kernel_rfl) (by kernel_rfl) (by kernel_rfl) (fun _ _ _ h => h) (Or.inl ⟨by rfl, ?_⟩) (by assumption) ?_); rotate_left; focus ((intro w hSw); (try dsimp only at hSw); go_simp; all_goals (with_reducible rfl))) | (refine wpAnyH_take (i := 0) (oi := ⟨_, _, _, _, _, _⟩) (v := undef) rfl (by kernel_rfl) (by kernel_rfl) (by kernel_rfl) (fun _ _ _ h => h) (Or.inr ⟨by rfl, rfl⟩) (by assumption) ?_))
    try simp only [Act.put, List.setIfInBounds_toArray, List.set_cons_zero, List.set_cons_succ]
    (first | ((refine wpAnyH_take (i := 1) (oi := ⟨_, _, _, _, _, _⟩) (v := ?_) rfl (by kernel_rfl) (by kernel_rfl) (by kernel_rfl) (fun _ _ _ h => h) (Or.inl ⟨by rfl, ?_⟩) (by assumption) ?_); rotate_left; focus ((intro w hSw); (try dsimp only at hSw); go_simp; all_goals (with_reducible rfl))) | (refine wpAnyH_take (i := 1) (oi := ⟨_, _, _, _, _, _⟩) (v := undef) rfl (by kernel_rfl) (by kernel_rfl) (by kernel_rfl) (fun _ _ _ h => h) (Or.inr ⟨by rfl, rfl⟩) (by assumption) ?_))
    try simp only [Act.put, List.setIfInBounds_toArray, List.set_cons_zero, List.set_cons_succ]
    (first | ((refine wpAnyH_take (i := 2) (oi := ⟨_, _, _, _, _, _⟩) (v := ?_) rfl (by kernel_rfl) (by kernel_rfl) (by kernel_rfl) (fun _ _ _ h => h) (Or.inl ⟨by rfl, ?_⟩) (by assumption) ?_); rotate_left; focus ((intro w hSw); (try dsimp only at hSw); go_simp; all_goals (with_reducible rfl))) | (refine wpAnyH_take (i := 2) (oi := ⟨_, _, _, _, _, _⟩) (v := undef) rfl (by kernel_rfl) (by kernel_rfl) (by kernel_rfl) (fun _ _ _ h => h) (Or.inr ⟨by rfl, rfl⟩) (by assumption) ?_))
    try simp only [Act.put, List.setIfInBounds_toArray, List.set_cons_zero, List.set_cons_succ]
    (first | ((refine wpAnyH_take (i := 3) (oi := ⟨_, _, _, _, _, _⟩) (v := ?_) rfl (by kernel_rfl) (by kernel_rfl) (by kernel_rfl) (fun _ _ _ h => h) (Or.inl ⟨by rfl, ?_⟩) (by assumption) ?_); rotate_left; focus ((intro w hSw); (try dsimp only at hSw); go_simp; all_goals (with_reducible rfl))) | (refine wpAnyH_take (i := 3) (oi := ⟨_, _, _, _, _, _⟩) (v := undef) rfl (by kernel_rfl) (by kernel_rfl) (by kernel_rfl) (fun _ _ _ h => h) (Or.inr ⟨by rfl, rfl⟩) (by assumption) ?_))
    try simp only [Act.put, List.setIfInBounds_toArray, List.set_cons_zero, List.set_cons_succ]
    (first | ((refine wpAnyH_take (i := 4) (oi := ⟨_, _, _, _, _, _⟩) (v := ?_) rfl (by kernel_rfl) (by kernel_rfl) (by kernel_rfl) (fun _ _ _ h => h) (Or.inl ⟨by rfl, ?_⟩) (by assumption) ?_); rotate_left; focus ((intro w hSw); (try dsimp only at hSw); go_simp; all_goals (with_reducible rfl))) | (refine wpAnyH_take (i := 4) (oi := ⟨_, _, _, _, _, _⟩) (v := undef) rfl (by kernel_rfl) (by kernel_rfl) (by kernel_rfl) (fun _ _ _ h => h) (Or.inr ⟨by rfl, rfl⟩) (by assumption) ?_))
    try simp only [Act.put, List.setIfInBounds_toArray, List.set_cons_zero, List.set_cons_succ]
    (first | ((refine wpAnyH_take (i := 5) (oi := ⟨_, _, _, _, _, _⟩) (v := ?_) rfl (by kernel_rfl) (by kernel_rfl) (by kernel_rfl) (fun _ _ _ h => h) (Or.inl ⟨by rfl, ?_⟩) (by assumption) ?_); rotate_left; focus ((intro w hSw); (try dsimp only at hSw); go_simp; all_goals (with_reducible rfl))) | (refine wpAnyH_take (i := 5) (oi := ⟨_, _, _, _, _, _⟩) (v := undef) rfl (by kernel_rfl) (by kernel_rfl) (by kernel_rfl) (fun _ _ _ h => h) (Or.inr ⟨by rfl, rfl⟩) (by assumption) ?_))
    try simp only [Act.put, List.setIfInBounds_toArray, List.set_cons_zero, List.set_cons_succ]
    (first | ((refine wpAnyH_take (i := 8) (oi := ⟨_, _, _, _, _, _⟩) (v := ?_) rfl (by kernel_rfl) (by kernel_rfl) (by kernel_rfl) (fun _ _ _ h => h) (Or.inl ⟨by rfl, ?_⟩) (by assumption) ?_); rotate_left; focus ((intro w hSw); (try dsimp only at hSw); go_simp; all_goals (with_reducible rfl))) | (refine wpAnyH_take (i := 8) (oi := ⟨_, _, _, _, _, _⟩) (v := undef) rfl (by kernel_rfl) (by kernel_rfl) (by kernel_rfl) (fun _ _ _ h => h) (Or.inr ⟨by rfl, rfl⟩) (by assumption) ?_))
    try simp only [Act.put, List.setIfInBounds_toArray, List.set_cons_zero, List.set_cons_succ]
    (first | ((refine wpAnyH_take (i := 9) (oi := ⟨_, _, _, _, _, _⟩) (v := ?_) rfl (by kernel_rfl) (by kernel_rfl) (by kernel_rfl) (fun _ _ _ h => h) (Or.inl ⟨by rfl, ?_⟩) (by assumption) ?_); rotate_left; focus ((intro w hSw); (try dsimp only at hSw); go_simp; all_goals (with_reducible rfl))) | (refine wpAnyH_take (i := 9) (oi := ⟨_, _, _, _, _, _⟩) (v := undef) rfl (by kernel_rfl) (by kernel_rfl) (by kernel_rfl) (fun _ _ _ h => h) (Or.inr ⟨by rfl, rfl⟩) (by assumption) ?_))
    try simp only [Act.put, List.setIfInBounds_toArray, List.set_cons_zero, List.set_cons_succ]
    (first | ((refine wpAnyH_take (i := 10) (oi := ⟨_, _, _, _, _, _⟩) (v := ?_) rfl (by kernel_rfl) (by kernel_rfl) (by kernel_rfl) (fun _ _ _ h => h) (Or.inl ⟨by rfl, ?_⟩) (by assumption) ?_); rotate_left; focus ((intro w hSw); (try dsimp only at hSw); go_simp; all_goals (with_reducible rfl))) | (refine wpAnyH_take (i := 10) (oi := ⟨_, _, _, _, _, _⟩) (v := undef) rfl (by kernel_rfl) (by kernel_rfl) (by kernel_rfl) (fun _ _ _ h => h) (Or.inr ⟨by rfl, rfl⟩) (by assumption) ?_))
    try simp only [Act.put, List.setIfInBounds_toArray, List.set_cons_zero, List.set_cons_succ]
    (first | ((refine wpAnyH_take (i := 11) (oi := ⟨_, _, _, _, _, _⟩) (v := ?_) rfl (by kernel_rfl) (by kernel_rfl) (by kernel_rfl) (fun _ _ _ h => h) (Or.inl ⟨by rfl, ?_⟩) (by assumption) ?_); rotate_left; focus ((intro w hSw); (try dsimp only at hSw); go_simp; all_goals (with_reducible rfl))) | (refine wpAnyH_take (i := 11) (oi := ⟨_, _, _, _, _, _⟩) (v := undef) rfl (by kernel_rfl) (by kernel_rfl) (by kernel_rfl) (fun _ _ _ h => h) (Or.inr ⟨by rfl, rfl⟩) (by assumption) ?_))
    try simp only [Act.put, List.setIfInBounds_toArray, List.set_cons_zero, List.set_cons_succ]
    (first | ((refine wpAnyH_take (i := 12) (oi := ⟨_, _, _, _, _, _⟩) (v := ?_) rfl (by kernel_rfl) (by kernel_rfl) (by kernel_rfl) (fun _ _ _ h => h) (Or.inl ⟨by rfl, ?_⟩) (by assumption) ?_); rotate_left; focus ((intro w hSw); (try dsimp only at hSw); go_simp; all_goals (with_reducible rfl))) | (refine wpAnyH_take (i := 12) (oi := ⟨_, _, _, _, _, _⟩) (v := undef) rfl (by kernel_rfl) (by kernel_rfl) (by kernel_rfl) (fun _ _ _ h => h) (Or.inr ⟨by rfl, rfl⟩) (by assumption) ?_))
    try simp only [Act.put, List.setIfInBounds_toArray, List.set_cons_zero, List.set_cons_succ]
    (first | ((refine wpAnyH_take (i := 13) (oi := ⟨_, _, _, _, _, _⟩) (v := ?_) rfl (by kernel_rfl) (by kernel_rfl) (by kernel_rfl) (fun _ _ _ h => h) (Or.inl ⟨by rfl, ?_⟩) (by assumption) ?_); rotate_left; focus ((intro w hSw); (try dsimp only at hSw); go_simp; all_goals (with_reducible rfl))) | (refine wpAnyH_take (i := 13) (oi := ⟨_, _, _, _, _, _⟩) (v := undef) rfl (by kernel_rfl) (by kernel_rfl) (by kernel_rfl) (fun _ _ _ h => h) (Or.inr ⟨by rfl, rfl⟩) (by assumption) ?_))
    try simp only [Act.put, List.setIfInBounds_toArray, List.set_cons_zero, List.set_cons_succ]
    refine wpAnyH_ready (rs := [6]) (by kernel_rfl) (by simp) ?_
    refine AllReadyH.cons (o := ⟨_, _, _, _, _, _⟩) rfl (fun K hK => ?_) ?_
    · go_simp
      have HR1 := Lib.hid HLD.out.1
      (with_reducible refine (versions_any oa oc ol _ HR1.out (by omega)).mono ?_)
      rintro e w2 ⟨v2, rfl, hown2, hb2⟩
      obtain ⟨va, vc, rfl, hx2⟩ := RecD.new (o := o1) (l := 0) hown2
      obtain ⟨o2, ho2⟩ : ∃ x, newLab w1.drew o1 0 = x := ⟨_, rfl⟩
      rw [ho2] at hx2
      have hs2 : Step (fun _ => False) w1.drew o1 w2 o2 := by rw [← ho2]; exact Step.below hb2 fun k hk => newLab_old _ _ _ hk
      have HS2 := Lib.hid (HSD.out.step hs2 fun _ _ h => h)
      have HB2 := Lib.hid (HBD.out.step hs2 fun h => h)
      have HL2 := Lib.hid (HLD.out.step hs2 fun h => h)
      have HST2 := Lib.hid (HSTD.out.trans (hs2.mono fun _ h => h.elim))
      have HX2 := Lib.hid hx2
      clear hown2 hb2 ho2 hs2 hx2
      go_wp2_with fail
      refine hK.out _ _ ⟨HB2.out.cell (j := 8) rfl, HB2.out.cell (j := 9) rfl⟩ (fun h1 => ?_)
      clear hK K
      try simp only [Act.put, List.setIfInBounds_toArray, List.set_cons_zero, List.set_cons_succ]
      refine wpAnyH_ready (rs := [7]) (by kernel_rfl) (by simp) ?_
      refine AllReadyH.cons (o := ⟨_, _, _, _, _, _⟩) rfl (fun K hK => ?_) ?_
      · go_simp
        have HR2 := Lib.hid HX2.out.1
        (with_reducible refine (finish_any i b 0 S id ee ⟨#[116, 101, 120, 116]⟩ va vc ol w2 o2 hi HS2.out.ses HG.out.run (by omega) (by omega) HR2.out).mono ?_)
        rintro e w3 ⟨rfl, o3, hs3, hS3⟩
        have HB3 := Lib.hid (HB2.out.step hs3 fun h => HN0.out (.inl h))
        have HQ3 := Lib.hid (HS2.out.mod.step hs3 HNJI.out)
        have HL3 := Lib.hid (HL2.out.step hs3 fun h => HN0.out (.inl h))
        have HP3 := Lib.hid hS3
        have HST3 := Lib.hid (HST2.out.trans (hs3.mono fun l h => .inl h))
        clear hs3 hS3
        go_wp2_with fail
        refine hK.out _ _ ⟨HB3.out.cell (j := 8) rfl, HB3.out.cell (j := 9) rfl⟩ (fun h2 => ?_)
        clear hK K
        try simp only [Act.put, List.setIfInBounds_toArray, List.set_cons_zero, List.set_cons_succ]
        refine wpAnyH_ready (rs := [14]) (by kernel_rfl) (by simp) ?_
        refine AllReadyH.cons (o := ⟨_, _, _, _, _, _⟩) rfl (fun K hK => ?_) ?_
        · go_simp
          have HR3 := Lib.hid HL3.out.1
          (with_reducible refine (gfinish_any j c 0 S id ee ⟨#[116, 101, 120, 116]⟩ oa oc ol w3 o3 hj HQ3.out HG.out.run (by omega) (by omega) HR3.out).mono ?_)
          rintro e w4 ⟨rfl, o4, hs4, hS4⟩
          have HB4 := Lib.hid (HB3.out.step hs4 fun h => HN0.out (.inr h))
          have HP4 := Lib.hid (HP3.out.step hs4 HNIJ.out)
          have HQ4 := Lib.hid hS4
          have HST4 := Lib.hid (HST3.out.trans (hs4.mono fun l h => .inr h))
          clear hs4 hS4
          go_wp2_with fail
          refine hK.out _ _ ⟨HB4.out.cell (j := 8) rfl, HB4.out.cell (j := 9) rfl⟩ (fun h3 => ?_)
          clear hK K
          try simp only [Act.put, List.setIfInBounds_toArray, List.set_cons_zero, List.set_cons_succ]
          (first | ((refine wpAnyH_take (i := 15) (oi := ⟨_, _, _, _, _, _⟩) (v := ?_) rfl (by kernel_rfl) (by kernel_rfl) (by kernel_rfl) (fun _ _ _ h => h) (Or.inl ⟨by rfl, ?_⟩) (by assumption) ?_); rotate_left; focus ((intro w hSw); (try dsimp only at hSw); go_simp; all_goals (with_reducible rfl))) | (refine wpAnyH_take (i := 15) (oi := ⟨_, _, _, _, _, _⟩) (v := undef) rfl (by kernel_rfl) (by kernel_rfl) (by kernel_rfl) (fun _ _ _ h => h) (Or.inr ⟨by rfl, rfl⟩) (by assumption) ?_))
          try simp only [Act.put, List.setIfInBounds_toArray, List.set_cons_zero, List.set_cons_succ]
          (first | ((refine wpAnyH_take (i := 16) (oi := ⟨_, _, _, _, _, _⟩) (v := ?_) rfl (by kernel_rfl) (by kernel_rfl) (by kernel_rfl) (fun _ _ _ h => h) (Or.inl ⟨by rfl, ?_⟩) (by assumption) ?_); rotate_left; focus ((intro w hSw); (try dsimp only at hSw); go_simp; all_goals (with_reducible rfl))) | (refine wpAnyH_take (i := 16) (oi := ⟨_, _, _, _, _, _⟩) (v := undef) rfl (by kernel_rfl) (by kernel_rfl) (by kernel_rfl) (fun _ _ _ h => h) (Or.inr ⟨by rfl, rfl⟩) (by assumption) ?_))
          try simp only [Act.put, List.setIfInBounds_toArray, List.set_cons_zero, List.set_cons_succ]
          refine wpAnyH_done (by kernel_rfl) ?_ _
          go_wp2_with fail
          go_ret
          exact ⟨rfl, o4, HST4.out, by rw [← HT0.out]; exact HP4.out, fun _ => by rw [← HT0.out]; exact HQ4.out, fun h => absurd h (by decide)⟩
        exact AllReadyH.nil
      exact AllReadyH.nil
    exact AllReadyH.nil
  · as_aux_lemma =>
    have HT0 : Hid (clrS S = T) := HT.out
    obtain ⟨qv, av, ⟨q1, q2, q3⟩, q4⟩ := HSD.out.mod
    obtain ⟨aq, cq, rfl⟩ := q3.form
    have HS0 : Hid (w1.drew.cell? ⟨c, 3, none⟩ = some (.slice aq S.an.length cq)) := q1.cell (j := 3) rfl
    have HQ1 := Lib.hid q1
    have HQ2 := Lib.hid q2
    have HQ3 := Lib.hid q3
    have HQ4 := Lib.hid q4
    clear q1 q2 q3 q4
    go_upto_region 13 with fail
    rw [← HW1.out]
    refine wp_region_held_drew (S := fun W => W.cell? ⟨c, 3, none⟩ = some (.slice aq S.an.length cq)) (by kernel_rfl) (HS0.out) (fun h0 => ?_)
    (first | ((refine wpAnyH_take (i := 0) (oi := ⟨_, _, _, _, _, _⟩) (v := ?_) rfl (by kernel_rfl) (by kernel_rfl) (by kernel_rfl) (fun _ _ _ h => h) (Or.inl ⟨by rfl, ?_⟩) (by assumption) ?_); rotate_left; focus ((intro w hSw); (try dsimp only at hSw); go_simp; all_goals (with_reducible rfl))) | (refine wpAnyH_take (i := 0) (oi := ⟨_, _, _, _, _, _⟩) (v := undef) rfl (by kernel_rfl) (by kernel_rfl) (by kernel_rfl) (fun _ _ _ h => h) (Or.inr ⟨by rfl, rfl⟩) (by assumption) ?_))
    try simp only [Act.put, List.setIfInBounds_toArray, List.set_cons_zero, List.set_cons_succ]
    (first | ((refine wpAnyH_take (i := 2) (oi := ⟨_, _, _, _, _, _⟩) (v := ?_) rfl (by kernel_rfl) (by kernel_rfl) (by kernel_rfl) (fun _ _ _ h => h) (Or.inl ⟨by rfl, ?_⟩) (by assumption) ?_); rotate_left; focus ((intro w hSw); (try dsimp only at hSw); go_simp; all_goals (with_reducible rfl))) | (refine wpAnyH_take (i := 2) (oi := ⟨_, _, _, _, _, _⟩) (v := undef) rfl (by kernel_rfl) (by kernel_rfl) (by kernel_rfl) (fun _ _ _ h => h) (Or.inr ⟨by rfl, rfl⟩) (by assumption) ?_))
    try simp only [Act.put, List.setIfInBounds_toArray, List.set_cons_zero, List.set_cons_succ]
    (first | ((refine wpAnyH_take (i := 3) (oi := ⟨_, _, _, _, _, _⟩) (v := ?_) rfl (by kernel_rfl) (by kernel_rfl) (by kernel_rfl) (fun _ _ _ h => h) (Or.inl ⟨by rfl, ?_⟩) (by assumption) ?_); rotate_left; focus ((intro w hSw); (try dsimp only at hSw); go_simp; all_goals (with_reducible rfl))) | (refine wpAnyH_take (i := 3) (oi := ⟨_, _, _, _, _, _⟩) (v := undef) rfl (by kernel_rfl) (by kernel_rfl) (by kernel_rfl) (fun _ _ _ h => h) (Or.inr ⟨by rfl, rfl⟩) (by assumption) ?_))
    try simp only [Act.put, List.setIfInBounds_toArray, List.set_cons_zero, List.set_cons_succ]
    (first | ((refine wpAnyH_take (i := 4) (oi := ⟨_, _, _, _, _, _⟩) (v := ?_) rfl (by kernel_rfl) (by kernel_rfl) (by kernel_rfl) (fun _ _ _ h => h) (Or.inl ⟨by rfl, ?_⟩) (by assumption) ?_); rotate_left; focus ((intro w hSw); (try dsimp only at hSw); go_simp; all_goals (with_reducible rfl))) | (refine wpAnyH_take (i := 4) (oi := ⟨_, _, _, _, _, _⟩) (v := undef) rfl (by kernel_rfl) (by kernel_rfl) (by kernel_rfl) (fun _ _ _ h => h) (Or.inr ⟨by rfl, rfl⟩) (by assumption) ?_))
    try simp only [Act.put, List.setIfInBounds_toArray, List.set_cons_zero, List.set_cons_succ]
    (first | ((refine wpAnyH_take (i := 5) (oi := ⟨_, _, _, _, _, _⟩) (v := ?_) rfl (by kernel_rfl) (by kernel_rfl) (by kernel_rfl) (fun _ _ _ h => h) (Or.inl ⟨by rfl, ?_⟩) (by assumption) ?_); rotate_left; focus ((intro w hSw); (try dsimp only at hSw); go_simp; all_goals (with_reducible rfl))) | (refine wpAnyH_take (i := 5) (oi := ⟨_, _, _, _, _, _⟩) (v := undef) rfl (by kernel_rfl) (by kernel_rfl) (by kernel_rfl) (fun _ _ _ h => h) (Or.inr ⟨by rfl, rfl⟩) (by assumption) ?_))
    try simp only [Act.put, List.setIfInBounds_toArray, List.set_cons_zero, List.set_cons_succ]
    refine wpAnyH_ready (rs := [1]) (by kernel_rfl) (by simp) ?_
    refine AllReadyH.cons (o := ⟨_, _, _, _, _, _⟩) rfl (fun K hK => ?_) ?_
    · go_simp
      (with_reducible refine (answers_any i b S _ o1 hi HSD.out.ses).mono ?_)
      rintro e w2 ⟨v, rfl, hs2, hS2, hrow⟩
      obtain ⟨xa, xc, rfl, hrec⟩ := hrow.at
      have HP2 := Lib.hid hS2
      have HA2 := Lib.hid hrec
      have HM1 := Lib.hid (HQ1.out.step hs2 (HNJI.out _ (Own.at0 j)))
      have HM2 := Lib.hid (HQ2.out.step hs2 (HNJI.out _ (Own.at1 j)))
      have HM3 := Lib.hid (HQ3.out.step hs2 (HNJI.out _ (Own.at2 j)))
      have HM4 := Lib.hid (HQ4.out.step hs2 (HNJI.out _ (Own.at1 j)) (HNJI.out _ (Own.at2 j)))
      have HST2 := Lib.hid (HSTD.out.trans (hs2.mono fun l h => .inl h))
      clear hs2 hS2 hrow hrec
      go_wp2_with fail
      refine hK.out _ _ (HM1.out.cell (j := 3) rfl) (fun h1 => ?_)
      clear hK K
      try simp only [Act.put, List.setIfInBounds_toArray, List.set_cons_zero, List.set_cons_succ]
      refine wpAnyH_ready (rs := [6]) (by kernel_rfl) (by simp) ?_
      refine AllReadyH.cons (o := ⟨_, _, _, _, _, _⟩) rfl (fun K hK => ?_) ?_
      · go_simp
        (with_reducible refine (sameA_any xa aq xc cq S.an w2 HA2.out HM3.out.recAt.2).mono ?_)
        rintro e w3 ⟨rfl, hb3⟩
        have HP3 := Lib.hid (HP2.out.same hb3)
        have HN1 := Lib.hid (HM1.out.step (Step.same (L := fun _ => False) hb3) fun h => h)
        have HN2 := Lib.hid (HM2.out.step (Step.same (L := fun _ => False) hb3) fun h => h)
        have HN4 := Lib.hid (HM4.out.same hb3)
        have HST3 := Lib.hid (HST2.out.trans (Step.same hb3))
        clear hb3
        go_wp2_with fail
        refine hK.out _ _ (HN1.out.cell (j := 3) rfl) (fun h2 => ?_)
        clear hK K
        try simp only [Act.put, List.setIfInBounds_toArray, List.set_cons_zero, List.set_cons_succ]
        (first | ((refine wpAnyH_take (i := 7) (oi := ⟨_, _, _, _, _, _⟩) (v := ?_) rfl (by kernel_rfl) (by kernel_rfl) (by kernel_rfl) (fun _ _ _ h => h) (Or.inl ⟨by rfl, ?_⟩) (by assumption) ?_); rotate_left; focus ((intro w hSw); (try dsimp only at hSw); go_simp; all_goals (with_reducible rfl))) | (refine wpAnyH_take (i := 7) (oi := ⟨_, _, _, _, _, _⟩) (v := undef) rfl (by kernel_rfl) (by kernel_rfl) (by kernel_rfl) (fun _ _ _ h => h) (Or.inr ⟨by rfl, rfl⟩) (by assumption) ?_))
        try simp only [Act.put, List.setIfInBounds_toArray, List.set_cons_zero, List.set_cons_succ]
        refine wpAnyH_done (by kernel_rfl) ?_ _
        have hfr := HN1.out.frozen 3
        have hcl := HN1.out.cell (j := 3) rfl
        have hs4 := HN1.out.setCellStep 3 (.slice none 0 0)
        have KP := Lib.hid (HP3.out.step hs4 fun l h e => HNIJ.out l h (by rw [e]; exact Own.at0 j))
        have K1 := Lib.hid (HN1.out.set 3 (.slice none 0 0))
        have K2 := Lib.hid (HN2.out.step hs4 (by omega))
        have K4 := Lib.hid (HN4.out.step hs4 (by omega) (by omega))
        have KST := Lib.hid (HST3.out.trans (hs4.mono (L' := Own2 i j) fun l h => .inr (by rw [h]; exact Own.at0 j)))
        clear hs4 h0 h1 h2
        go_wp2_with fail
        go_ret
        exact ⟨rfl, o1, KST.out, by rw [← HT0.out]; exact KP.out, _, by rw [← HT0.out]; exact ⟨K1.out, K2.out, RecL.nil _ _ _⟩, _, K4.out⟩
      exact AllReadyH.nil
    exact AllReadyH.nil
end Go.Proofs.Ytaonhmdifinadaa
