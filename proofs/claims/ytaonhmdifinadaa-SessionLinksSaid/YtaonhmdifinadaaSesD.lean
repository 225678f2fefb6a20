/-
  Contracts of package session: New, Begin.
-/
import Derived.Test.YtaonhmdifinadaaSesC
import Derived.Deep.DeepCutAuto
import Derived.Deep.CutBlock
namespace Go.Proofs.Ytaonhmdifinadaa
open Go Go.Proofs
open Go.RowKit
set_option linter.unusedVariables false
set_option linter.unusedSimpArgs false

theorem snew_any (i : Nat) (w : World) (o : Nat → Nat) : Calls Try.prog 13 #[] w fun e w' => ∃ b, e = .returned (.pointer (some ⟨b, 0, none⟩)) ∧ ∃ o', Step (fun _ => False) w o w' o' ∧ SesP w' o' i b newS := by
  go_enter Try.func13, Try.ntmps13
  go_wp2
  go_ret
  exact ⟨_, rfl, newLab w o (10 * i), Step.newBlk _ _ _, SesAt.new⟩

theorem Step.into {L : Nat → Prop} {w w' w'' : World} {o o' o'' : Nat → Nat} (h : Step (fun _ => False) w o w' o') (k : Step L w' o' w'' o'') : Step L w o w'' o'' := (h.mono fun _ h => h.elim).trans k

theorem Blk.six {w : World} {o : Nat → Nat} {l b : Nat} {v0 v1 v2 v3 v4 v5 : Value} (h : Blk w o l b [v0, v1, v2, v3, v4, v5]) :
    w.cell? ⟨b, 0, none⟩ = some v0 ∧ w.cell? ⟨b, 1, none⟩ = some v1 ∧ w.cell? ⟨b, 2, none⟩ = some v2 ∧ w.cell? ⟨b, 3, none⟩ = some v3 ∧ w.cell? ⟨b, 4, none⟩ = some v4 ∧ w.cell? ⟨b, 5, none⟩ = some v5 :=
  ⟨h.cell (j := 0) rfl, h.cell (j := 1) rfl, h.cell (j := 2) rfl, h.cell (j := 3) rfl, h.cell (j := 4) rfl, h.cell (j := 5) rfl⟩

set_option maxRecDepth 100000 in
set_option maxHeartbeats 4000000 in
theorem begin_any (i b : Nat) (S : SesS) (r : Rq) (w : World) (o : Nat → Nat) (hi : 1 ≤ i) (hS : SesP w o i b S) (hG : Good S) (hd : r.doc.size ≤ 9223372036854775807) (ht : r.txt.size ≤ 9223372036854775807) :
    Calls Try.prog 17 #[.pointer (some ⟨b, 0, none⟩), .agg #[.int .i64 r.id, .int .i64 r.kind, .string r.doc, .int .i64 r.ver, .int .i64 r.off, .string r.txt]] w fun e w' =>
      e = .returned (.int .i64 (begE S r)) ∧ ∃ o', Step (Own i) w o w' o' ∧ SesP w' o' i b (begS S r) := by
  have hlen := hG.len
  have hrun := hG.run
  have kv := fun W => rvalid_any r W hd ht
  have hE : begE S r = if okR r = false then 1 else if r.id ≤ S.last then 8 else if 64 ≤ waitN S then 4 else 0 := rfl
  have hB : begS S r = if begE S r = 0 then { S with last := r.id, rq := S.rq ++ [r] } else S := rfl
  obtain ⟨w1, hw1⟩ : ∃ x, x = w.alloc (.cells #[.int .i64 r.id, .int .i64 r.kind, .string r.doc, .int .i64 r.ver, .int .i64 r.off, .string r.txt] 44) := ⟨_, rfl⟩
  have hb0 : w1.heap[w.heap.size]? = some (.cells #[.int .i64 r.id, .int .i64 r.kind, .string r.doc, .int .i64 r.ver, .int .i64 r.off, .string r.txt] 44 (0, 0)) := by rw [hw1]; exact heap_alloc_new w _
  have hBB : Below w.heap.size w w1 := by rw [hw1]; exact (Below.refl _ w).alloc (Nat.le_refl _) _
  obtain ⟨o0, ho0⟩ : ∃ x, newLab w o 0 = x := ⟨_, rfl⟩
  have hs1 : Step (fun _ => False) w o w1 o0 := by rw [← ho0]; exact Step.below hBB fun k hk => newLab_old _ _ _ hk
  have hgw : Blk w1 o0 0 w.heap.size [.int .i64 r.id, .int .i64 r.kind, .string r.doc, .int .i64 r.ver, .int .i64 r.off, .string r.txt] := ⟨_, hb0, by rw [← ho0]; exact newLab_new _ _ _ (Nat.le_refl _)⟩
  have hS1 := hS.step hs1 (fun _ _ h => h)
  clear hb0 hBB ho0 hS
  generalize hg : w.heap.size = gw at *
  obtain ⟨ok, hok⟩ : ∃ x, okR r = x := ⟨_, rfl⟩
  rw [hok] at hE
  simp only [hok] at kv
  obtain ⟨rs, run, last, an⟩ := S
  simp only at hlen hrun hE hB
  obtain ⟨n, hxn⟩ : ∃ n, rs.length = n := ⟨_, rfl⟩
  have hwn : waitN ⟨rs, run, last, an⟩ = n - if run = true then 1 else 0 := by rw [← hxn]; rfl
  rw [hwn] at hE
  rw [hxn] at hlen
  have hn0 : run = true → 0 < n := fun h => by
    have := List.length_pos_iff.2 (hrun h)
    omega
  obtain ⟨E, hEE⟩ : ∃ E, begE ⟨rs, run, last, an⟩ r = E := ⟨_, rfl⟩
  obtain ⟨T, hTT⟩ : ∃ T, begS ⟨rs, run, last, an⟩ r = T := ⟨_, rfl⟩
  rw [hEE] at hE hB ⊢
  rw [hTT] at hB ⊢
  obtain ⟨ri, rk, rd, rv, ro, rt⟩ := r
  simp only at kv hE hB hgw hw1
  have HB := Lib.hid hB
  have HE := Lib.hid hE
  have KV := Lib.hid kv
  have HW1 := Lib.hid hw1
  clear hB hE kv hw1 hrun hwn hEE hTT hok hG hd ht
  obtain ⟨rv', av, h1, h2, h3⟩ := id hS1
  obtain ⟨ra, rc, rfl⟩ := h2.form
  have hrec := h2.recAt.2
  obtain ⟨aa, ac, rfl⟩ := h3.form
  have hnc := hrec.le
  have hcm := hrec.cap_le
  rw [hxn] at h1 hnc
  have c0 := h1.cell (j := 0) rfl
  have c1 := h1.cell (j := 1) rfl
  rw [HW1.out] at c0 c1
  simp only at c0 c1
  have HS1 := Lib.hid hS1
  have HST := Lib.hid hs1
  have HGW := Lib.hid hgw
  have HXN := Lib.hid hxn
  have hra : run = true → ∃ g, ra = some ⟨g, 0, none⟩ := fun h => by
    obtain ⟨g, c, he, _⟩ := h2.own (by rw [hxn]; exact hn0 h)
    simp only [Value.slice.injEq] at he
    exact ⟨g, he.1⟩
  clear h1 h2 h3 hS1 hs1 hgw hxn hrec
  obtain ⟨q, hq⟩ : ∃ q, n - (if run = true then 1 else 0) = q := ⟨_, rfl⟩
  have hq65 : q ≤ 65 := by rw [← hq]; omega
  have HE' := HE.out
  rw [hq] at HE'
  have HE := Lib.hid HE'
  have HQ := Lib.hid hq
  clear HE' hq
  go_enter Try.func17, Try.ntmps17
  go_upto_if 13 with fail
  go_cut [5] (fun s5 wx => ∃ (x : Option Addr) (y : Nat), s5 = .slice x q y ∧ wx = w1)
  case first =>
    cases run with
    | false =>
      have hqn : n = q := HQ.out
      go_wp2_with fail
      go_meet
      exact ⟨ra, rc, by rw [hqn], HW1.out.symm⟩
    | true =>
      obtain ⟨g, rfl⟩ := hra rfl
      have hn1 := hn0 rfl
      have hqn : n - 1 = q := HQ.out
      go_wp2_with fail
      all_goals
        go_meet
        exact ⟨_, _, by rw [← hqn], HW1.out.symm⟩
  case rest =>
    obtain ⟨x, y, rfl, rfl⟩ := hcut
    clear c0 c1 HQ hra
    obtain ⟨g0, g1, g2, g3, g4, g5⟩ := HGW.out.six
    go_wp2_with fail
    refine (KV.out _).mono ?_
    rintro e w2 ⟨rfl, hb2⟩
    have hS2 := HS1.out.same hb2
    have hg2 := HGW.out.step (Step.same (L := fun _ => False) hb2) (fun h => h)
    obtain ⟨rv', av, h1, h2, h3⟩ := id hS2
    obtain ⟨ra2, rc2, rfl⟩ := h2.form
    obtain ⟨aa2, ac2, rfl⟩ := h3.form
    rw [HXN.out] at h1
    have c0 := h1.cell (j := 0) rfl
    have c2 := h1.cell (j := 2) rfl
    have d0 := h1.frozen 0
    have d2 := h1.frozen 2
    clear g0 g1 g2 g3 g4 g5
    obtain ⟨g0, g1, g2, g3, g4, g5⟩ := hg2.six
    have HS2 := Lib.hid hS2
    have HG2 := Lib.hid hg2
    have HST2 := Lib.hid (HST.out.trans (Step.same (L := fun _ => False) hb2))
    clear hb2 hS2 hg2 h1 h2 h3
    cases ok with
    | false =>
      have hE1 : E = 1 := HE.out
      have hT1 := HB.out
      subst hE1
      go_wp2_with fail
      go_ret
      rw [hT1]
      exact ⟨rfl, o0, HST2.out.mono (fun _ h => h.elim), HS2.out⟩
    | true =>
      have hE1 := HE.out
      rw [if_neg (by decide)] at hE1
      have HE := Lib.hid hE1
      clear hE1
      go_wp2_with fail
      go_quiet (fail)
      obtain ⟨w3, hw3⟩ : ∃ x, x = w2.drewN nq := ⟨_, rfl⟩
      have hb3 : Below w2.heap.size w2 w3 := by rw [hw3]; exact Below.drewN nq
      rw [← hw3]
      have hS3 := HS2.out.same hb3
      have hg3 := HG2.out.step (Step.same (L := fun _ => False) hb3) (fun h => h)
      have hst3 := HST2.out.trans (Step.same (L := fun _ => False) hb3)
      clear hw3 hb3 c0 c2 d0 d2 g0 g1 g2 g3 g4 g5 HS2 HG2 HST2 HGW HST HS1 HW1
      obtain ⟨rv', av, h1, h2, h3⟩ := id hS3
      obtain ⟨ra3, rc3, rfl⟩ := h2.form
      obtain ⟨aa3, ac3, rfl⟩ := h3.form
      rw [HXN.out] at h1
      have c2 := h1.cell (j := 2) rfl
      have d2 := h1.frozen 2
      obtain ⟨g0, g1, g2, g3, g4, g5⟩ := hg3.six
      have H1 := Lib.hid h1
      have H2 := Lib.hid h2
      have H3 := Lib.hid h3
      have HS3 := Lib.hid hS3
      have HG3 := Lib.hid hg3
      have HST3 := Lib.hid hst3
      clear h1 h2 h3 hS3 hg3 hst3
      by_cases hl : ri ≤ last
      · have hE1 := HE.out
        rw [if_pos hl] at hE1
        subst hE1
        have dl : decide (ri ≤ last) = true := decide_eq_true hl
        go_wp2_with fail
        go_ret
        rw [show T = _ from HB.out]
        exact ⟨rfl, o0, HST3.out.mono (fun _ h => h.elim), HS3.out⟩
      · have dl : decide (ri ≤ last) = false := decide_eq_false hl
        have hE1 := HE.out
        rw [if_neg hl] at hE1
        by_cases hq : 64 ≤ q
        · rw [if_pos hq] at hE1
          subst hE1
          have dq : (64 : Int) ≤ (q : Int) := by omega
          go_wp2_with fail
          go_ret
          rw [show T = _ from HB.out]
          exact ⟨rfl, o0, HST3.out.mono (fun _ h => h.elim), HS3.out⟩
        · rw [if_neg hq] at hE1
          have hT1 := HB.out
          rw [hE1, if_pos rfl] at hT1
          have HT := Lib.hid hT1
          subst hE1
          clear hT1
          have dq : ¬ (64 : Int) ≤ (q : Int) := by omega
          obtain ⟨w4, hw4⟩ : ∃ x, x = w3.setCell ⟨b, 2, none⟩ (.int .i64 ri) := ⟨_, rfl⟩
          have hs4 : Step (· = 10 * i) w3 o0 w4 o0 := by rw [hw4]; exact (Step.refl _ _ _).set (p := ⟨b, 2, none⟩) H1.out.lab _
          have h14 : Blk w4 o0 (10 * i) b [.slice ra3 n rc3, .bool run, .int .i64 ri, .slice aa3 an.length ac3] := by rw [hw4]; exact H1.out.set 2 _
          have h24 := H2.out.step hs4 (by omega)
          have h34 := H3.out.step hs4 (by omega)
          have hg4 := HG3.out.step hs4 (by omega)
          have HST4 := Lib.hid (HST3.out.into hs4)
          have HW4 := Lib.hid hw4
          unfold RecL at h24
          rw [HXN.out] at h24
          have H14 := Lib.hid h14
          have H24 := Lib.hid h24
          have H34 := Lib.hid h34
          have HG4 := Lib.hid hg4
          clear hw4 hs4 h24 h34 hg4 HS3
          go_wp2_with fail
          rw [← HW4.out]
          clear c2 d2 g0 g1 g2 g3 g4 g5 HW4 H1 H2 H3 HG3 HST3
          obtain ⟨g0, g1, g2, g3, g4, g5⟩ := HG4.out.six
          have c0 := h14.cell (j := 0) rfl
          have c0d : w4.drew.cell? ⟨b, 0, none⟩ = some (.slice ra3 n rc3) := c0
          have g0d : w4.drew.cell? ⟨gw, 0, none⟩ = some (.int .i64 ri) := g0
          have g1d : w4.drew.cell? ⟨gw, 1, none⟩ = some (.int .i64 rk) := g1
          have g2d : w4.drew.cell? ⟨gw, 2, none⟩ = some (.string rd) := g2
          have g3d : w4.drew.cell? ⟨gw, 3, none⟩ = some (.int .i64 rv) := g3
          have g4d : w4.drew.cell? ⟨gw, 4, none⟩ = some (.int .i64 ro) := g4
          have g5d : w4.drew.cell? ⟨gw, 5, none⟩ = some (.string rt) := g5
          have c0a := fun ob => Below.kept ((Below.refl _ w4).alloc (Nat.le_refl _) ob) (Nat.le_refl _) c0
          have c0b := fun ob => Below.kept ((Below.refl _ w4.drew).alloc (Nat.le_refl _) ob) (Nat.le_refl _) c0d
          clear h14
          go_region_law (refine step_append_row (by rfl) (.tmp 41) (.tmp 43) 79 (by rfl) elemR (by rfl) H24.out ((Below.drew (Below.refl _ w4)).alloc (Nat.le_refl _) _) (some ⟨w4.drew.heap.size, 0, none⟩) 1 1 (rqC ⟨ri, rk, rd, rv, ro, rt⟩) (by rfl) (row_new (cs := rqC ⟨ri, rk, rd, rv, ro, rt⟩) (by rfl) (by omega)) (rqO _) (by omega) (by omega) ?_; intro v' w5 hrow5 hs5
                         obtain ⟨a5, c5, rfl⟩ := hrow5.form
                         have H15 := H14.out.step hs5 (by omega)
                         have k2 := H15.cell (j := 0) rfl
                         have k3 := H15.frozen 0)
          all_goals
            clear g0 g1 g2 g3 g4 g5 g0d g1d g2d g3d g4d g5d c0 c0d c0a c0b
            go_wp2_with fail
            go_ret
            rw [HT.out]
            obtain ⟨o5, ho5⟩ : ∃ x, newLab w4 o0 (10 * i + 1) = x := ⟨_, rfl⟩
            rw [ho5] at hs5 hrow5 H15
            have hs6 : Step (· = 10 * i) w5 o5 (w5.setCell ⟨b, 0, none⟩ (.slice a5 (n + 1) c5)) o5 := (Step.refl _ _ _).set (p := ⟨b, 0, none⟩) H15.lab _
            refine ⟨rfl, o5, ((HST4.out.mono fun l hl => by subst hl; exact Own.at0 i).trans (hs5.mono fun l hl => by subst hl; exact Own.at1 i)).trans (hs6.mono fun l hl => by subst hl; exact Own.at0 i), _, _, H15.set 0 _, ?_, (H34.out.step hs5 (by omega)).step hs6 (by omega)⟩
            have h7 := hrow5.step hs6 (by omega)
            refine RecL.snoc ?_
            rw [HXN.out]
            exact h7
end Go.Proofs.Ytaonhmdifinadaa
