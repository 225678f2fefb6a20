/-
  The reference session: answer, with what happens to its rows.
-/
import Derived.Test.YtaonhmdifinadaaScA
import Derived.Deep.DeepCutAuto
import Derived.Deep.CutBlock
namespace Go.Proofs.Ytaonhmdifinadaa
open Go Go.Proofs
open Go.RowKit
set_option linter.unusedVariables false
set_option linter.unusedSimpArgs false
set_option maxRecDepth 100000 in
set_option maxHeartbeats 16000000 in
theorem ganswer_any {w0 : World} {rv0 av0 : Value} {R0 : Nat} {A0 : List Value} (i b k : Nat) (S : SesS) (e : Int) (t : ByteArray) (w : World) (o : Nat → Nat) (hi : 1 ≤ i) (hS : SesG 60 84 w0 rv0 av0 R0 A0 w o i b S) (hk : k < S.rq.length) (hn : S.rq.length ≤ 1000000) (ha : S.an.length ≤ 1000000) :
    Calls Try.prog 105 #[.pointer (some ⟨b, 0, none⟩), .int .i64 k, .int .i64 e, .string t] w fun x w' => x = .returned (.tuple #[]) ∧ ∃ o', Step (Own i) w o w' o' ∧ SesG 60 84 w0 rv0 av0 R0 A0 w' o' i b (ansS S k e t) := by
  obtain ⟨rv, av, ⟨h1, h2, h3⟩, h4⟩ := hS
  obtain ⟨g, c, rfl, hog, hgl⟩ := h2.own (by omega)
  obtain ⟨aa, ac, rfl⟩ := h3.form
  obtain ⟨_, hrec⟩ := h2.recAt
  obtain ⟨r, hr⟩ : ∃ r, S.rq[k]? = some r := ⟨S.rq[k], List.getElem?_eq_getElem hk⟩
  obtain ⟨f0, f1, f2, f3, f4, f5⟩ := Rqs.cells hrec hr
  simp only [Nat.zero_add] at f0 f1 f2 f3 f4 f5
  have c0 := h1.cell (j := 0) rfl
  have c3 := h1.cell (j := 3) rfl
  rw [ans_eq hr]
  obtain ⟨rs, run, last, an⟩ := S
  simp only at *
  obtain ⟨ri, rk, rd, rv, ro, rt⟩ := r
  simp only at *
  obtain ⟨n, hxn⟩ : ∃ n, rs.length = n := ⟨_, rfl⟩
  obtain ⟨m, hxm⟩ : ∃ m, an.length = m := ⟨_, rfl⟩
  rw [hxn] at hk hn h1 h2 c0
  rw [hxm] at ha h1 h3 c3
  have hnc := hrec.le
  have hcm := hrec.cap_le
  rw [hxn] at hnc
  unfold RecL at h3
  rw [hxm] at h3 h4
  rw [hxn] at h4
  have H1 := Lib.hid h1
  have H2 := Lib.hid h2
  have H3 := Lib.hid h3
  have H4 := Lib.hid h4
  have HXN := Lib.hid hxn
  have HXM := Lib.hid hxm
  clear f1 f2 f4 f5 h1 h2 h3 h4 hxn hxm hrec hr
  have hkI : (k : Int) < (n : Int) := by omega
  have hk0 : (0 : Int) ≤ (k : Int) := by omega
  have c0d : w.drew.cell? ⟨b, 0, none⟩ = some (.slice (some ⟨g, 0, none⟩) n c) := c0
  have c3d : w.drew.cell? ⟨b, 3, none⟩ = some (.slice aa m ac) := c3
  have f0d : w.drew.cell? ⟨g, k * 6, none⟩ = some (.int .i64 ri) := f0
  have f3d : w.drew.cell? ⟨g, k * 6 + 3, none⟩ = some (.int .i64 rv) := f3
  have c0a := fun ob => Below.kept ((Below.refl _ w).alloc (Nat.le_refl _) ob) (Nat.le_refl _) c0
  have c3a := fun ob => Below.kept ((Below.refl _ w).alloc (Nat.le_refl _) ob) (Nat.le_refl _) c3
  have f0a := fun ob => Below.kept ((Below.refl _ w).alloc (Nat.le_refl _) ob) (Nat.le_refl _) f0
  have f3a := fun ob => Below.kept ((Below.refl _ w).alloc (Nat.le_refl _) ob) (Nat.le_refl _) f3
  have c0b := fun ob => Below.kept ((Below.refl _ w.drew).alloc (Nat.le_refl _) ob) (Nat.le_refl _) c0d
  have c3b := fun ob => Below.kept ((Below.refl _ w.drew).alloc (Nat.le_refl _) ob) (Nat.le_refl _) c3d
  have f0b := fun ob => Below.kept ((Below.refl _ w.drew).alloc (Nat.le_refl _) ob) (Nat.le_refl _) f0d
  have f3b := fun ob => Below.kept ((Below.refl _ w.drew).alloc (Nat.le_refl _) ob) (Nat.le_refl _) f3d
  go_enter Try.func105, Try.ntmps105
  go_wp2_with fail
  go_cut [] (fun wx => ∃ (o1 : Nat → Nat) (a2 : Option Addr) (c2 : Nat), Hid (Step (Own i) w o wx o1) ∧ Hid (Blk wx o1 (10 * i) b [.slice (some ⟨g, 0, none⟩) n c, .bool run, .int .i64 last, .slice a2 (m + 1) c2]) ∧ Hid (RowRq wx o1 (10 * i + 1) (.slice (some ⟨g, 0, none⟩) n c) rs) ∧ Hid (RowL wx o1 (10 * i + 2) 84 4 (.slice a2 (m + 1) c2) (m + 1) (an.flatMap anC ++ anC ⟨ri, e, rv, t⟩)) ∧ Hid (Hist w0 i rv0 av0 R0 A0 wx o1 (.slice (some ⟨g, 0, none⟩) n c) (.slice a2 (m + 1) c2) (rs.flatMap rqC) (an.flatMap anC ++ anC ⟨ri, e, rv, t⟩)))
  case first =>
    go_region_law (refine step_append_row2 (by rfl) (.tmp 13) (.tmp 33) 71 (by rfl) elemAq (by rfl) H3.out ((Below.drew (Below.refl _ w)).alloc (Nat.le_refl _) _) ⟨w.drew.heap.size, 0, none⟩ 1 1 (anC ⟨ri, e, rv, t⟩) (by rfl) (row_new (cs := anC ⟨ri, e, rv, t⟩) (by rfl) (by omega)) (anO _) (by omega) (by omega) ?_; intro v' w2 hrow2 hs2 hmv2 hfr2
                   obtain ⟨a2, c2, rfl⟩ := hrow2.form
                   have H12 := H1.out.step hs2 (by omega)
                   have k2 := H12.cell (j := 3) rfl
                   have k3 := H12.frozen 3)
    all_goals
      clear c0 c3 f0 f3 c0d c3d f0d f3d c0a c3a f0a f3a c0b c3b f0b f3b k2 k3
      have hF2 := H4.out.appA hmv2 hfr2 hs2.size (fun k hk => newLab_old w o (10 * i + 2) hk) H3.out.2
      obtain ⟨o1, ho1⟩ : ∃ x, newLab w o (10 * i + 2) = x := ⟨_, rfl⟩
      rw [ho1] at hs2 hrow2 H12 hF2
      have hS2 : Step (Own i) w o w2 o1 := hs2.mono fun l hl => by subst hl; exact Own.at2 i
      have h22 := H2.out.step hs2 (by omega)
      obtain ⟨w3, hw3⟩ : ∃ x, x = w2.setCell ⟨b, 3, none⟩ (.slice a2 (m + 1) c2) := ⟨_, rfl⟩
      have hs3 : Step (· = 10 * i) w2 o1 w3 o1 := by rw [hw3]; exact (Step.refl _ _ _).set (p := ⟨b, 3, none⟩) H12.lab _
      have h13 : Blk w3 o1 (10 * i) b [.slice (some ⟨g, 0, none⟩) n c, .bool run, .int .i64 last, .slice a2 (m + 1) c2] := by rw [hw3]; exact H12.set 3 _
      have h23 := h22.step hs3 (by omega)
      have h33 := hrow2.step hs3 (by omega)
      have hF3 := hF2.step hs3 (by omega) (by omega)
      rw [← hw3]
      have hS3 : Step (Own i) w o w3 o1 := hS2.trans (hs3.mono fun l hl => by subst hl; exact Own.at0 i)
      have H13 := Lib.hid h13
      have H23 := Lib.hid h23
      have H33 := Lib.hid h33
      have HS3 := Lib.hid hS3
      have HF3 := Lib.hid hF3
      clear hmv2 hfr2 hF2 hF3 hw3 hs2 hs3 hS2 hS3 h22 h23 h33 h13 hrow2 H12 ho1
      go_wp2_with fail
      go_meet
      exact ⟨o1, a2, c2, HS3.out, H13.out, H23.out, H33.out, HF3.out⟩
  case rest =>
    obtain ⟨o1, a2, c2, HS3, H13, H23, H33, HF3⟩ := hcut
    generalize wc = w3 at *
    clear c0 c3 f0 f3 c0d c3d f0d f3d c0a c3a f0a f3a c0b c3b f0b f3b H1 H2 H3
    go_upto_if 38 with fail
    go_cut [] (fun wx => Hid (Step (Own i) w o wx o1) ∧ Hid (Blk wx o1 (10 * i) b [.slice (some ⟨g, 0, none⟩) n c, .bool (run && decide (0 < k)), .int .i64 last, .slice a2 (m + 1) c2]) ∧ Hid (RowRq wx o1 (10 * i + 1) (.slice (some ⟨g, 0, none⟩) n c) rs) ∧ Hid (RowL wx o1 (10 * i + 2) 84 4 (.slice a2 (m + 1) c2) (m + 1) (an.flatMap anC ++ anC ⟨ri, e, rv, t⟩)) ∧ Hid (Hist w0 i rv0 av0 R0 A0 wx o1 (.slice (some ⟨g, 0, none⟩) n c) (.slice a2 (m + 1) c2) (rs.flatMap rqC) (an.flatMap anC ++ anC ⟨ri, e, rv, t⟩)))
    case first => as_aux_lemma =>
      by_cases hz : k = 0
      · subst hz
        have d1 := H13.out.frozen 1
        have hs4 := H13.out.setCellStep 1 (.bool false)
        have K1 := Lib.hid (HS3.out.trans (hs4.mono fun l hl => by subst hl; exact Own.at0 i))
        have K2 : Hid (Blk (w3.setCell ⟨b, 1, none⟩ (.bool false)) o1 (10 * i) b [.slice (some ⟨g, 0, none⟩) n c, .bool (run && decide (0 < 0)), .int .i64 last, .slice a2 (m + 1) c2]) := by
          have := H13.out.set 1 (.bool false)
          rw [show (run && decide (0 < 0)) = false by simp]
          exact this
        have K3 := Lib.hid (H23.out.step hs4 (by omega))
        have K4 := Lib.hid (H33.out.step hs4 (by omega))
        have K5 := Lib.hid (HF3.out.step hs4 (by omega) (by omega))
        have dc := H13.out.cell (j := 1) rfl
        clear hs4
        go_wp2_with fail
        go_meet
        exact ⟨K1.out, K2.out, K3.out, K4.out, K5.out⟩
      · have hz1 : ((k : Int) == 0) = false := by simp [hz]
        have K2 : Hid (Blk w3 o1 (10 * i) b [.slice (some ⟨g, 0, none⟩) n c, .bool (run && decide (0 < k)), .int .i64 last, .slice a2 (m + 1) c2]) := by
          have := H13.out
          rw [decide_eq_true (show 0 < k by omega), Bool.and_true]
          exact this
        clear hz
        go_wp2_with fail
        go_meet
        exact ⟨HS3.out, K2.out, H23.out, H33.out, HF3.out⟩
    case rest =>
      obtain ⟨HS4, H14, H24, H34, HF4⟩ := hcut
      clear HS3 H13 H23 H33 HF3
      have c0 := H14.out.cell (j := 0) rfl
      have d0 := H14.out.frozen 0
      have hlt4 := H14.out.lt
      have hrec4 := H24.out.recAt.2
      have htake := hrec4.take rqZ k
      have hr1 : RowAt wc (some ⟨g, 0, none⟩) k c 6 ((rs.take k).flatMap rqC) := by
        have := htake
        unfold RecAt at this
        rwa [List.length_take, HXN.out, Nat.min_eq_left (by omega)] at this
      have HR1 := Lib.hid hr1
      have HREC4 := Lib.hid hrec4
      clear hrec4 htake hr1
      go_wp2_with (at_builtin; refine wpList_append_src _ rfl (.tmp 42) (.tmp 48) 70 rfl elemRq wc.heap.size _ 0 [] rfl (World.ownsRow_nil _ _ _ _) (some ⟨g, 0, none⟩) k c _ rfl HR1.out (rec_one rqO _) (by omega) (by omega) (Nat.le_refl _) ?_)
      intro v5 w5 hown5 hb5 hg5
      obtain ⟨a5, c5, rfl, -⟩ := ownsRow_row hown5
      have c0 := Below.kept hb5 (by have := World.block_lt_of_cell? wc _ c0; exact Nat.le_refl _) c0
      have hrow2 : ∃ A : Addr, (if c = k + 1 then (some ⟨g, 0, none⟩ : Option Addr) else some ⟨g, (k + 1) * 6, none⟩) = some A ∧ Hid (RowAt w5 (some A) (n - (k + 1)) (c - (k + 1)) 6 ((rs.drop (k + 1)).flatMap rqC)) := by
        have hrec5 := HREC4.out.below hb5
        have hdr := RecAt.drop rqZ hrec5 (k + 1) (by rw [HXN.out]; omega)
        unfold RecAt at hdr
        rw [List.length_drop, HXN.out, Nat.zero_add] at hdr
        by_cases h : c = k + 1
        · refine ⟨⟨g, 0, none⟩, by simp [h], ?_⟩
          have hz : rs.drop (k + 1) = [] := List.drop_of_length_le (by rw [HXN.out]; omega)
          refine ⟨by rw [hz]; simp; omega, by omega, by omega, by simp, fun hp => by rw [hz] at hp; simp at hp⟩
        · exact ⟨⟨g, (k + 1) * 6, none⟩, by simp [h], hdr⟩
      obtain ⟨A, hA, HR5⟩ := hrow2
      have HO5 := Lib.hid hown5
      have HB5 := Lib.hid hb5
      have hsz5 := hb5.size
      clear hown5 hb5 hg5 HR1
      have hkc : k + 1 ≤ c := by omega
      have hk1 : (k : Int) + 1 ≤ (n : Int) := by omega
      have hk2 : 0 ≤ (k : Int) + 1 := by omega
      have d5 : w5.frozen? ⟨b, 0, none⟩ = false := (H14.out.step (Step.same (L := fun _ => False) (o := o1) HB5.out) (fun h => h)).frozen 0
      go_wp2_with (at_builtin; refine wpList_append_src _ rfl (.tmp 51) (.tmp 58) 70 rfl elemRq wc.heap.size _ k _ rfl HO5.out (some A) (n - (k + 1)) (c - (k + 1)) _ rfl HR5.out (rec_one rqO _) (by omega) (by omega) hsz5 ?_)
      intro v6 w6 hown6 hb6 hg6
      obtain ⟨a6, c6, rfl, -⟩ := ownsRow_row hown6
      have hB6 : Below wc.heap.size wc w6 := HB5.out.trans hb6
      have hB6' := hB6
      have c0 := Below.kept hB6 (Nat.le_refl _) (H14.out.cell (j := 0) rfl)
      obtain ⟨o6, ho6⟩ : ∃ x, newLab wc o1 (10 * i + 1) = x := ⟨_, rfl⟩
      have hs6 : Step (fun _ => False) wc o1 w6 o6 := by rw [← ho6]; exact Step.below hB6 fun k hk => newLab_old _ _ _ hk
      have h16 := H14.out.step hs6 (fun h => h)
      have d6 := h16.frozen 0
      have h36 := H34.out.step hs6 (fun h => h)
      have hF6 := (HF4.out.step hs6 (fun h => h) (fun h => h)).rowR (rv' := .slice a6 (n - 1 : Nat) c6) (R' := (rs.eraseIdx k).flatMap rqC) fun g' hg' => Nat.le_trans HF4.out.size (hown6.lt g' (by rw [show k + (n - (k + 1)) = n - 1 by omega]; exact hg')).1
      have h26 : RowRq w6 o6 (10 * i + 1) (.slice a6 (n - 1) c6) (rs.eraseIdx k) := by
        have := RowL.new (o := o1) (i := 10 * i + 1) hown6
        rw [ho6] at this
        unfold RowRq RecL
        rw [List.length_eraseIdx_of_lt (by rw [HXN.out]; exact hk), rec_erase rqZ, HXN.out]
        rw [← rec_take rqZ, ← rec_drop rqZ]
        have e1 : k + (n - (k + 1)) = n - 1 := by omega
        rw [e1] at this
        exact this
      have hn1 : k + (n - (k + 1)) = n - 1 := by omega
      rw [hn1]
      have hs7 := h16.setCellStep 0 (.slice a6 (n - 1 : Nat) c6)
      have K1 := Lib.hid ((HS4.out.trans (hs6.mono fun _ h => h.elim)).trans (hs7.mono fun l hl => by subst hl; exact Own.at0 i))
      have K2 := Lib.hid (h16.set 0 (.slice a6 (n - 1 : Nat) c6))
      have K3 := Lib.hid (h26.step hs7 (by omega))
      have K4 := Lib.hid (h36.step hs7 (by omega))
      have K5 := Lib.hid (hF6.step hs7 (by omega) (by omega))
      have HN1 := Lib.hid hn1
      clear hF6 hs6 hs7 h16 h26 h36 hown6 hb6 hg6 hB6 hB6' ho6 hA HO5 HR5 HB5 hn1
      go_wp2_with fail
      go_end0
      refine ⟨rfl, o6, K1.out, _, _, ⟨K2.out, K3.out, ?_⟩, ?_⟩
      · refine RecL.snoc ?_
        rw [HXM.out]
        exact K4.out
      · show Hist _ _ _ _ _ _ _ _ _ _ _ ((an ++ [_]).flatMap anC)
        rw [List.flatMap_append, List.flatMap_cons, List.flatMap_nil, List.append_nil]
        exact K5.out
end Go.Proofs.Ytaonhmdifinadaa
