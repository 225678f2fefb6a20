/-
  Contracts of the reference's session (schemalensref37): most, Valid, Stale, answer.
-/
import Derived.Test.YtaonhmdifinadaaSesG
import Derived.Test.YtaonhmdifinadaaSesH
import Derived.Deep.DeepCutAuto
import Derived.Deep.CutBlock
namespace Go.Proofs.Ytaonhmdifinadaa
open Go Go.Proofs
open Go.RowKit
set_option linter.unusedVariables false
set_option linter.unusedSimpArgs false

theorem elemRq : ElemT Try.prog 70 60 (.agg #[.int .i64 0, .int .i64 0, .string ⟨#[]⟩, .int .i64 0, .int .i64 0, .string ⟨#[]⟩]) 6 64 := ⟨Try.underlying70, info_parts (by kernel_rfl), rfl, by decide⟩
theorem elemAq : ElemT Try.prog 71 84 (.agg #[.int .i64 0, .int .i64 0, .int .i64 0, .string ⟨#[]⟩]) 4 40 := ⟨Try.underlying71, info_parts (by kernel_rfl), rfl, by decide⟩
abbrev RowRq := RecL rqC 6 60
abbrev RowAq := RecL anC 4 84
abbrev SesQ := SesAt 60 84

theorem most_any (n : Int) (w : World) : Calls Try.prog 107 #[.int .i64 n] w fun e w' => e = .returned (.bool (decide (0 ≤ n ∧ n ≤ 1099511627776))) ∧ w = w' := by
  go_enter Try.func107, Try.ntmps107
  go_wp2
  all_goals
    go_ret
    exact ⟨ret_bool (by simp; omega), rfl⟩

set_option maxHeartbeats 1000000 in
theorem rok_any (r : Rq) (w : World) (hd : r.doc.size ≤ 9223372036854775807) (ht : r.txt.size ≤ 9223372036854775807) :
    Calls Try.prog 77 #[.agg #[.int .i64 r.id, .int .i64 r.kind, .string r.doc, .int .i64 r.ver, .int .i64 r.off, .string r.txt]] w fun e w' => e = .returned (.bool (okR r)) ∧ Below w.heap.size w w' := by
  obtain ⟨x, hx⟩ : ∃ x, okR r = x := ⟨_, rfl⟩
  rw [hx]
  unfold okR at hx
  obtain ⟨id, kind, doc, ver, off, txt⟩ := r
  simp only at hx hd ht
  have HX := Lib.hid hx
  clear hx
  have hb := (Below.refl _ w).alloc (Nat.le_refl _) (.cells #[.int .i64 id, .int .i64 kind, .string doc, .int .i64 ver, .int .i64 off, .string txt] 60)
  go_enter Try.func77, Try.ntmps77
  go_wp2_with (go_at_call 107; refine (most_any _ _).mono ?_; rintro e w1 ⟨rfl, rfl⟩)
  all_goals
    go_ret
    refine ⟨ret_bool ?_, hb⟩
    rw [← HX.out, Bool.eq_iff_iff]
    simp
    omega

set_option maxHeartbeats 1000000 in
theorem rstale_any (r : Rq) (a : Option Addr) (c : Nat) (l : List Vn) (w : World) (hx : RecAt vnC 2 w a c l) :
    Calls Try.prog 106 #[.agg #[.int .i64 r.id, .int .i64 r.kind, .string r.doc, .int .i64 r.ver, .int .i64 r.off, .string r.txt], .slice a l.length c] w fun e w' => e = .returned (.bool (stale l r)) ∧ Below w.heap.size w w' := by
  have hm := hx.max
  obtain ⟨w1, hw1⟩ : ∃ x, x = w.alloc (.cells #[.int .i64 r.id, .int .i64 r.kind, .string r.doc, .int .i64 r.ver, .int .i64 r.off, .string r.txt] 60) := ⟨_, rfl⟩
  have hb0 : w1.heap[w.heap.size]? = some (.cells #[.int .i64 r.id, .int .i64 r.kind, .string r.doc, .int .i64 r.ver, .int .i64 r.off, .string r.txt] 60 (0, 0)) := by rw [hw1]; exact heap_alloc_new w _
  have hBB : Below w.heap.size w w1 := by rw [hw1]; exact (Below.refl _ w).alloc (Nat.le_refl _) _
  have x2 := cell_of_row w1 w.heap.size 2 _ _ _ hb0
  have x3 := cell_of_row w1 w.heap.size 3 _ _ _ hb0
  simp at x2 x3
  obtain ⟨S, hS⟩ : ∃ S, stale l r = S := ⟨_, rfl⟩
  rw [hS]
  have HS := Lib.hid hS
  have HW1 := Lib.hid hw1
  have HX2 := Lib.hid x2
  have HX3 := Lib.hid x3
  have HX := Lib.hid (hx.below hBB)
  clear hS hb0 hw1 hx x2 x3
  generalize hg : w.heap.size = gw at *
  obtain ⟨id, kind, doc, ver, ofs, txt⟩ := r
  simp only at HS HW1 HX2 HX3
  go_enter Try.func106, Try.ntmps106
  go_wp2_with fail
  rw [← HW1.out]
  go_loopw [5] (fun iv wr => ∃ k : Nat, k ≤ l.length ∧ iv = .int .i64 k ∧ Below w1.heap.size w1 wr ∧ Hid (stale (l.drop k) ⟨id, kind, doc, ver, ofs, txt⟩ = S)) (fun iv _ => l.length - (intOf iv).toNat)
  case atStart => exact ⟨0, by omega, rfl, Below.refl _ _, by unfold Hid; rw [List.drop_zero]; exact HS.out⟩
  case round =>
    obtain ⟨k, hk, rfl, hB, hA⟩ := hrel
    by_cases hlt : k < l.length
    · obtain ⟨b, off, rfl⟩ := RecAt.addr vnZ (by decide) HX.out (by omega)
      obtain ⟨e, he⟩ : ∃ e, l[k]? = some e := ⟨l[k], List.getElem?_eq_getElem hlt⟩
      obtain ⟨f0, f1⟩ := Vns.cells (HX.out.below hB) he
      have hA' := hA.out
      rw [List.drop_eq_getElem_cons hlt, stale_cons] at hA'
      rw [List.getElem?_eq_getElem hlt, Option.some.injEq] at he
      rw [he] at hA'
      simp only at hA'
      have ht := toList_dec e.doc doc
      obtain ⟨ed, ev⟩ := e
      simp only at f0 f1 hA' ht
      have x2 := Below.kept hB (Nat.le_refl _) HX2.out
      have x3 := Below.kept hB (Nat.le_refl _) HX3.out
      have hkI : (k : Int) < (l.length : Int) := by omega
      have hk0 : (0 : Int) ≤ (k : Int) := by omega
      by_cases hd : ed = doc
      · rw [if_pos hd] at hA'
        rw [decide_eq_true hd] at ht
        have HA := Lib.hid hA'
        clear hA' he hd
        go_wp2_with fail
        go_quiet (fail)
        obtain ⟨wd, hwd⟩ : ∃ x, x = wr.drewN nq := ⟨_, rfl⟩
        have hd : Below wr.heap.size wr wd := by rw [hwd]; exact Below.drewN nq
        rw [← hwd]
        have f1 := Below.kept hd (Nat.le_refl _) f1
        have x3 := Below.kept hd (Nat.le_refl _) x3
        clear f0 x2 ht hwd
        go_wp2_with fail
        go_quiet (fail)
        go_wp2_with fail
        go_ret
        exact ⟨ret_bool HA.out, ((hBB.trans (hB.mono (by rw [← hg]; exact hBB.size))).trans (hd.mono (by have := hB.size; have := hBB.size; omega))).trans (Below.drewN _)⟩
      · rw [if_neg hd] at hA'
        rw [decide_eq_false hd] at ht
        have HA := Lib.hid hA'
        clear hA' he hd
        go_wp2_with fail
        go_quiet (fail)
        go_wp2_with fail
        go_roundw
        case rel => exact ⟨k + 1, by omega, by go_num, hB.trans (Below.drewN _), HA.out⟩
        case measure => simp [intOf]; omega
    · obtain rfl : k = l.length := by omega
      have hA' := hA.out
      rw [List.drop_of_length_le (Nat.le_refl _)] at hA'
      have HA : Hid (true = S) := hA'
      clear hA'
      go_wp2_with fail
      go_ret
      exact ⟨ret_bool HA.out, hBB.trans (hB.mono (by rw [← hg]; exact hBB.size))⟩

set_option maxRecDepth 100000 in
set_option maxHeartbeats 16000000 in
theorem ranswer_any (i b k : Nat) (S : SesS) (e : Int) (t : ByteArray) (w : World) (o : Nat → Nat) (hi : 1 ≤ i) (hS : SesQ w o i b S) (hk : k < S.rq.length) (hn : S.rq.length ≤ 1000000) (ha : S.an.length ≤ 1000000) :
    Calls Try.prog 105 #[.pointer (some ⟨b, 0, none⟩), .int .i64 k, .int .i64 e, .string t] w fun x w' => x = .returned (.tuple #[]) ∧ ∃ o', Step (Own i) w o w' o' ∧ SesQ w' o' i b (ansS S k e t) := by
  obtain ⟨rv, av, h1, h2, h3⟩ := hS
  obtain ⟨g, c, rfl, hog, hgl⟩ := h2.own (by omega)
  obtain ⟨aa, ac, rfl⟩ := h3.form
  obtain ⟨_, hrec⟩ := h2.recAt
  obtain ⟨r, hr⟩ : ∃ r, S.rq[k]? = some r := ⟨S.rq[k], List.getElem?_eq_getElem hk⟩
  obtain ⟨f0, f1, f2, f3, f4, f5⟩ := Rqs.cells hrec hr
  simp only [Nat.zero_add] at f0 f1 f2 f3 f4 f5
  have c0 := h1.cell (j := 0) rfl
  have c3 := h1.cell (j := 3) rfl
  rw [ans_eq hr]
  obtain ⟨rs, run, last, an⟩ := S
  simp only at *
  obtain ⟨ri, rk, rd, rv, ro, rt⟩ := r
  simp only at *
  obtain ⟨n, hxn⟩ : ∃ n, rs.length = n := ⟨_, rfl⟩
  obtain ⟨m, hxm⟩ : ∃ m, an.length = m := ⟨_, rfl⟩
  rw [hxn] at hk hn h1 h2 c0
  rw [hxm] at ha h1 h3 c3
  have hnc := hrec.le
  have hcm := hrec.cap_le
  rw [hxn] at hnc
  unfold RecL at h3
  rw [hxm] at h3
  have H1 := Lib.hid h1
  have H2 := Lib.hid h2
  have H3 := Lib.hid h3
  have HXN := Lib.hid hxn
  have HXM := Lib.hid hxm
  clear f1 f2 f4 f5 h1 h2 h3 hxn hxm hrec hr
  have hkI : (k : Int) < (n : Int) := by omega
  have hk0 : (0 : Int) ≤ (k : Int) := by omega
  have c0d : w.drew.cell? ⟨b, 0, none⟩ = some (.slice (some ⟨g, 0, none⟩) n c) := c0
  have c3d : w.drew.cell? ⟨b, 3, none⟩ = some (.slice aa m ac) := c3
  have f0d : w.drew.cell? ⟨g, k * 6, none⟩ = some (.int .i64 ri) := f0
  have f3d : w.drew.cell? ⟨g, k * 6 + 3, none⟩ = some (.int .i64 rv) := f3
  have c0a := fun ob => Below.kept ((Below.refl _ w).alloc (Nat.le_refl _) ob) (Nat.le_refl _) c0
  have c3a := fun ob => Below.kept ((Below.refl _ w).alloc (Nat.le_refl _) ob) (Nat.le_refl _) c3
  have f0a := fun ob => Below.kept ((Below.refl _ w).alloc (Nat.le_refl _) ob) (Nat.le_refl _) f0
  have f3a := fun ob => Below.kept ((Below.refl _ w).alloc (Nat.le_refl _) ob) (Nat.le_refl _) f3
  have c0b := fun ob => Below.kept ((Below.refl _ w.drew).alloc (Nat.le_refl _) ob) (Nat.le_refl _) c0d
  have c3b := fun ob => Below.kept ((Below.refl _ w.drew).alloc (Nat.le_refl _) ob) (Nat.le_refl _) c3d
  have f0b := fun ob => Below.kept ((Below.refl _ w.drew).alloc (Nat.le_refl _) ob) (Nat.le_refl _) f0d
  have f3b := fun ob => Below.kept ((Below.refl _ w.drew).alloc (Nat.le_refl _) ob) (Nat.le_refl _) f3d
  go_enter Try.func105, Try.ntmps105
  go_wp2_with fail
  go_cut [] (fun wx => ∃ (o1 : Nat → Nat) (a2 : Option Addr) (c2 : Nat), Hid (Step (Own i) w o wx o1) ∧ Hid (Blk wx o1 (10 * i) b [.slice (some ⟨g, 0, none⟩) n c, .bool run, .int .i64 last, .slice a2 (m + 1) c2]) ∧ Hid (RowRq wx o1 (10 * i + 1) (.slice (some ⟨g, 0, none⟩) n c) rs) ∧ Hid (RowL wx o1 (10 * i + 2) 84 4 (.slice a2 (m + 1) c2) (m + 1) (an.flatMap anC ++ anC ⟨ri, e, rv, t⟩)))
  case first =>
    go_region_law (refine step_append_row (by rfl) (.tmp 13) (.tmp 33) 71 (by rfl) elemAq (by rfl) H3.out ((Below.drew (Below.refl _ w)).alloc (Nat.le_refl _) _) (some ⟨w.drew.heap.size, 0, none⟩) 1 1 (anC ⟨ri, e, rv, t⟩) (by rfl) (row_new (cs := anC ⟨ri, e, rv, t⟩) (by rfl) (by omega)) (anO _) (by omega) (by omega) ?_; intro v' w2 hrow2 hs2
                   obtain ⟨a2, c2, rfl⟩ := hrow2.form
                   have H12 := H1.out.step hs2 (by omega)
                   have k2 := H12.cell (j := 3) rfl
                   have k3 := H12.frozen 3)
    all_goals
      clear c0 c3 f0 f3 c0d c3d f0d f3d c0a c3a f0a f3a c0b c3b f0b f3b k2 k3
      obtain ⟨o1, ho1⟩ : ∃ x, newLab w o (10 * i + 2) = x := ⟨_, rfl⟩
      rw [ho1] at hs2 hrow2 H12
      have hS2 : Step (Own i) w o w2 o1 := hs2.mono fun l hl => by subst hl; exact Own.at2 i
      have h22 := H2.out.step hs2 (by omega)
      obtain ⟨w3, hw3⟩ : ∃ x, x = w2.setCell ⟨b, 3, none⟩ (.slice a2 (m + 1) c2) := ⟨_, rfl⟩
      have hs3 : Step (· = 10 * i) w2 o1 w3 o1 := by rw [hw3]; exact (Step.refl _ _ _).set (p := ⟨b, 3, none⟩) H12.lab _
      have h13 : Blk w3 o1 (10 * i) b [.slice (some ⟨g, 0, none⟩) n c, .bool run, .int .i64 last, .slice a2 (m + 1) c2] := by rw [hw3]; exact H12.set 3 _
      have h23 := h22.step hs3 (by omega)
      have h33 := hrow2.step hs3 (by omega)
      rw [← hw3]
      have hS3 : Step (Own i) w o w3 o1 := hS2.trans (hs3.mono fun l hl => by subst hl; exact Own.at0 i)
      have H13 := Lib.hid h13
      have H23 := Lib.hid h23
      have H33 := Lib.hid h33
      have HS3 := Lib.hid hS3
      clear hw3 hs2 hs3 hS2 hS3 h22 h23 h33 h13 hrow2 H12 ho1
      go_wp2_with fail
      go_meet
      exact ⟨o1, a2, c2, HS3.out, H13.out, H23.out, H33.out⟩
  case rest =>
    obtain ⟨o1, a2, c2, HS3, H13, H23, H33⟩ := hcut
    generalize wc = w3 at *
    clear c0 c3 f0 f3 c0d c3d f0d f3d c0a c3a f0a f3a c0b c3b f0b f3b H1 H2 H3
    go_upto_if 38 with fail
    go_cut [] (fun wx => Hid (Step (Own i) w o wx o1) ∧ Hid (Blk wx o1 (10 * i) b [.slice (some ⟨g, 0, none⟩) n c, .bool (run && decide (0 < k)), .int .i64 last, .slice a2 (m + 1) c2]) ∧ Hid (RowRq wx o1 (10 * i + 1) (.slice (some ⟨g, 0, none⟩) n c) rs) ∧ Hid (RowL wx o1 (10 * i + 2) 84 4 (.slice a2 (m + 1) c2) (m + 1) (an.flatMap anC ++ anC ⟨ri, e, rv, t⟩)))
    case first => as_aux_lemma =>
      by_cases hz : k = 0
      · subst hz
        have d1 := H13.out.frozen 1
        have hs4 := H13.out.setCellStep 1 (.bool false)
        have K1 := Lib.hid (HS3.out.trans (hs4.mono fun l hl => by subst hl; exact Own.at0 i))
        have K2 : Hid (Blk (w3.setCell ⟨b, 1, none⟩ (.bool false)) o1 (10 * i) b [.slice (some ⟨g, 0, none⟩) n c, .bool (run && decide (0 < 0)), .int .i64 last, .slice a2 (m + 1) c2]) := by
          have := H13.out.set 1 (.bool false)
          rw [show (run && decide (0 < 0)) = false by simp]
          exact this
        have K3 := Lib.hid (H23.out.step hs4 (by omega))
        have K4 := Lib.hid (H33.out.step hs4 (by omega))
        have dc := H13.out.cell (j := 1) rfl
        clear hs4
        go_wp2_with fail
        go_meet
        exact ⟨K1.out, K2.out, K3.out, K4.out⟩
      · have hz1 : ((k : Int) == 0) = false := by simp [hz]
        have K2 : Hid (Blk w3 o1 (10 * i) b [.slice (some ⟨g, 0, none⟩) n c, .bool (run && decide (0 < k)), .int .i64 last, .slice a2 (m + 1) c2]) := by
          have := H13.out
          rw [decide_eq_true (show 0 < k by omega), Bool.and_true]
          exact this
        clear hz
        go_wp2_with fail
        go_meet
        exact ⟨HS3.out, K2.out, H23.out, H33.out⟩
    case rest =>
      obtain ⟨HS4, H14, H24, H34⟩ := hcut
      clear HS3 H13 H23 H33
      have c0 := H14.out.cell (j := 0) rfl
      have d0 := H14.out.frozen 0
      have hlt4 := H14.out.lt
      have hrec4 := H24.out.recAt.2
      have htake := hrec4.take rqZ k
      have hr1 : RowAt wc (some ⟨g, 0, none⟩) k c 6 ((rs.take k).flatMap rqC) := by
        have := htake
        unfold RecAt at this
        rwa [List.length_take, HXN.out, Nat.min_eq_left (by omega)] at this
      have HR1 := Lib.hid hr1
      have HREC4 := Lib.hid hrec4
      clear hrec4 htake hr1
      go_wp2_with (at_builtin; refine wpList_append_src _ rfl (.tmp 42) (.tmp 48) 70 rfl elemRq wc.heap.size _ 0 [] rfl (World.ownsRow_nil _ _ _ _) (some ⟨g, 0, none⟩) k c _ rfl HR1.out (rec_one rqO _) (by omega) (by omega) (Nat.le_refl _) ?_)
      intro v5 w5 hown5 hb5 hg5
      obtain ⟨a5, c5, rfl, -⟩ := ownsRow_row hown5
      have c0 := Below.kept hb5 (by have := World.block_lt_of_cell? wc _ c0; exact Nat.le_refl _) c0
      have hrow2 : ∃ A : Addr, (if c = k + 1 then (some ⟨g, 0, none⟩ : Option Addr) else some ⟨g, (k + 1) * 6, none⟩) = some A ∧ Hid (RowAt w5 (some A) (n - (k + 1)) (c - (k + 1)) 6 ((rs.drop (k + 1)).flatMap rqC)) := by
        have hrec5 := HREC4.out.below hb5
        have hdr := RecAt.drop rqZ hrec5 (k + 1) (by rw [HXN.out]; omega)
        unfold RecAt at hdr
        rw [List.length_drop, HXN.out, Nat.zero_add] at hdr
        by_cases h : c = k + 1
        · refine ⟨⟨g, 0, none⟩, by simp [h], ?_⟩
          have hz : rs.drop (k + 1) = [] := List.drop_of_length_le (by rw [HXN.out]; omega)
          refine ⟨by rw [hz]; simp; omega, by omega, by omega, by simp, fun hp => by rw [hz] at hp; simp at hp⟩
        · exact ⟨⟨g, (k + 1) * 6, none⟩, by simp [h], hdr⟩
      obtain ⟨A, hA, HR5⟩ := hrow2
      have HO5 := Lib.hid hown5
      have HB5 := Lib.hid hb5
      have hsz5 := hb5.size
      clear hown5 hb5 hg5 HR1
      have hkc : k + 1 ≤ c := by omega
      have hk1 : (k : Int) + 1 ≤ (n : Int) := by omega
      have hk2 : 0 ≤ (k : Int) + 1 := by omega
      have d5 : w5.frozen? ⟨b, 0, none⟩ = false := (H14.out.step (Step.same (L := fun _ => False) (o := o1) HB5.out) (fun h => h)).frozen 0
      go_wp2_with (at_builtin; refine wpList_append_src _ rfl (.tmp 51) (.tmp 58) 70 rfl elemRq wc.heap.size _ k _ rfl HO5.out (some A) (n - (k + 1)) (c - (k + 1)) _ rfl HR5.out (rec_one rqO _) (by omega) (by omega) hsz5 ?_)
      intro v6 w6 hown6 hb6 hg6
      obtain ⟨a6, c6, rfl, -⟩ := ownsRow_row hown6
      have hB6 : Below wc.heap.size wc w6 := HB5.out.trans hb6
      have hB6' := hB6
      have c0 := Below.kept hB6 (Nat.le_refl _) (H14.out.cell (j := 0) rfl)
      obtain ⟨o6, ho6⟩ : ∃ x, newLab wc o1 (10 * i + 1) = x := ⟨_, rfl⟩
      have hs6 : Step (fun _ => False) wc o1 w6 o6 := by rw [← ho6]; exact Step.below hB6 fun k hk => newLab_old _ _ _ hk
      have h16 := H14.out.step hs6 (fun h => h)
      have d6 := h16.frozen 0
      have h36 := H34.out.step hs6 (fun h => h)
      have h26 : RowRq w6 o6 (10 * i + 1) (.slice a6 (n - 1) c6) (rs.eraseIdx k) := by
        have := RowL.new (o := o1) (i := 10 * i + 1) hown6
        rw [ho6] at this
        unfold RowRq RecL
        rw [List.length_eraseIdx_of_lt (by rw [HXN.out]; exact hk), rec_erase rqZ, HXN.out]
        rw [← rec_take rqZ, ← rec_drop rqZ]
        have e1 : k + (n - (k + 1)) = n - 1 := by omega
        rw [e1] at this
        exact this
      have hn1 : k + (n - (k + 1)) = n - 1 := by omega
      rw [hn1]
      have hs7 := h16.setCellStep 0 (.slice a6 (n - 1 : Nat) c6)
      have K1 := Lib.hid ((HS4.out.trans (hs6.mono fun _ h => h.elim)).trans (hs7.mono fun l hl => by subst hl; exact Own.at0 i))
      have K2 := Lib.hid (h16.set 0 (.slice a6 (n - 1 : Nat) c6))
      have K3 := Lib.hid (h26.step hs7 (by omega))
      have K4 := Lib.hid (h36.step hs7 (by omega))
      have HN1 := Lib.hid hn1
      clear hs6 hs7 h16 h26 h36 hown6 hb6 hg6 hB6 hB6' ho6 hA HO5 HR5 HB5 hn1
      go_wp2_with fail
      go_end0
      refine ⟨rfl, o6, K1.out, _, _, K2.out, K3.out, ?_⟩
      refine RecL.snoc ?_
      rw [HXM.out]
      exact K4.out
end Go.Proofs.Ytaonhmdifinadaa
