/-
  Contracts of package session: slices.Delete at requests, answer.
-/
import Derived.Test.YtaonhmdifinadaaSesB
import Derived.Deep.RegionLaw
namespace Go.Proofs.Ytaonhmdifinadaa
open Go Go.Proofs
open Go.RowKit
set_option linter.unusedVariables false
set_option linter.unusedSimpArgs false

theorem elemR : ElemT Try.prog 79 44 (.agg #[.int .i64 0, .int .i64 0, .string ⟨#[]⟩, .int .i64 0, .int .i64 0, .string ⟨#[]⟩]) 6 64 := ⟨Try.underlying79, info_parts (by kernel_rfl), rfl, by decide⟩
theorem elemA : ElemT Try.prog 50 53 (.agg #[.int .i64 0, .int .i64 0, .int .i64 0, .string ⟨#[]⟩]) 4 40 := ⟨Try.underlying50, info_parts (by kernel_rfl), rfl, by decide⟩
theorem ElemT.zeroV' {P : Program} {t e : TypeId} {z : Value} {size bytes : Nat} (E : ElemT P t e z size bytes) (w : World) : (zeroValue e).run P w = .ok z w := by
  obtain ⟨i, hi, hz, _⟩ := E.info
  simp [zeroValue, typeInfo, hi, hz]

abbrev RowR := RecL rqC 6 44
abbrev RowA := RecL anC 4 53

set_option maxRecDepth 100000 in
set_option maxHeartbeats 4000000 in
theorem deleteR_any (g cap i l : Nat) (xs : List Rq) (w : World) (o : Nat → Nat) (hrow : RowR w o l (.slice (some ⟨g, 0, none⟩) xs.length cap) xs) (hi : i < xs.length) (hn : xs.length ≤ 1000000) :
    Calls Try.prog 104 #[.slice (some ⟨g, 0, none⟩) xs.length cap, .int .i64 i, .int .i64 (i + 1 : Nat)] w fun e w' =>
      e = .returned (.slice (some ⟨g, 0, none⟩) (xs.length - 1 : Nat) cap) ∧ RowR w' o l (.slice (some ⟨g, 0, none⟩) (xs.length - 1) cap) (xs.eraseIdx i) ∧ Step (· = l) w o w' o := by
  have hdel := RowL.cut hrow i hi [.int .i64 0, .int .i64 0, .string ⟨#[]⟩, .int .i64 0, .int .i64 0, .string ⟨#[]⟩] rfl
  rw [← rec_erase rqZ] at hdel
  obtain ⟨_, cur, hcur, hog, hnc, hcm, hcs, hcg⟩ := hrow.blk
  have hstep : Step (· = l) w o ((w.drew.setCells g (i * 6) ((xs.flatMap rqC).drop ((i + 1) * 6))).setCells g ((xs.length - 1) * 6) [.int .i64 0, .int .i64 0, .string ⟨#[]⟩, .int .i64 0, .int .i64 0, .string ⟨#[]⟩]) o :=
    ((Step.refl _ w o).drew.setCells hog _ _).setCells hog _ _
  obtain ⟨i0, hi0, hz0, hz1, hz2⟩ := elemR.info
  have hlen0 := rec_len rqZ xs
  have hone := rec_one rqO xs
  have hlast : (xs.eraseIdx i).length = xs.length - 1 := List.length_eraseIdx_of_lt hi
  obtain ⟨fx, hfx⟩ : ∃ fx, xs.flatMap rqC = fx := ⟨_, rfl⟩
  rw [hfx] at hlen0 hone hcg hdel hstep
  obtain ⟨ys, hys⟩ : ∃ ys, (xs.eraseIdx i) = ys := ⟨_, rfl⟩
  rw [hys] at hdel hlast ⊢
  obtain ⟨n, hxn⟩ : ∃ n, xs.length = n := ⟨_, rfl⟩
  rw [hxn] at hi hnc hlen0 hdel hstep hlast hn ⊢
  clear hys hfx hxn hrow
  have hcell : ∀ j, j < n * 6 → w.cell? ⟨g, j, none⟩ = fx[j]? := fun j hj => by
    rw [cell_of_row w g j cur _ (0, 0) hcur]
    have : fx[j]? = some (fx[j]'(by omega)) := List.getElem?_eq_getElem (by omega)
    rw [this]
    exact hcg j _ this
  have hfr : ∀ j, w.frozen? ⟨g, j, none⟩ = false := fun j => by simp [World.frozen?, hcur]
  obtain ⟨news, hnews⟩ : ∃ news, news = fx.drop ((i + 1) * 6) := ⟨_, rfl⟩
  have hlen : news.length = (n - (i + 1)) * 6 := by rw [hnews, List.length_drop, hlen0]; omega
  have hcs' : n * 6 ≤ cap * 6 := by omega
  obtain ⟨A, hA, hsrc⟩ : ∃ A : Addr, (if cap = i + 1 then some (⟨g, 0, none⟩ : Addr) else some ⟨g, (i + 1) * 6, none⟩) = some A ∧ Hid (∀ t u, news[t]? = some u → w.drew.cell? (A.add t) = some u) := by
    by_cases h : cap = i + 1
    · refine ⟨⟨g, 0, none⟩, by simp [h], fun t u hu => ?_⟩
      have h0 : news.length = 0 := by rw [hlen]; omega
      rw [List.length_eq_zero_iff.1 h0] at hu
      simp at hu
    · refine ⟨⟨g, (i + 1) * 6, none⟩, by simp [h], fun t u hu => ?_⟩
      have ht : t < (n - (i + 1)) * 6 := by
        have := (List.getElem?_eq_some_iff.1 hu).1
        rwa [hlen] at this
      rw [Addr.add_lit]
      show w.cell? _ = _
      rw [hcell _ (by omega), ← hu, hnews, List.getElem?_drop]
  have s1 : Hid (news.length = (n - (i + 1)) * 6) := hlen
  have s2 : Hid (∀ u ∈ news, u.oneCell' = true) := fun u hu => hone u (List.mem_of_mem_drop (by rw [← hnews]; exact hu))
  have s3 : Hid (∀ t, t < news.length → (w.drew.cell? ⟨g, 0 + i * 6 + t, none⟩).isSome = true ∧ w.drew.frozen? ⟨g, 0 + i * 6 + t, none⟩ = false) := by
    intro t ht
    rw [hlen] at ht
    refine ⟨?_, hfr _⟩
    show (w.cell? _).isSome = true
    rw [hcell _ (by omega), List.getElem?_eq_getElem (by omega)]
    rfl
  obtain ⟨W1, hW1⟩ : ∃ W1, W1 = w.drew.setCells g (0 + i * 6) news := ⟨_, rfl⟩
  have hblk : W1.heap[g]? = some (.cells (overw cur (0 + i * 6) news) 44 (0, 0)) := by rw [hW1]; exact setCells_block g _ _ _ _ _ _ hcur
  have hcl : ∀ ty c', (Builtin.clear_ #[79] ty #[.slice (some ⟨g, (n - 1) * 6, none⟩) 1 c']).run Try.prog W1 = .ok (.tuple #[]) (W1.setCells g ((n - 1) * 6) [.int .i64 0, .int .i64 0, .string ⟨#[]⟩, .int .i64 0, .int .i64 0, .string ⟨#[]⟩]) := by
    intro ty c'
    refine run_clear_one W1 _ _ ty _ Try.underlying79 elemR.zeroV' (by intro u hu; simp [Value.cells] at hu; rcases hu with rfl | rfl | rfl | rfl | rfl | rfl <;> rfl) g _ _ (fun t ht => ?_) (fun t ht => by simp [World.frozen?, hblk])
    simp [Value.cells] at ht
    rw [cell_of_row W1 g _ _ _ (0, 0) hblk, Array.getElem?_eq_getElem (by rw [overw_size]; omega)]
    rfl
  obtain ⟨m, hm⟩ : ∃ m, n - 1 = m := ⟨_, rfl⟩
  rw [hm] at hcl hdel hstep hlast ⊢
  have hW : Hid (W1 = w.drew.setCells g (0 + i * 6) news) := hW1
  have hkc : i + 1 ≤ cap := by omega
  have X : Hid (news = fx.drop ((i + 1) * 6)) := hnews
  have HD := Lib.hid hdel
  have HS := Lib.hid hstep
  have HL := Lib.hid hlast
  clear hW1 hblk hcell hfr hcg hcur hnews hlen hdel hstep hog hone hlen0 hlast hcs hcs'
  go_enter Try.func104, Try.ntmps104
  go_wp2_with fail
  have hic : i ≤ cap := by omega
  have hi1 : (i : Int) + 1 ≤ n := by omega
  have hi2 : 0 ≤ (i : Int) + 1 := by omega
  have hin : i + (n - (i + 1)) = m := by omega
  have hmn : m ≤ n := by omega
  have hmc : ¬ cap = m := by omega
  have hmd : n - m = 1 := by omega
  go_region_law (refine step_append_room rfl (.tmp 22) (.tmp 25) 79 rfl 44 i0 6 Try.underlying79 hi0 hz1 g 0 i cap (by simp [Act.eval, Act.put]) A (n - (i + 1)) (cap - (i + 1)) news (by simp [Act.eval, Act.put]) s1.out hsrc.out s2.out (by omega) s3.out ?_; rw [← hW.out])
  clear hin hic hi1 hi2
  go_wp2_with fail
  go_ret
  have HD := HD.out
  have HS := HS.out
  rw [hW.out, X.out, Nat.zero_add]
  refine ⟨rfl, ?_, HS⟩
  unfold RowR RecL
  rw [HL.out]
  exact HD

theorem RecL.recAt {α : Type} {f : α → List Value} {z : Nat} {e : TypeId} {w : World} {o : Nat → Nat} {l : Nat} {a : Option Addr} {n c : Nat} {xs : List α} (h : RecL f z e w o l (.slice a n c) xs) : n = xs.length ∧ RecAt f z w a c xs := by
  obtain ⟨a', c', hv, hr⟩ := h.at
  simp only [Value.slice.injEq] at hv
  obtain ⟨rfl, rfl, rfl⟩ := hv
  exact ⟨rfl, hr⟩

abbrev SesP := SesAt 44 53
set_option maxRecDepth 100000 in
set_option maxHeartbeats 4000000 in
theorem answer_any (i b k : Nat) (S : SesS) (e : Int) (t : ByteArray) (w : World) (o : Nat → Nat) (hi : 1 ≤ i) (hS : SesP w o i b S) (hk : k < S.rq.length) (hn : S.rq.length ≤ 1000000) (ha : S.an.length ≤ 1000000) :
    Calls Try.prog 69 #[.pointer (some ⟨b, 0, none⟩), .int .i64 k, .int .i64 e, .string t] w fun x w' => x = .returned (.tuple #[]) ∧ ∃ o', Step (Own i) w o w' o' ∧ SesP w' o' i b (ansS S k e t) := by
  obtain ⟨rv, av, h1, h2, h3⟩ := hS
  obtain ⟨g, c, rfl, hog, hgl⟩ := h2.own (by omega)
  obtain ⟨aa, ac, rfl⟩ := h3.form
  obtain ⟨_, hrec⟩ := h2.recAt
  obtain ⟨r, hr⟩ : ∃ r, S.rq[k]? = some r := ⟨S.rq[k], List.getElem?_eq_getElem hk⟩
  obtain ⟨f0, f1, f2, f3, f4, f5⟩ := Rqs.cells hrec hr
  simp only [Nat.zero_add] at f0 f1 f2 f3 f4 f5
  have c0 := h1.cell (j := 0) rfl
  rw [ans_eq hr]
  obtain ⟨rs, run, last, an⟩ := S
  simp only at *
  obtain ⟨ri, rk, rd, rv, ro, rt⟩ := r
  simp only at *
  obtain ⟨n, hxn⟩ : ∃ n, rs.length = n := ⟨_, rfl⟩
  obtain ⟨m, hxm⟩ : ∃ m, an.length = m := ⟨_, rfl⟩
  rw [hxn] at hk hn h1 h2 c0
  rw [hxm] at ha h1 h3
  have hnc := hrec.le
  rw [hxn] at hnc
  obtain ⟨w1, hw1⟩ : ∃ x, x = w.alloc (.cells #[.int .i64 ri, .int .i64 rk, .string rd, .int .i64 rv, .int .i64 ro, .string rt] 44) := ⟨_, rfl⟩
  have hb0 : w1.heap[w.heap.size]? = some (.cells #[.int .i64 ri, .int .i64 rk, .string rd, .int .i64 rv, .int .i64 ro, .string rt] 44 (0, 0)) := by rw [hw1]; exact heap_alloc_new w _
  have hBB : Below w.heap.size w w1 := by rw [hw1]; exact (Below.refl _ w).alloc (Nat.le_refl _) _
  obtain ⟨o0, ho0⟩ : ∃ x, newLab w o 0 = x := ⟨_, rfl⟩
  have hs1 : Step (fun _ => False) w o w1 o0 := by rw [← ho0]; exact Step.below hBB fun k hk => newLab_old _ _ _ hk
  have hgw : Blk w1 o0 0 w.heap.size [.int .i64 ri, .int .i64 rk, .string rd, .int .i64 rv, .int .i64 ro, .string rt] := ⟨_, hb0, by rw [← ho0]; exact newLab_new _ _ _ (Nat.le_refl _)⟩
  have x0 := cell_of_row w1 w.heap.size 0 _ _ _ hb0
  have x3 := cell_of_row w1 w.heap.size 3 _ _ _ hb0
  simp at x0 x3
  have h11 := h1.step hs1 (fun h => h)
  have h21 := h2.step hs1 (fun h => h)
  have h31 := h3.step hs1 (fun h => h)
  have d3 := h11.cell (j := 3) rfl
  unfold RecL at h31
  rw [hxm] at h31
  have HGW := Lib.hid hgw
  have H11 := Lib.hid h11
  have H21 := Lib.hid h21
  have H31 := Lib.hid h31
  have HS1 := Lib.hid hs1
  have HW1 := Lib.hid hw1
  have HXN := Lib.hid hxn
  have HXM := Lib.hid hxm
  clear h1 h2 h3 hrec hr hb0 hBB h11 h21 h31 hs1 hw1 hxn hxm hgw ho0
  generalize hg : w.heap.size = gw at *
  go_enter Try.func69, Try.ntmps69
  go_wp2_with fail
  rw [← HW1.out]
  clear f0 f1 f2 f3 f4 f5 c0
  have d3d : w1.drew.cell? ⟨b, 3, none⟩ = some (.slice aa m ac) := d3
  have x0d : w1.drew.cell? ⟨gw, 0, none⟩ = some (.int .i64 ri) := x0
  have x3d : w1.drew.cell? ⟨gw, 3, none⟩ = some (.int .i64 rv) := x3
  have d3a := fun ob => Below.kept ((Below.refl _ w1).alloc (Nat.le_refl _) ob) (Nat.le_refl _) d3
  have x0a := fun ob => Below.kept ((Below.refl _ w1).alloc (Nat.le_refl _) ob) (Nat.le_refl _) x0
  have x3a := fun ob => Below.kept ((Below.refl _ w1).alloc (Nat.le_refl _) ob) (Nat.le_refl _) x3
  have d3b := fun ob => Below.kept ((Below.refl _ w1.drew).alloc (Nat.le_refl _) ob) (Nat.le_refl _) d3d
  have x0b := fun ob => Below.kept ((Below.refl _ w1.drew).alloc (Nat.le_refl _) ob) (Nat.le_refl _) x0d
  have x3b := fun ob => Below.kept ((Below.refl _ w1.drew).alloc (Nat.le_refl _) ob) (Nat.le_refl _) x3d
  go_region_law (refine step_append_row (by rfl) (.tmp 20) (.tmp 28) 50 (by rfl) elemA (by rfl) H31.out ((Below.drew (Below.refl _ w1)).alloc (Nat.le_refl _) _) (some ⟨w1.drew.heap.size, 0, none⟩) 1 1 (anC ⟨ri, e, rv, t⟩) (by rfl) (row_new (cs := anC ⟨ri, e, rv, t⟩) (by rfl) (by omega)) (anO _) (by omega) (by omega) ?_; intro v' w2 hrow2 hs2
                 obtain ⟨a2, c2, rfl⟩ := hrow2.form
                 have H12 := H11.out.step hs2 (by omega)
                 have k2 := H12.cell (j := 3) rfl
                 have k3 := H12.frozen 3)
  all_goals
    clear d3a x0a x3a d3b x0b x3b d3d x0d x3d d3 x0 x3 k2 k3 HGW
    obtain ⟨o1, ho1⟩ : ∃ x, newLab w1 o0 (10 * i + 2) = x := ⟨_, rfl⟩
    rw [ho1] at hs2 hrow2 H12
    have hS2 : Step (Own i) w o w2 o1 := (HS1.out.mono fun _ h => h.elim).trans (hs2.mono fun l hl => by subst hl; exact Own.at2 i)
    have h22 := H21.out.step hs2 (by omega)
    obtain ⟨w3, hw3⟩ : ∃ x, x = w2.setCell ⟨b, 3, none⟩ (.slice a2 (m + 1) c2) := ⟨_, rfl⟩
    have hs3 : Step (· = 10 * i) w2 o1 w3 o1 := by rw [hw3]; exact (Step.refl _ _ _).set (p := ⟨b, 3, none⟩) H12.lab _
    have h13 : Blk w3 o1 (10 * i) b [.slice (some ⟨g, 0, none⟩) n c, .bool run, .int .i64 last, .slice a2 (m + 1) c2] := by rw [hw3]; exact H12.set 3 _
    have h23 := h22.step hs3 (by omega)
    have h33 := hrow2.step hs3 (by omega)
    rw [← hw3]
    have hS3 : Step (Own i) w o w3 o1 := hS2.trans (hs3.mono fun l hl => by subst hl; exact Own.at0 i)
    have e0 := h13.cell (j := 0) rfl
    have kd := deleteR_any g c k (10 * i + 1) rs w3 o1 (by unfold RowR; rw [HXN.out]; exact h23) (by rw [HXN.out]; exact hk) (by rw [HXN.out]; exact hn)
    rw [HXN.out, show ((k + 1 : Nat) : Int) = (k : Int) + 1 by omega] at kd
    have KD := Lib.hid kd
    have H13 := Lib.hid h13
    have H33 := Lib.hid h33
    have HS3 := Lib.hid hS3
    clear hw3 hs2 hs3 hS2 hS3 h22 h23 h33 h13 hrow2 H12 kd H11 H21 H31 HS1 HW1 ho1
    have hk1 : (k : Int) + 1 ≤ 9223372036854775807 := by omega
    go_wp2_with fail
    refine KD.out.mono ?_
    rintro e w4 ⟨rfl, h24, hs4⟩
    have hS4 : Step (Own i) w o w4 o1 := HS3.out.trans (hs4.mono fun l hl => by subst hl; exact Own.at1 i)
    have h14 := H13.out.step hs4 (by omega)
    have h34 := H33.out.step hs4 (by omega)
    have y0 := h14.frozen 0
    have y0c := h14.cell (j := 0) rfl
    have y1 := h14.frozen 1
    have y1c := h14.cell (j := 1) rfl
    obtain ⟨w5, hw5⟩ : ∃ x, x = w4.setCell ⟨b, 0, none⟩ (.slice (some ⟨g, 0, none⟩) (n - 1) c) := ⟨_, rfl⟩
    have hs5 : Step (· = 10 * i) w4 o1 w5 o1 := by rw [hw5]; exact (Step.refl _ _ _).set (p := ⟨b, 0, none⟩) h14.lab _
    have h15 : Blk w5 o1 (10 * i) b [.slice (some ⟨g, 0, none⟩) (n - 1) c, .bool run, .int .i64 last, .slice a2 (m + 1) c2] := by rw [hw5]; exact h14.set 0 _
    have h25 := h24.step hs5 (by omega)
    have h35 := h34.step hs5 (by omega)
    have hS5 : Step (Own i) w o w5 o1 := hS4.trans (hs5.mono fun l hl => by subst hl; exact Own.at0 i)
    have HW5 := Lib.hid hw5
    have H15 := Lib.hid h15
    have H25 := Lib.hid h25
    have H35 := Lib.hid h35
    have HS5 := Lib.hid hS5
    clear hw5 hs4 hs5 hS4 hS5 h14 h34 h15 h25 h35 h24 KD H13 H33 HS3
    have key : ∀ w6, w6 = (w4.setCell ⟨b, 0, none⟩ (.slice (some ⟨g, 0, none⟩) (n - 1) c)).setCell ⟨b, 1, none⟩ (.bool (run && decide (0 < k))) → (∃ o', Step (Own i) w o w6 o' ∧ SesP w6 o' i b ⟨rs.eraseIdx k, run && decide (0 < k), last, an ++ [⟨ri, e, rv, t⟩]⟩) := by
      rintro w6 rfl
      rw [← HW5.out]
      have hs6 : Step (· = 10 * i) w5 o1 (w5.setCell ⟨b, 1, none⟩ (.bool (run && decide (0 < k)))) o1 := (Step.refl _ _ _).set (p := ⟨b, 1, none⟩) H15.out.lab _
      refine ⟨o1, HS5.out.trans (hs6.mono fun l hl => by subst hl; exact Own.at0 i), _, _, H15.out.set 1 _, H25.out.step hs6 (by omega), ?_⟩
      have h36 := H35.out.step hs6 (by omega)
      refine RecL.snoc ?_
      rw [HXM.out]
      exact h36
    by_cases hk0 : 0 < k
    · have d1 : decide ((0 : Int) < (k : Int)) = true := decide_eq_true (by omega)
      have d2 : decide (0 < k) = true := decide_eq_true hk0
      rw [d2, Bool.and_true] at key
      cases run
      all_goals
        go_wp2_with fail
        go_end0
        rw [d2, Bool.and_true]
        exact ⟨rfl, key _ rfl⟩
    · obtain rfl : k = 0 := by omega
      have d2 : decide ((0 : Nat) < 0) = false := rfl
      rw [d2, Bool.and_false] at key
      cases run
      all_goals
        go_wp2_with fail
        go_end0
        rw [d2, Bool.and_false]
        exact ⟨rfl, key _ rfl⟩
end Go.Proofs.Ytaonhmdifinadaa
