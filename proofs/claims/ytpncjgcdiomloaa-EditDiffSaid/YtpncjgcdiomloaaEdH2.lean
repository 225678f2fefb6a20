/-
  Contract: the reference's Diff.
-/
import Derived.Test.YtpncjgcdiomloaaEdH
namespace Go.Proofs.Ytpncjgcdiomloaa
open Go Go.Proofs
open Go.RowKit
set_option linter.unusedVariables false
set_option linter.unusedSimpArgs false

set_option maxRecDepth 100000 in
set_option maxHeartbeats 32000000 in
theorem rDiff_any (a b : ByteArray) (w : World) (ha : a.size ≤ 1000000000) (hb : b.size ≤ 1000000000) :
    Calls Try.prog 45 #[.string a, .string b] w fun e w' => ∃ v, e = .returned v ∧ OwnEds w' w.heap.size v (diffL a.data.toList b.data.toList) ∧ Below w.heap.size w w' := by
  by_cases hab : a = b
  · subst hab
    have hd : diffL a.data.toList a.data.toList = [] := by unfold diffL; simp
    rw [hd]
    clear hd
    have h1 : (a.toList == a.toList) = true := by simp
    go_enter Try.func45, Try.ntmps45
    go_wp2
    go_ret
    exact ⟨_, rfl, OwnEds.nil _ _, Below.refl _ _⟩
  · have hne : a.data.toList ≠ b.data.toList := by
      intro h
      apply hab
      ext1
      exact Array.toList_inj.1 h
    have hd : diffL a.data.toList b.data.toList = [⟨preL a.data.toList b.data.toList, (a.size : Int) - sufL a.data.toList b.data.toList, cutL b.data.toList (preL a.data.toList b.data.toList) (b.size - sufL a.data.toList b.data.toList)⟩] := by
      unfold diffL; rw [if_neg hne]; rfl
    rw [hd]
    have h1 : (a.toList == b.toList) = false := by rw [ByteArray.toList_eq, ByteArray.toList_eq]; simpa using hne
    have hsl := suf_le a.data.toList b.data.toList
    rw [size_list, size_list] at hsl
    clear hd hne hab
    have hQ0 : lcpL ((a.data.toList.drop (preL a.data.toList b.data.toList)).reverse) ((b.data.toList.drop (preL a.data.toList b.data.toList)).reverse) = sufL a.data.toList b.data.toList := rfl
    generalize hP : preL a.data.toList b.data.toList = P at *
    generalize hQ : sufL a.data.toList b.data.toList = Q at *
    have HP := Lib.hid hP
    have HQ := Lib.hid hQ0
    clear hP hQ hQ0
    go_enter Try.func45, Try.ntmps45
    go_wp2_with fail
    go_loopw [5] (fun pv wr => ∃ p : Nat, p ≤ a.size ∧ p ≤ b.size ∧ pv = .int .i64 p ∧ Hid (lcpL (a.data.toList.drop p) (b.data.toList.drop p) + p = P) ∧ Below w.heap.size w wr) (fun pv _ => a.size - (intOf pv).toNat)
    case atStart => exact ⟨0, by omega, by omega, rfl, HP.out, Below.refl _ _⟩
    case round =>
      obtain ⟨p, hp1, hp2, rfl, hR, hB⟩ := hrel
      have d4 : (0 : Int) ≤ (p : Int) := by omega
      have hcase : (∃ (h1 : p < a.size) (h2 : p < b.size), a[p] = b[p]) ∨ (∃ (h1 : p < a.size) (h2 : p < b.size), a[p] ≠ b[p]) ∨ (p < a.size ∧ ¬ p < b.size) ∨ ¬ p < a.size := by
        by_cases hlt : p < a.size
        · by_cases hlt2 : p < b.size
          · by_cases he : a[p] = b[p]
            · exact .inl ⟨hlt, hlt2, he⟩
            · exact .inr (.inl ⟨hlt, hlt2, he⟩)
          · exact .inr (.inr (.inl ⟨hlt, hlt2⟩))
        · exact .inr (.inr (.inr hlt))
      rcases hcase with ⟨hpa, hpb, he⟩ | hcase
      · have d1 := byte_eq he
        have hs := lcp_eq (a := a.data.toList) (b := b.data.toList) (p := p) hpa hpb he
        have HS := Lib.hid (show lcpL (a.data.toList.drop (p + 1)) (b.data.toList.drop (p + 1)) + (p + 1) = P by have := hR.out; omega)
        clear hs hR he
        have d2 : decide (p < a.size) = true := by simpa using hpa
        have d3 : decide ((p : Int) < (a.size : Int)) = true := by simp; omega
        have d2' : decide (p < b.size) = true := by simpa using hpb
        have d3' : decide ((p : Int) < (b.size : Int)) = true := by simp; omega
        have d5 : (p : Int) < (a.size : Int) := by omega
        have d6 : (p : Int) < (b.size : Int) := by omega
        go_wp2_with fail
        refine wp_region_still_lit (by kernel_rfl) (by kernel_rfl) ?_
        repeat still_step
        refine wpStill_nil ?_
        change Exit.then _ _ _ _ wr.drew
        go_wp2_with fail
        go_roundw
        case rel => exact ⟨p + 1, by omega, by omega, by go_num, HS.out, Below.drew hB⟩
        case measure => simp [intOf]; omega
      · have hpp : p = P := by
          rcases hcase with ⟨hpa, hpb, he⟩ | ⟨hpa, hpb⟩ | hpa
          · have hs := lcp_ne (a := a.data.toList) (b := b.data.toList) (p := p) hpa hpb he
            have := hR.out
            omega
          · have hs := lcp_end (a := a.data.toList) (b := b.data.toList) (p := p) (by rw [size_list, size_list]; omega)
            have := hR.out
            omega
          · have hs := lcp_end (a := a.data.toList) (b := b.data.toList) (p := p) (by rw [size_list, size_list]; omega)
            have := hR.out
            omega
        have hfacts : (∃ (h1 : p < a.size) (h2 : p < b.size), ((a[p].toNat : Int) == (b[p].toNat : Int)) = false ∧ decide (p < a.size) = true ∧ decide ((p : Int) < (a.size : Int)) = true ∧ decide (p < b.size) = true ∧ decide ((p : Int) < (b.size : Int)) = true ∧ (p : Int) < (a.size : Int) ∧ (p : Int) < (b.size : Int)) ∨ (decide (p < a.size) = true ∧ decide ((p : Int) < (a.size : Int)) = true ∧ decide (p < b.size) = false ∧ decide ((p : Int) < (b.size : Int)) = false) ∨ (decide (p < a.size) = false ∧ decide ((p : Int) < (a.size : Int)) = false) := by
          rcases hcase with ⟨hpa, hpb, he⟩ | ⟨hpa, hpb⟩ | hpa
          · exact .inl ⟨hpa, hpb, byte_ne he, by simpa using hpa, by simp; omega, by simpa using hpb, by simp; omega, by omega, by omega⟩
          · exact .inr (.inl ⟨by simpa using hpa, by simp; omega, decide_eq_false hpb, decide_eq_false (by omega)⟩)
          · exact .inr (.inr ⟨decide_eq_false hpa, decide_eq_false (by omega)⟩)
        have HPP := Lib.hid hpp
        obtain ⟨ma, hma⟩ : ∃ ma : Nat, (a.size : Int) - (p : Int) = (ma : Int) := ⟨a.size - p, by omega⟩
        obtain ⟨mb, hmb⟩ : ∃ mb : Nat, (b.size : Int) - (p : Int) = (mb : Int) := ⟨b.size - p, by omega⟩
        have y3 : IntKind.i64.wrap (ma : Int) = (ma : Int) := IntWalk.i64_in _ (by omega)
        have y3' : IntKind.i64.wrap (mb : Int) = (mb : Int) := IntWalk.i64_in _ (by omega)
        have hman : ma = a.size - p := by omega
        have hmbn : mb = b.size - p := by omega
        have HMA := Lib.hid hman
        have HMB := Lib.hid hmbn
        clear hpp hcase hR hman hmbn
        rcases hfacts with ⟨hpa, hpb, d1, d2, d3, d2', d3', d5, d6⟩ | ⟨d2, d3, d2', d3'⟩ | ⟨d2, d3⟩
        all_goals
          obtain ⟨wo, rfl⟩ : ∃ wo : World, wo = wr := ⟨_, rfl⟩
          have hBo := hB
          clear hB
          go_wp2_with fail
          first
            | (have := d1
               refine wp_region_still_lit (by kernel_rfl) (by kernel_rfl) ?_
               repeat still_step
               refine wpStill_nil ?_
               change Exit.then _ _ _ _ wo.drew)
            | go_quiet (fail)
          go_wp2_with fail
          go_loopw [6] (fun qv wr => ∃ q : Nat, q ≤ ma ∧ q ≤ mb ∧ qv = .int .i64 q ∧ Hid (lcpL (((a.data.toList.drop P).reverse).drop q) (((b.data.toList.drop P).reverse).drop q) + q = Q) ∧ Below w.heap.size w wr) (fun qv _ => ma - (intOf qv).toNat)
          case atStart => exact ⟨0, by omega, by omega, rfl, Lib.hid (by rw [List.drop_zero, List.drop_zero, Nat.add_zero]; exact HQ.out), by first | exact Below.drew hBo | exact hBo.trans (Below.drewN _)⟩
          case round =>
            obtain ⟨q, hq1, hq2, rfl, hR, hB⟩ := hrel
            have e4 : (0 : Int) ≤ (q : Int) := by omega
            have hman := HMA.out
            have hmbn := HMB.out
            have hra : ((a.data.toList.drop P).reverse).length = a.size - P := by simp [size_list]
            have hrb : ((b.data.toList.drop P).reverse).length = b.size - P := by simp [size_list]
            have hcase : (∃ (i j : Nat) (h1 : i < a.size) (h2 : j < b.size), i + 1 + q = a.size ∧ j + 1 + q = b.size ∧ a[i] = b[j] ∧ q < ma ∧ q < mb) ∨ (∃ (i j : Nat) (h1 : i < a.size) (h2 : j < b.size), i + 1 + q = a.size ∧ j + 1 + q = b.size ∧ a[i] ≠ b[j] ∧ q < ma ∧ q < mb) ∨ (q < ma ∧ ¬ q < mb) ∨ ¬ q < ma := by
              by_cases hlt : q < ma
              · by_cases hlt2 : q < mb
                · by_cases he : a[a.size - 1 - q]'(by omega) = b[b.size - 1 - q]'(by omega)
                  · exact .inl ⟨_, _, by omega, by omega, by omega, by omega, he, hlt, hlt2⟩
                  · exact .inr (.inl ⟨_, _, by omega, by omega, by omega, by omega, he, hlt, hlt2⟩)
                · exact .inr (.inr (.inl ⟨hlt, hlt2⟩))
              · exact .inr (.inr (.inr hlt))
            have hPn := HPP.out
            rcases hcase with ⟨i, j, hi, hj, hi2, hj2, he, hlt, hlt2⟩ | hcase
            · have hs := lcp_eq (a := (a.data.toList.drop P).reverse) (b := (b.data.toList.drop P).reverse) (p := q) (by omega) (by omega) (by
                rw [rev_at (by rw [size_list]; omega), rev_at (by rw [size_list]; omega)]
                have x1 : a.data.toList.length - 1 - q = i := by rw [size_list]; omega
                have x2 : b.data.toList.length - 1 - q = j := by rw [size_list]; omega
                simp only [x1, x2]
                exact he)
              have HS := Lib.hid (show lcpL (((a.data.toList.drop P).reverse).drop (q + 1)) (((b.data.toList.drop P).reverse).drop (q + 1)) + (q + 1) = Q by have := hR.out; omega)
              have e1 := byte_eq he
              clear hs hR he hra hrb hPn hman hmbn
              have e2 : decide (q < ma) = true := by simpa using hlt
              have e3 : decide ((q : Int) < (ma : Int)) = true := by simp; omega
              have e2' : decide (q < mb) = true := by simpa using hlt2
              have e3' : decide ((q : Int) < (mb : Int)) = true := by simp; omega
              obtain ⟨a1, ha1⟩ : ∃ a1 : Nat, (a.size : Int) - 1 = (a1 : Int) := ⟨a.size - 1, by omega⟩
              obtain ⟨b1, hb1⟩ : ∃ b1 : Nat, (b.size : Int) - 1 = (b1 : Int) := ⟨b.size - 1, by omega⟩
              have x1 : (a1 : Int) - (q : Int) = (i : Int) := by omega
              have x2 : (b1 : Int) - (q : Int) = (j : Int) := by omega
              have y1 : IntKind.i64.wrap (a1 : Int) = (a1 : Int) := IntWalk.i64_in _ (by omega)
              have y2 : IntKind.i64.wrap (b1 : Int) = (b1 : Int) := IntWalk.i64_in _ (by omega)
              have y4 : IntKind.i64.wrap (i : Int) = (i : Int) := IntWalk.i64_in _ (by omega)
              have y5 : IntKind.i64.wrap (j : Int) = (j : Int) := IntWalk.i64_in _ (by omega)
              have e5 : (i : Int) < (a.size : Int) := by omega
              have e6 : (j : Int) < (b.size : Int) := by omega
              have e7 : (0 : Int) ≤ (i : Int) := by omega
              have e8 : (0 : Int) ≤ (j : Int) := by omega
              have hq3 : q + 1 ≤ ma := by omega
              have hq4 : q + 1 ≤ mb := by omega
              clear hi2 hj2
              go_wp2_with fail
              refine wp_region_still_lit (by kernel_rfl) (by kernel_rfl) ?_
              repeat still_step
              refine wpStill_nil ?_
              change Exit.then _ _ _ _ wr.drew
              go_wp2_with fail
              go_roundw
              case rel => exact ⟨q + 1, hq3, hq4, by go_num, HS.out, Below.drew hB⟩
              case measure => simp [intOf]; omega
            · have hqq : q = Q := by
                have hr := hR.out
                rcases hcase with ⟨i, j, hi, hj, hi2, hj2, he, hlt, hlt2⟩ | ⟨hlt, hlt2⟩ | hlt
                · have hs := lcp_ne (a := (a.data.toList.drop P).reverse) (b := (b.data.toList.drop P).reverse) (p := q) (by omega) (by omega) (by
                    rw [rev_at (by rw [size_list]; omega), rev_at (by rw [size_list]; omega)]
                    have x1 : a.data.toList.length - 1 - q = i := by rw [size_list]; omega
                    have x2 : b.data.toList.length - 1 - q = j := by rw [size_list]; omega
                    simp only [x1, x2]
                    exact he)
                  omega
                · have hs := lcp_end (a := (a.data.toList.drop P).reverse) (b := (b.data.toList.drop P).reverse) (p := q) (by omega)
                  omega
                · have hs := lcp_end (a := (a.data.toList.drop P).reverse) (b := (b.data.toList.drop P).reverse) (p := q) (by omega)
                  omega
              have hfacts : (∃ (i j : Nat) (h1 : i < a.size) (h2 : j < b.size), i + 1 + q = a.size ∧ j + 1 + q = b.size ∧ ((a[i].toNat : Int) == (b[j].toNat : Int)) = false ∧ decide (q < ma) = true ∧ decide ((q : Int) < (ma : Int)) = true ∧ decide (q < mb) = true ∧ decide ((q : Int) < (mb : Int)) = true) ∨ (decide (q < ma) = true ∧ decide ((q : Int) < (ma : Int)) = true ∧ decide (q < mb) = false ∧ decide ((q : Int) < (mb : Int)) = false) ∨ (decide (q < ma) = false ∧ decide ((q : Int) < (ma : Int)) = false) := by
                rcases hcase with ⟨i, j, hi, hj, hi2, hj2, he, hlt, hlt2⟩ | ⟨hlt, hlt2⟩ | hlt
                · exact .inl ⟨i, j, hi, hj, hi2, hj2, byte_ne he, by simpa using hlt, by simp; omega, by simpa using hlt2, by simp; omega⟩
                · exact .inr (.inl ⟨by simpa using hlt, by simp; omega, decide_eq_false hlt2, decide_eq_false (by omega)⟩)
                · exact .inr (.inr ⟨decide_eq_false hlt, decide_eq_false (by omega)⟩)
              have hpq1 : p + q ≤ a.size ∧ p + q ≤ b.size := by omega
              have HQQ := Lib.hid hqq
              clear hcase hR hra hrb hPn hqq hman hmbn
              obtain ⟨bq, hbq⟩ : ∃ bq : Nat, (b.size : Int) - (q : Int) = (bq : Int) := ⟨b.size - q, by omega⟩
              have z1 : (p : Int) ≤ (bq : Int) := by omega
              have z2 : (bq : Int) ≤ (b.size : Int) := by omega
              have z3 : bq + q = b.size := by omega
              have Z3 := Lib.hid z3
              clear z3
              have hres := fun (n : Nat) => diff_own (w := wr.drewN n) ((hB.trans (Below.drewN n)).size) (f := p) (t := a.size - q) (x := cutL b.data.toList p bq)
              have hresd := diff_own (w := wr.drew) ((Below.drew hB).size) (f := p) (t := a.size - q) (x := cutL b.data.toList p bq)
              rw [← ext_strB] at hres hresd
              have hfin : b.size - q = bq := by have := Z3.out; omega
              have HRES := Lib.hid hres
              have HRESD := Lib.hid hresd
              have HFIN := Lib.hid hfin
              clear hres hresd hfin
              rcases hfacts with ⟨i, j, hi, hj, hi2, hj2, e1, e2, e3, e2', e3'⟩ | ⟨e2, e3, e2', e3'⟩ | ⟨e2, e3⟩
              · obtain ⟨a1, ha1⟩ : ∃ a1 : Nat, (a.size : Int) - 1 = (a1 : Int) := ⟨a.size - 1, by omega⟩
                obtain ⟨b1, hb1⟩ : ∃ b1 : Nat, (b.size : Int) - 1 = (b1 : Int) := ⟨b.size - 1, by omega⟩
                have x1 : (a1 : Int) - (q : Int) = (i : Int) := by omega
                have x2 : (b1 : Int) - (q : Int) = (j : Int) := by omega
                have y1 : IntKind.i64.wrap (a1 : Int) = (a1 : Int) := IntWalk.i64_in _ (by omega)
                have y2 : IntKind.i64.wrap (b1 : Int) = (b1 : Int) := IntWalk.i64_in _ (by omega)
                have y4 : IntKind.i64.wrap (i : Int) = (i : Int) := IntWalk.i64_in _ (by omega)
                have y5 : IntKind.i64.wrap (j : Int) = (j : Int) := IntWalk.i64_in _ (by omega)
                have e5 : (i : Int) < (a.size : Int) := by omega
                have e6 : (j : Int) < (b.size : Int) := by omega
                have e7 : (0 : Int) ≤ (i : Int) := by omega
                have e8 : (0 : Int) ≤ (j : Int) := by omega
                clear hi2 hj2
                go_wp2_with fail
                refine wp_region_still_lit (by kernel_rfl) (by kernel_rfl) ?_
                repeat still_step
                refine wpStill_nil ?_
                change Exit.then _ _ _ _ wr.drew
                obtain ⟨wd, hwd⟩ : ∃ wd, wd = wr.drew := ⟨_, rfl⟩
                have hBd : Below w.heap.size w wd := by rw [hwd]; exact Below.drew hB
                rw [← hwd] at HRESD ⊢
                clear hwd hB
                go_wp2_with fail
                go_ret
                exact ⟨_, rfl, by rw [← HPP.out, ← HQQ.out, HFIN.out]; exact HRESD.out, hBd.alloc hBd.size _⟩
              · go_wp2_with fail
                go_quiet (fail)
                go_wp2_with fail
                go_ret
                exact ⟨_, rfl, by rw [← HPP.out, ← HQQ.out, HFIN.out]; exact HRES.out _, (hB.trans (Below.drewN _)).alloc (hB.trans (Below.drewN _)).size _⟩
              · go_wp2_with fail
                go_quiet (fail)
                go_wp2_with fail
                go_ret
                exact ⟨_, rfl, by rw [← HPP.out, ← HQQ.out, HFIN.out]; exact HRES.out _, (hB.trans (Below.drewN _)).alloc (hB.trans (Below.drewN _)).size _⟩
end Go.Proofs.Ytpncjgcdiomloaa
