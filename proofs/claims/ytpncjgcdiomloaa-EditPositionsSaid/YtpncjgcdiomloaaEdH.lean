/-
  Contracts: edit.Diff and the reference's.
-/
import Derived.Test.YtpncjgcdiomloaaEdD
import Derived.Test.YtpncjgcdiomloaaEdO
import Derived.StillTactics
namespace Go.Proofs.Ytpncjgcdiomloaa
open Go Go.Proofs
open Go.RowKit
set_option linter.unusedVariables false
set_option linter.unusedSimpArgs false

theorem lcp_eq {a b : List UInt8} {p : Nat} (h1 : p < a.length) (h2 : p < b.length) (h : a[p] = b[p]) : lcpL (a.drop p) (b.drop p) = lcpL (a.drop (p + 1)) (b.drop (p + 1)) + 1 := by
  rw [List.drop_eq_getElem_cons h1, List.drop_eq_getElem_cons h2, lcpL, if_pos h]
theorem lcp_ne {a b : List UInt8} {p : Nat} (h1 : p < a.length) (h2 : p < b.length) (h : a[p] ≠ b[p]) : lcpL (a.drop p) (b.drop p) = 0 := by
  rw [List.drop_eq_getElem_cons h1, List.drop_eq_getElem_cons h2, lcpL, if_neg h]
theorem lcp_end {a b : List UInt8} {p : Nat} (h : a.length ≤ p ∨ b.length ≤ p) : lcpL (a.drop p) (b.drop p) = 0 := by
  rcases h with h | h
  · rw [List.drop_of_length_le h]; simp [lcpL]
  · rw [List.drop_of_length_le h]
    cases a.drop p <;> simp [lcpL]
theorem byte_ne {a b : UInt8} (h : a ≠ b) : ((a.toNat : Int) == (b.toNat : Int)) = false := by
  rw [beq_eq_false_iff_ne]
  intro e
  exact h (UInt8.toNat_inj.1 (by omega))
theorem byte_eq {a b : UInt8} (h : a = b) : ((a.toNat : Int) == (b.toNat : Int)) = true := by rw [h]; simp
theorem rev_at {l : List UInt8} {P q : Nat} (h : q + P < l.length) : ((l.drop P).reverse)[q]'(by simp; omega) = l[l.length - 1 - q]'(by omega) := by
  rw [List.getElem_reverse, List.getElem_drop]
  have : P + ((l.drop P).length - 1 - q) = l.length - 1 - q := by simp only [List.length_drop]; omega
  simp only [this]
theorem diff_own {w : World} {base : Nat} (hb : base ≤ w.heap.size) {f t : Int} {x : List UInt8} : OwnEds (w.alloc (.cells #[.int .i64 f, .int .i64 t, .string (strB x)] 39)) base (.slice (some ⟨w.heap.size, 0, none⟩) 1 1) [⟨f, t, x⟩] :=
  World.ownsRow_lit w #[.int .i64 f, .int .i64 t, .string (strB x)] 1 hb (by decide) rfl
theorem str_at (s : ByteArray) {k : Nat} (h : k < s.size) : s.data.toList[k]'(by rw [size_list]; exact h) = s[k] := by
  rfl

set_option maxRecDepth 100000 in
set_option maxHeartbeats 16000000 in
theorem Diff_any (a b : ByteArray) (w : World) (ha : a.size ≤ 1000000000) (hb : b.size ≤ 1000000000) :
    Calls Try.prog 27 #[.string a, .string b] w fun e w' => ∃ v, e = .returned v ∧ OwnEds w' w.heap.size v (diffL a.data.toList b.data.toList) ∧ Below w.heap.size w w' := by
  by_cases hab : a = b
  · subst hab
    have hd : diffL a.data.toList a.data.toList = [] := by unfold diffL; simp
    rw [hd]
    clear hd
    have h1 : (a.toList == a.toList) = true := by simp
    go_enter Try.func27, Try.ntmps27
    go_wp2
    go_ret
    exact ⟨_, rfl, OwnEds.nil _ _, Below.refl _ _⟩
  · have hne : a.data.toList ≠ b.data.toList := by
      intro h
      apply hab
      ext1
      exact Array.toList_inj.1 h
    have hd : diffL a.data.toList b.data.toList = [⟨preL a.data.toList b.data.toList, (a.size : Int) - sufL a.data.toList b.data.toList, cutL b.data.toList (preL a.data.toList b.data.toList) (b.size - sufL a.data.toList b.data.toList)⟩] := by
      unfold diffL; rw [if_neg hne]; rfl
    rw [hd]
    have h1 : (a.toList == b.toList) = false := by rw [ByteArray.toList_eq, ByteArray.toList_eq]; simpa using hne
    have hsl := suf_le a.data.toList b.data.toList
    rw [size_list, size_list] at hsl
    clear hd hne hab
    have hQ0 : lcpL ((a.data.toList.drop (preL a.data.toList b.data.toList)).reverse) ((b.data.toList.drop (preL a.data.toList b.data.toList)).reverse) = sufL a.data.toList b.data.toList := rfl
    generalize hP : preL a.data.toList b.data.toList = P at *
    generalize hQ : sufL a.data.toList b.data.toList = Q at *
    have HP := Lib.hid hP
    have HQ := Lib.hid hQ0
    clear hP hQ hQ0
    obtain ⟨m, hm⟩ : ∃ m : Nat, min (a.size : Int) (b.size : Int) = (m : Int) := ⟨min a.size b.size, by omega⟩
    have hmm : m = a.size ∨ m = b.size := by omega
    have HMM := Lib.hid hmm
    clear hmm
    have hm1 : m ≤ a.size := by omega
    have hm2 : m ≤ b.size := by omega
    go_enter Try.func27, Try.ntmps27
    go_wp2_with fail
    go_loopw [6] (fun pv wr => ∃ p : Nat, p ≤ m ∧ pv = .int .i64 p ∧ Hid (lcpL (a.data.toList.drop p) (b.data.toList.drop p) + p = P) ∧ Below w.heap.size w wr) (fun pv _ => m - (intOf pv).toNat)
    case atStart => exact ⟨0, by omega, rfl, HP.out, Below.refl _ _⟩
    case round =>
      obtain ⟨p, hp, rfl, hR, hB⟩ := hrel
      have d4 : (0 : Int) ≤ (p : Int) := by omega
      have hcase : (∃ (h1 : p < a.size) (h2 : p < b.size), a[p] = b[p] ∧ p < m) ∨ (∃ (h1 : p < a.size) (h2 : p < b.size), a[p] ≠ b[p] ∧ p < m) ∨ p = m := by
        by_cases hlt : p < m
        · by_cases he : a[p]'(by omega) = b[p]'(by omega)
          · exact .inl ⟨by omega, by omega, he, hlt⟩
          · exact .inr (.inl ⟨by omega, by omega, he, hlt⟩)
        · exact .inr (.inr (by omega))
      rcases hcase with ⟨hpa, hpb, he, hlt⟩ | hcase
      · have d1 := byte_eq he
        have hs := lcp_eq (a := a.data.toList) (b := b.data.toList) (p := p) hpa hpb he
        have HS := Lib.hid (show lcpL (a.data.toList.drop (p + 1)) (b.data.toList.drop (p + 1)) + (p + 1) = P by have := hR.out; omega)
        clear hs hR he
        have d2 : decide (p < m) = true := by simpa using hlt
        have d3 : decide ((p : Int) < (m : Int)) = true := by simp; omega
        have d5 : (p : Int) < (a.size : Int) := by omega
        have d6 : (p : Int) < (b.size : Int) := by omega
        go_wp2_with fail
        refine wp_region_still_lit (by kernel_rfl) (by kernel_rfl) ?_
        repeat still_step
        refine wpStill_nil ?_
        change Exit.then _ _ _ _ wr.drew
        go_wp2_with fail
        go_roundw
        case rel => exact ⟨p + 1, by omega, by go_num, HS.out, Below.drew hB⟩
        case measure => simp [intOf]; omega
      · have hpp : p = P := by
          rcases hcase with ⟨hpa, hpb, he, hlt⟩ | rfl
          · have hs := lcp_ne (a := a.data.toList) (b := b.data.toList) (p := p) hpa hpb he
            have := hR.out
            omega
          · have hs := lcp_end (a := a.data.toList) (b := b.data.toList) (p := p) (by have := HMM.out; rw [size_list, size_list]; omega)
            have := hR.out
            omega
        have hfacts : (∃ (h1 : p < a.size) (h2 : p < b.size), ((a[p].toNat : Int) == (b[p].toNat : Int)) = false ∧ decide (p < m) = true ∧ decide ((p : Int) < (m : Int)) = true ∧ (p : Int) < (a.size : Int) ∧ (p : Int) < (b.size : Int)) ∨ (decide (p < m) = false ∧ decide ((p : Int) < (m : Int)) = false) := by
          rcases hcase with ⟨hpa, hpb, he, hlt⟩ | rfl
          · exact .inl ⟨hpa, hpb, byte_ne he, by simpa using hlt, by simp; omega, by omega, by omega⟩
          · exact .inr ⟨by simp, by simp⟩
        have HPP := Lib.hid hpp
        obtain ⟨mp, hmp⟩ : ∃ mp : Nat, (m : Int) - (p : Int) = (mp : Int) := ⟨m - p, by omega⟩
        have y3 : IntKind.i64.wrap (mp : Int) = (mp : Int) := IntWalk.i64_in _ (by omega)
        have hmpn : mp + p = m := by omega
        clear hpp hcase hR
        rcases hfacts with ⟨hpa, hpb, d1, d2, d3, d5, d6⟩ | ⟨d2, d3⟩
        all_goals
          obtain ⟨wo, rfl⟩ : ∃ wo : World, wo = wr := ⟨_, rfl⟩
          have hBo := hB
          clear hB
          go_wp2_with fail
          first
            | (have := d1
               refine wp_region_still_lit (by kernel_rfl) (by kernel_rfl) ?_
               repeat still_step
               refine wpStill_nil ?_
               change Exit.then _ _ _ _ wo.drew)
            | go_quiet (fail)
          go_wp2_with fail
          go_loopw [7] (fun qv wr => ∃ q : Nat, q ≤ mp ∧ qv = .int .i64 q ∧ Hid (lcpL (((a.data.toList.drop P).reverse).drop q) (((b.data.toList.drop P).reverse).drop q) + q = Q) ∧ Below w.heap.size w wr) (fun qv _ => mp - (intOf qv).toNat)
          case atStart => exact ⟨0, by omega, rfl, Lib.hid (by rw [List.drop_zero, List.drop_zero, Nat.add_zero]; exact HQ.out), by first | exact Below.drew hBo | exact hBo.trans (Below.drewN _)⟩
          case round =>
            obtain ⟨q, hq, rfl, hR, hB⟩ := hrel
            have e4 : (0 : Int) ≤ (q : Int) := by omega
            have hra : ((a.data.toList.drop P).reverse).length = a.size - P := by simp [size_list]
            have hrb : ((b.data.toList.drop P).reverse).length = b.size - P := by simp [size_list]
            have hcase : (∃ (i j : Nat) (h1 : i < a.size) (h2 : j < b.size), i + 1 + q = a.size ∧ j + 1 + q = b.size ∧ a[i] = b[j] ∧ q < mp) ∨ (∃ (i j : Nat) (h1 : i < a.size) (h2 : j < b.size), i + 1 + q = a.size ∧ j + 1 + q = b.size ∧ a[i] ≠ b[j] ∧ q < mp) ∨ q = mp := by
              by_cases hlt : q < mp
              · by_cases he : a[a.size - 1 - q]'(by omega) = b[b.size - 1 - q]'(by omega)
                · exact .inl ⟨_, _, by omega, by omega, by omega, by omega, he, hlt⟩
                · exact .inr (.inl ⟨_, _, by omega, by omega, by omega, by omega, he, hlt⟩)
              · exact .inr (.inr (by omega))
            have hPn := HPP.out
            rcases hcase with ⟨i, j, hi, hj, hi2, hj2, he, hlt⟩ | hcase
            · have hs := lcp_eq (a := (a.data.toList.drop P).reverse) (b := (b.data.toList.drop P).reverse) (p := q) (by omega) (by omega) (by
                rw [rev_at (by rw [size_list]; omega), rev_at (by rw [size_list]; omega)]
                have x1 : a.data.toList.length - 1 - q = i := by rw [size_list]; omega
                have x2 : b.data.toList.length - 1 - q = j := by rw [size_list]; omega
                simp only [x1, x2]
                exact he)
              have HS := Lib.hid (show lcpL (((a.data.toList.drop P).reverse).drop (q + 1)) (((b.data.toList.drop P).reverse).drop (q + 1)) + (q + 1) = Q by have := hR.out; omega)
              have e1 := byte_eq he
              clear hs hR he hra hrb hPn
              have e2 : decide (q < mp) = true := by simpa using hlt
              have e3 : decide ((q : Int) < (mp : Int)) = true := by simp; omega
              obtain ⟨a1, ha1⟩ : ∃ a1 : Nat, (a.size : Int) - 1 = (a1 : Int) := ⟨a.size - 1, by omega⟩
              obtain ⟨b1, hb1⟩ : ∃ b1 : Nat, (b.size : Int) - 1 = (b1 : Int) := ⟨b.size - 1, by omega⟩
              have x1 : (a1 : Int) - (q : Int) = (i : Int) := by omega
              have x2 : (b1 : Int) - (q : Int) = (j : Int) := by omega
              have y1 : IntKind.i64.wrap (a1 : Int) = (a1 : Int) := IntWalk.i64_in _ (by omega)
              have y2 : IntKind.i64.wrap (b1 : Int) = (b1 : Int) := IntWalk.i64_in _ (by omega)
              have y4 : IntKind.i64.wrap (i : Int) = (i : Int) := IntWalk.i64_in _ (by omega)
              have y5 : IntKind.i64.wrap (j : Int) = (j : Int) := IntWalk.i64_in _ (by omega)
              have e5 : (i : Int) < (a.size : Int) := by omega
              have e6 : (j : Int) < (b.size : Int) := by omega
              have e7 : (0 : Int) ≤ (i : Int) := by omega
              have e8 : (0 : Int) ≤ (j : Int) := by omega
              have hq1 : q + 1 ≤ mp := by omega
              have hmq : mp - (q + 1) < mp - q := by omega
              clear hi2 hj2
              go_wp2_with fail
              refine wp_region_still_lit (by kernel_rfl) (by kernel_rfl) ?_
              repeat still_step
              refine wpStill_nil ?_
              change Exit.then _ _ _ _ wr.drew
              go_wp2_with fail
              go_roundw
              case rel => exact ⟨q + 1, hq1, by go_num, HS.out, Below.drew hB⟩
              case measure => simp [intOf]; omega
            · have hqq : q = Q := by
                have hr := hR.out
                rcases hcase with ⟨i, j, hi, hj, hi2, hj2, he, hlt⟩ | rfl
                · have hs := lcp_ne (a := (a.data.toList.drop P).reverse) (b := (b.data.toList.drop P).reverse) (p := q) (by omega) (by omega) (by
                    rw [rev_at (by rw [size_list]; omega), rev_at (by rw [size_list]; omega)]
                    have x1 : a.data.toList.length - 1 - q = i := by rw [size_list]; omega
                    have x2 : b.data.toList.length - 1 - q = j := by rw [size_list]; omega
                    simp only [x1, x2]
                    exact he)
                  omega
                · have hs := lcp_end (a := (a.data.toList.drop P).reverse) (b := (b.data.toList.drop P).reverse) (p := q) (by have := HMM.out; omega)
                  omega
              have hfacts : (∃ (i j : Nat) (h1 : i < a.size) (h2 : j < b.size), i + 1 + q = a.size ∧ j + 1 + q = b.size ∧ ((a[i].toNat : Int) == (b[j].toNat : Int)) = false ∧ decide (q < mp) = true ∧ decide ((q : Int) < (mp : Int)) = true) ∨ (decide (q < mp) = false ∧ decide ((q : Int) < (mp : Int)) = false) := by
                rcases hcase with ⟨i, j, hi, hj, hi2, hj2, he, hlt⟩ | rfl
                · exact .inl ⟨i, j, hi, hj, hi2, hj2, byte_ne he, by simpa using hlt, by simp; omega⟩
                · exact .inr ⟨by simp, by simp⟩
              have hle2 := hPn ▸ hsl
              obtain ⟨a1, ha1⟩ : ∃ a1 : Nat, (a.size : Int) - 1 = (a1 : Int) ∨ a.size = 0 := ⟨a.size - 1, by omega⟩
              have hpq1 : p + q ≤ a.size ∧ p + q ≤ b.size := by omega
              have HQQ := Lib.hid hqq
              clear hcase hR hra hrb hPn hqq hle2 ha1
              obtain ⟨bq, hbq⟩ : ∃ bq : Nat, (b.size : Int) - (q : Int) = (bq : Int) := ⟨b.size - q, by omega⟩
              have z1 : (p : Int) ≤ (bq : Int) := by omega
              have z2 : (bq : Int) ≤ (b.size : Int) := by omega
              have z3 : bq + q = b.size := by omega
              have Z3 := Lib.hid z3
              clear z3
              rcases hfacts with ⟨i, j, hi, hj, hi2, hj2, e1, e2, e3⟩ | ⟨e2, e3⟩
              · obtain ⟨a1, ha1⟩ : ∃ a1 : Nat, (a.size : Int) - 1 = (a1 : Int) := ⟨a.size - 1, by omega⟩
                obtain ⟨b1, hb1⟩ : ∃ b1 : Nat, (b.size : Int) - 1 = (b1 : Int) := ⟨b.size - 1, by omega⟩
                have x1 : (a1 : Int) - (q : Int) = (i : Int) := by omega
                have x2 : (b1 : Int) - (q : Int) = (j : Int) := by omega
                have y1 : IntKind.i64.wrap (a1 : Int) = (a1 : Int) := IntWalk.i64_in _ (by omega)
                have y2 : IntKind.i64.wrap (b1 : Int) = (b1 : Int) := IntWalk.i64_in _ (by omega)
                have y4 : IntKind.i64.wrap (i : Int) = (i : Int) := IntWalk.i64_in _ (by omega)
                have y5 : IntKind.i64.wrap (j : Int) = (j : Int) := IntWalk.i64_in _ (by omega)
                have e5 : (i : Int) < (a.size : Int) := by omega
                have e6 : (j : Int) < (b.size : Int) := by omega
                have e7 : (0 : Int) ≤ (i : Int) := by omega
                have e8 : (0 : Int) ≤ (j : Int) := by omega
                clear hi2 hj2
                go_wp2_with fail
                refine wp_region_still_lit (by kernel_rfl) (by kernel_rfl) ?_
                repeat still_step
                refine wpStill_nil ?_
                change Exit.then _ _ _ _ wr.drew
                obtain ⟨wd, hwd⟩ : ∃ wd, wd = wr.drew := ⟨_, rfl⟩
                have hBd : Below w.heap.size w wd := by rw [hwd]; exact Below.drew hB
                rw [← hwd]
                clear hwd hB
                have hres := diff_own (w := wd) hBd.size (f := p) (t := a.size - q) (x := cutL b.data.toList p bq)
                rw [← ext_strB] at hres
                have hfin : b.size - q = bq := by have := Z3.out; omega
                have HRES := Lib.hid hres
                have HFIN := Lib.hid hfin
                clear hres hfin
                go_wp2_with fail
                go_ret
                exact ⟨_, rfl, by rw [← HPP.out, ← HQQ.out, HFIN.out]; exact HRES.out, hBd.alloc hBd.size _⟩
              · have hres := fun n => diff_own (w := wr.drewN n) ((hB.trans (Below.drewN n)).size) (f := p) (t := a.size - q) (x := cutL b.data.toList p bq)
                rw [← ext_strB] at hres
                have hfin : b.size - q = bq := by have := Z3.out; omega
                have HRES := Lib.hid hres
                have HFIN := Lib.hid hfin
                clear hres hfin
                go_wp2_with fail
                go_quiet (fail)
                go_wp2_with fail
                go_ret
                exact ⟨_, rfl, by rw [← HPP.out, ← HQQ.out, HFIN.out]; exact HRES.out _, (hB.trans (Below.drewN _)).alloc (hB.trans (Below.drewN _)).size _⟩
end Go.Proofs.Ytpncjgcdiomloaa
