/-
  Contracts of the reference's Units, Lines, Borders, Text; of Has.
-/
import Derived.Test.YtclamcaanoieiaaPosB
namespace Go.Proofs.Ytclamcaanoieiaa
open Go Go.Proofs
open Go.RowKit
set_option linter.unusedVariables false
set_option linter.unusedSimpArgs false

theorem runits_any (s : ByteArray) (w : World) (hs : s.size ≤ 1099511627776) :
    Calls Try.prog 15 #[.string s] w fun e w' => e = .returned (.int .i64 (unitsL s.data.toList)) ∧ w = w' := by
  obtain ⟨l, hl⟩ : ∃ l, s.data.toList = l := ⟨_, rfl⟩
  have hsz : l.length = s.size := by rw [← hl]; rfl
  have hub := unitsL_le l
  rw [hl]
  go_enter Try.func15, Try.ntmps15
  go_wp2_with fail
  go_loop [3, 4] (fun n i => ∃ pos acc : Nat, i = .int .i64 pos ∧ n = .int .i64 acc ∧ pos ≤ s.size ∧ Hid (acc + unitsL (l.drop pos) = unitsL l)) (fun _ i => s.size - (intOf i).toNat)
  case atStart => exact ⟨0, 0, rfl, rfl, by omega, by unfold Hid; simp⟩
  case round =>
    obtain ⟨pos, acc, rfl, rfl, hp, hacc⟩ := hrel
    by_cases hlt : pos < s.size
    · have d1 : decide ((pos : Int) < (s.size : Int)) = true := decide_eq_true (by omega)
      have d1' : decide (pos < s.size) = true := decide_eq_true hlt
      have hne := drop_ne (l := l) (p := pos) (by omega)
      have hc1 := chL_pos (l.drop pos)
      have hc2 := chL_le hne
      have hc3 := chL_u2 (l.drop pos)
      have hdl : (l.drop pos).length = l.length - pos := List.length_drop
      have hun := unitsL_cons hne
      rw [List.drop_drop] at hun
      have hac := hacc.out
      have hch := char_any s pos w hs hlt
      rw [hl] at hch
      obtain ⟨cw, cu, hcc⟩ : ∃ cw cu, chL (l.drop pos) = (cw, cu) := ⟨_, _, rfl⟩
      rw [hcc] at hch hc1 hc2 hc3 hun
      simp only at hch hc1 hc2 hc3 hun
      have hb : acc ≤ 1099511627776 := by omega
      have hnew : Hid (acc + cu + unitsL (l.drop (pos + cw)) = unitsL l) := by unfold Hid; omega
      clear hun hac hcc hacc hne
      go_wp2_with fail
      refine hch.mono ?_
      rintro e w1 ⟨rfl, rfl⟩
      go_wp2_with fail
      go_round
      case rel => exact ⟨pos + cw, acc + cu, by go_num, by go_num, by omega, hnew⟩
      case measure => simp [intOf]; omega
    · have d1 : decide ((pos : Int) < (s.size : Int)) = false := decide_eq_false (by omega)
      have d1' : decide (pos < s.size) = false := decide_eq_false hlt
      have hend : acc = unitsL l := by
        have := hacc.out
        rw [List.drop_of_length_le (by omega), unitsL_nil] at this
        omega
      have HE := Lib.hid hend
      clear hend hacc
      go_wp2_with fail
      go_ret
      exact ⟨ret_int (by rw [HE.out]), rfl⟩

theorem rlines_any (s : ByteArray) (w : World) (hs : s.size ≤ 1099511627776) :
    Calls Try.prog 18 #[.string s] w fun e w' => ∃ v, e = .returned v ∧ w'.ownsRow w.heap.size 3 1 v (linesL s.data.toList).length ((linesL s.data.toList).map natV) ∧ Below w.heap.size w w' := by
  obtain ⟨l, hl⟩ : ∃ l, s.data.toList = l := ⟨_, rfl⟩
  have hsz : l.length = s.size := by rw [← hl]; rfl
  have hby : ∀ i (h : i < s.size), (s[i]'h).toNat = by8 l i := by intro i h; rw [get_by s h, hl]
  have hll := linesL_len l
  rw [hl]
  have HBY := Lib.hid hby
  clear hby
  have hown : (w.alloc (.cells #[.int .i64 0] 3)).ownsRow w.heap.size 3 1 (.slice (some ⟨w.heap.size, 0, none⟩) 1 1) 1 [.int .i64 0] := World.ownsRow_lit w #[.int .i64 0] 1 (Nat.le_refl _) (by decide) rfl
  go_enter Try.func18, Try.ntmps18
  go_wp2_with fail
  go_loopw [3, 4] (fun v i wr => ∃ (k : Nat) (acc : List Nat), k ≤ l.length ∧ i = .int .i64 k ∧ acc.length ≤ k + 1 ∧ wr.ownsRow w.heap.size 3 1 v acc.length (acc.map natV) ∧ Below w.heap.size w wr ∧ Hid (acc ++ linesFrom (l.drop k) k = linesL l)) (fun _ i _ => l.length - (intOf i).toNat)
  case atStart => exact ⟨0, [0], by omega, rfl, by simp, hown, (Below.refl _ w).alloc (Nat.le_refl _) _, by unfold Hid linesL; simp⟩
  case round =>
    obtain ⟨k, acc, hk, rfl, hal, hr, hB, hE⟩ := hrel
    by_cases hkl : k < l.length
    · have hks : k < s.size := by omega
      have hst := lines_step hkl
      have hg := HBY.out k hks
      have hg8 := by8_lt l k
      by_cases hnl : by8 l k = 10
      · rw [if_pos hnl] at hst
        have hq : ((s[k].toNat : Int) == 10) = true := by rw [hg]; simp; omega
        have hE2 : Hid ((acc ++ [k + 1]) ++ linesFrom (l.drop (k + 1)) (k + 1) = linesL l) := by unfold Hid; rw [← hE.out, hst]; simp
        clear hst hE hg hnl
        go_wp2_with (at_builtin; refine wpList_append_src _ rfl _ _ 22 rfl elemI w.heap.size _ acc.length _ rfl (hr.alloc _) (some ⟨wr.heap.size, 0, none⟩) 1 1 [.int .i64 ((k : Int) + 1)] rfl (row_new (cs := [.int .i64 ((k : Int) + 1)]) (by simp) (by omega)) (by simp [Value.oneCell']) (by omega) (by omega) (by have := hB.size; simp; omega) ?_)
        intro v' w1 hown' hbel' hgrow
        clear hgrow
        go_wp2
        go_roundw
        case rel => exact ⟨k + 1, acc ++ [k + 1], by omega, by go_num, by simp; omega, by rw [List.length_append, List.map_append]; exact hown', (hB.alloc hB.size _).trans hbel', hE2⟩
        case measure => simp [intOf]; omega
      · rw [if_neg hnl] at hst
        have hq : ((s[k].toNat : Int) == 10) = false := by rw [hg]; simp; omega
        rw [hst] at hE
        clear hst hg hnl
        go_wp2
        go_roundw
        case rel => exact ⟨k + 1, acc, by omega, by go_num, by omega, hr, hB, hE⟩
        case measure => simp [intOf]; omega
    · have hall : acc = linesL l := by
        have := hE.out
        rw [List.drop_of_length_le (by omega)] at this
        simpa [linesFrom] using this
      have HA := Lib.hid hall
      clear hall hE
      go_wp2
      go_ret
      exact ⟨_, rfl, by rw [← HA.out]; exact hr, hB⟩

theorem rborders_any (s : ByteArray) (w : World) (hs : s.size ≤ 1099511627776) :
    Calls Try.prog 25 #[.string s] w fun e w' => ∃ v, e = .returned v ∧ w'.ownsRow w.heap.size 3 1 v (bordL s.data.toList 0).length ((bordL s.data.toList 0).map natV) ∧ Below w.heap.size w w' := by
  obtain ⟨l, hl⟩ : ∃ l, s.data.toList = l := ⟨_, rfl⟩
  have hsz : l.length = s.size := by rw [← hl]; rfl
  rw [hl]
  go_enter Try.func25, Try.ntmps25
  go_wp2_with fail
  go_loopw [3, 4] (fun v i wr => ∃ (k : Nat) (acc : List Nat), k ≤ l.length ∧ i = .int .i64 k ∧ acc.length ≤ k ∧ wr.ownsRow w.heap.size 3 1 v acc.length (acc.map natV) ∧ Below w.heap.size w wr ∧ Hid (acc ++ bordL (l.drop k) k = bordL l 0)) (fun _ i _ => l.length - (intOf i).toNat)
  case atStart => exact ⟨0, [], by omega, rfl, by simp, World.ownsRow_nil _ _ _ _, Below.refl _ w, by unfold Hid; simp⟩
  case round =>
    obtain ⟨k, acc, hk, rfl, hal, hr, hB, hE⟩ := hrel
    by_cases hkl : k < l.length
    · have hks : k < s.size := by omega
      have d1 : decide ((k : Int) < (s.size : Int)) = true := decide_eq_true (by omega)
      have d1' : decide (k < s.size) = true := decide_eq_true hks
      have hne := drop_ne (l := l) (p := k) hkl
      have hst := bordL_cons hne k
      have hc1 := chL_pos (l.drop k)
      have hc2 := chL_le hne
      have hdl : (l.drop k).length = l.length - k := List.length_drop
      have hch := fun w => char_any s k w hs hks
      rw [List.drop_drop] at hst
      rw [hl] at hch
      obtain ⟨cw, cu, hcc⟩ : ∃ cw cu, chL (l.drop k) = (cw, cu) := ⟨_, _, rfl⟩
      rw [hcc] at hst hc1 hc2
      simp only [hcc] at hst hc1 hc2 hch
      have hE2 : Hid ((acc ++ [k]) ++ bordL (l.drop (k + cw)) (k + cw) = bordL l 0) := by unfold Hid; rw [← hE.out, hst]; simp
      have HCH := Lib.hid hch
      clear hst hE hcc hne hch
      go_wp2_with (at_builtin; refine wpList_append_src _ rfl _ _ 22 rfl elemI w.heap.size _ acc.length _ rfl (hr.alloc _) (some ⟨wr.heap.size, 0, none⟩) 1 1 [.int .i64 (k : Int)] rfl (row_new (cs := [.int .i64 (k : Int)]) (by simp) (by omega)) (by simp [Value.oneCell']) (by omega) (by omega) (by have := hB.size; simp; omega) ?_)
      intro v' w1 hown' hbel' hgrow
      clear hgrow
      go_wp2_with fail
      refine (HCH.out w1).mono ?_
      rintro e w2 ⟨rfl, rfl⟩
      go_wp2_with fail
      go_roundw
      case rel => exact ⟨k + cw, acc ++ [k], by omega, by go_num, by simp; omega, by rw [List.length_append, List.map_append]; exact hown', (hB.alloc hB.size _).trans hbel', hE2⟩
      case measure => simp [intOf]; omega
    · have d1 : decide ((k : Int) < (s.size : Int)) = false := decide_eq_false (by omega)
      have d1' : decide (k < s.size) = false := decide_eq_false (by omega)
      have hall : acc ++ [s.size] = bordL l 0 := by
        have := hE.out
        rw [List.drop_of_length_le (by omega), bordL_nil] at this
        rw [← this, show k = s.size by omega]
      have HA := Lib.hid hall
      clear hall hE
      go_wp2_with (at_builtin; refine wpList_append_src _ rfl _ _ 22 rfl elemI w.heap.size _ acc.length _ rfl (hr.alloc _) (some ⟨wr.heap.size, 0, none⟩) 1 1 [.int .i64 (s.size : Int)] rfl (row_new (cs := [.int .i64 (s.size : Int)]) (by simp) (by omega)) (by simp [Value.oneCell']) (by omega) (by omega) (by have := hB.size; simp; omega) ?_)
      intro v' w1 hown' hbel' hgrow
      clear hgrow
      go_wp2
      go_ret
      exact ⟨_, rfl, by rw [← HA.out, List.length_append, List.map_append]; exact hown', (hB.alloc hB.size _).trans hbel'⟩

theorem has_any (a : Option Addr) (c : Nat) (xs : List Int) (n : Int) (w : World) (hx : SliceAt w a c (xs.map intV)) :
    Calls Try.prog 40 #[.slice a xs.length c, .int .i64 n] w fun e w' => e = .returned (.bool (decide (n ∈ xs))) ∧ w = w' := by
  have hxl := hx.len
  simp only [List.length_map] at hxl
  go_enter Try.func40, Try.ntmps40
  go_wp2_with fail
  go_loop [5] (fun i => ∃ k : Nat, k ≤ xs.length ∧ i = .int .i64 k ∧ Hid (n ∉ xs.take k)) (fun i => xs.length - (intOf i).toNat)
  case atStart => exact ⟨0, by omega, rfl, by unfold Hid; simp⟩
  case round =>
    obtain ⟨k, hk, rfl, hpre⟩ := hrel
    by_cases hkn : k < xs.length
    · obtain ⟨b, off, rfl⟩ := hx.addr (by simp; omega)
      have f1 := hx.intV hkn
      by_cases heq : xs[k] = n
      · have hne : (xs[k] == n) = true := by simp [heq]
        have hfin : decide (n ∈ xs) = true := by
          simp only [decide_eq_true_eq]; rw [← heq]; exact List.getElem_mem _
        have HF := Lib.hid hfin
        clear hfin heq
        go_wp2_with fail
        go_ret
        exact ⟨ret_bool HF.out.symm, rfl⟩
      · have hne : (xs[k] == n) = false := by simp [heq]
        have hpre2 : Hid (n ∉ xs.take (k + 1)) := by
          unfold Hid
          rw [List.take_succ_eq_append_getElem hkn, List.mem_append]
          rintro (h | h)
          · exact hpre.out h
          · simp at h; exact heq h.symm
        clear heq
        go_wp2_with fail
        go_round
        case rel => exact ⟨k + 1, by omega, by go_num, hpre2⟩
        case measure => simp [intOf]; omega
    · have hfin : decide (n ∈ xs) = false := by
        simp only [decide_eq_false_iff_not]
        have h := hpre.out
        rwa [List.take_of_length_le (by omega)] at h
      have HF := Lib.hid hfin
      clear hfin
      go_wp2_with fail
      go_ret
      exact ⟨ret_bool HF.out.symm, rfl⟩

def strV (l : List UInt8) : Value := .string ⟨l.toArray⟩
theorem parts_at (m : Nat) (h : m < 15) : (partsL.map strV)[m]? = some (strV (partsL.getD m [])) := by
  have hl : m < partsL.length := h
  rw [List.getElem?_map, List.getElem?_eq_getElem hl, List.getD_eq_getElem?_getD, List.getElem?_eq_getElem hl]
  rfl
theorem around_part (n : Int) : aroundI n 15 = (partAt n : Int) := by
  unfold aroundI partAt
  split <;> omega
theorem text_any (a : Option Addr) (c : Nat) (xs : List Int) (w : World) (hx : SliceAt w a c (xs.map intV)) (hb : ∀ n ∈ xs, -9223372036854775808 ≤ n ∧ n ≤ 9223372036854775807) :
    Calls Try.prog 13 #[.slice a xs.length c] w fun e w' => e = .returned (strV (textL xs)) ∧ Below w.heap.size w w' := by
  have hxl := hx.len
  simp only [List.length_map] at hxl
  obtain ⟨w1, hw1⟩ : ∃ w1, w1 = w.alloc (.cells #[.string ⟨#[97]⟩, .string ⟨#[98]⟩, .string ⟨#[32]⟩, .string ⟨#[10]⟩, .string ⟨#[10]⟩, .string ⟨#[195, 169]⟩, .string ⟨#[195, 159]⟩, .string ⟨#[226, 130, 172]⟩, .string ⟨#[232, 170, 158]⟩, .string ⟨#[240, 159, 152, 128]⟩, .string ⟨#[240, 157, 132, 158]⟩, .string ⟨#[120, 49]⟩, .string ⟨#[13, 10]⟩, .string ⟨#[40]⟩, .string ⟨#[34]⟩] 9) := ⟨_, rfl⟩
  have hcell : ∀ m, m < 15 → w1.cell? ⟨w.heap.size, m, none⟩ = some (strV (partsL.getD m [])) := by
    intro m hm
    rw [hw1, cell_of_row _ w.heap.size m _ _ (0, 0) (heap_alloc_new w _)]
    show ((partsL.map strV).toArray)[m]? = _
    rw [List.getElem?_toArray]
    exact parts_at m hm
  have hB : Below w.heap.size w w1 := by rw [hw1]; exact (Below.refl _ w).alloc (Nat.le_refl _) _
  have hx1 := hx.below hB
  have HW := Lib.hid hw1
  have HC := Lib.hid hcell
  have HB := Lib.hid hb
  clear hw1 hcell hb
  go_enter Try.func13, Try.ntmps13
  go_wp2_with fail
  rw [← HW.out]
  go_loop [4, 5] (fun sv i => ∃ (k : Nat) (t : ByteArray), k ≤ xs.length ∧ k ≤ 24 ∧ i = .int .i64 k ∧ sv = .string t ∧ t.size ≤ 4 * k ∧ Hid (t.data.toList = (xs.take k).flatMap fun n => partsL.getD (partAt n) [])) (fun _ i => xs.length - (intOf i).toNat)
  case atStart => exact ⟨0, ⟨#[]⟩, by omega, by omega, rfl, rfl, by decide, by unfold Hid; simp⟩
  case round =>
    obtain ⟨k, t, hk, hk24, rfl, rfl, htl, hT⟩ := hrel
    by_cases hkn : k < xs.length
    · by_cases h24 : k < 24
      · obtain ⟨b, off, rfl⟩ := hx.addr (by simp; omega)
        have f1 := hx1.intV hkn
        have hbk := HB.out xs[k] (List.getElem_mem _)
        have hpl := partAt_lt xs[k]
        have har := around_any xs[k] 15 w1 (by omega) (by omega) hbk.1 hbk.2
        rw [around_part] at har
        have hcl := HC.out (partAt xs[k]) hpl
        have hpm := (parts_whole _ (part_mem xs[k])).2
        have htk : xs.take (k + 1) = xs.take k ++ [xs[k]] := List.take_succ_eq_append_getElem hkn
        obtain ⟨q, hq⟩ : ∃ q, partsL.getD (partAt xs[k]) [] = q := ⟨_, rfl⟩
        have hT2 : Hid ((xs.take (k + 1)).flatMap (fun n => partsL.getD (partAt n) []) = t.data.toList ++ q) := by
          unfold Hid; rw [htk, List.flatMap_append, hT.out, List.flatMap_singleton, hq]
        rw [hq] at hcl hpm
        unfold strV at hcl
        generalize xs[k] = n at *
        generalize partAt n = m at *
        have HAR := Lib.hid har
        have hqs : (ByteArray.mk q.toArray).size = q.length := by show q.toArray.size = _; simp
        have hs2 : (t ++ ⟨q.toArray⟩).size ≤ 4 * (k + 1) := by rw [ByteArray.size_append]; omega
        have hd2 : Hid ((t ++ ⟨q.toArray⟩).data.toList = (xs.take (k + 1)).flatMap fun n => partsL.getD (partAt n) []) := by unfold Hid; rw [hT2.out]; simp [ByteArray.data_append]
        clear har htk hq hT
        go_wp2_with fail
        refine HAR.out.mono ?_
        rintro e w2 ⟨rfl, rfl⟩
        go_wp2_with fail
        go_round
        case rel => exact ⟨k + 1, t ++ ⟨q.toArray⟩, by omega, by omega, by go_num, rfl, hs2, hd2⟩
        case measure => simp [intOf]; omega
      · obtain rfl : k = 24 := by omega
        have hfin : t = ⟨(textL xs).toArray⟩ := by
          have := hT.out
          ext1
          unfold textL
          rw [← this]
        have HF := Lib.hid hfin
        clear hT hfin
        go_wp2_with fail
        go_ret
        exact ⟨by rw [HF.out]; rfl, hB⟩
    · have hfin : t = ⟨(textL xs).toArray⟩ := by
        have := hT.out
        rw [List.take_of_length_le (by omega)] at this
        ext1
        unfold textL
        rw [List.take_of_length_le (by omega), ← this]
      have d1 : decide ((k : Int) < (xs.length : Int)) = false := decide_eq_false (by omega)
      have d1' : decide (k < xs.length) = false := decide_eq_false hkn
      have HF := Lib.hid hfin
      clear hT hfin
      go_wp2_with fail
      go_ret
      exact ⟨by rw [HF.out]; rfl, hB⟩
end Go.Proofs.Ytclamcaanoieiaa
