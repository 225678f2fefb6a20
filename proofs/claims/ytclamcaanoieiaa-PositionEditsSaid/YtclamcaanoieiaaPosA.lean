/-
  Contracts of package position's Units and Lines, and of the reference's.
-/
import Derived.Test.YtclamcaanoieiaaRefA
import Derived.Test.YtclamcaanoieiaaPosP
namespace Go.Proofs.Ytclamcaanoieiaa
open Go Go.Proofs
open Go.RowKit
set_option linter.unusedVariables false
set_option linter.unusedSimpArgs false

theorem units1_any (r : Nat) (w : World) (h : r ≤ 2147483647) :
    Calls Try.prog 37 #[.int .i32 r] w fun e w' => e = .returned (.int .i64 ((if 65536 ≤ r then 2 else 1 : Nat) : Int)) ∧ w = w' := by
  by_cases h : 65536 ≤ r
  · have d : decide ((65536 : Int) ≤ (r : Int)) = true := decide_eq_true (by omega)
    rw [if_pos h]
    go_enter Try.func37, Try.ntmps37
    go_wp2_with fail
    go_ret
    exact ⟨rfl, rfl⟩
  · have d : decide ((65536 : Int) ≤ (r : Int)) = false := decide_eq_false (by omega)
    rw [if_neg h]
    go_enter Try.func37, Try.ntmps37
    go_wp2_with fail
    go_ret
    exact ⟨rfl, rfl⟩
/-- What a round of a range over a string knows. -/
theorem next_at (P : Program) (w : World) (s : ByteArray) (pos : Nat) (h : pos < s.size) :
    ∃ r : Nat, r ≤ 2147483647 ∧ (if 65536 ≤ r then 2 else 1) = (chL (s.data.toList.drop pos)).2 ∧ (r = 10 ↔ by8 (s.data.toList.drop pos) 0 = 10) ∧
      ∀ ty, (Instr.next (.pointer (some ⟨w.heap.size, 0, none⟩)) true ty).run P (w.iter s pos) = .ok (.tuple #[.bool true, .int .i64 pos, .int .i32 r]) (w.iter s (pos + (chL (s.data.toList.drop pos)).1)) := by
  obtain ⟨d1, d2, d3⟩ := dec_link s pos h
  exact ⟨(Utf8.decode s pos).1, decode_le s pos, d2, d3, fun ty => by rw [← d1]; exact run_next_any w s pos ty h⟩
theorem drop_ne {l : List UInt8} {p : Nat} (h : p < l.length) : l.drop p ≠ [] := by
  intro e
  have := congrArg List.length e
  simp at this
  omega
theorem below_iter (w : World) (s : ByteArray) (p : Nat) : Below w.heap.size w (w.iter s p) := (Below.refl _ w).alloc (Nat.le_refl _) _

theorem units_any (s : ByteArray) (w : World) (hs : s.size ≤ 1099511627776) :
    Calls Try.prog 14 #[.string s] w fun e w' => e = .returned (.int .i64 (unitsL s.data.toList)) ∧ Below w.heap.size w w' := by
  obtain ⟨l, hl⟩ : ∃ l, s.data.toList = l := ⟨_, rfl⟩
  have hsz : l.length = s.size := by rw [← hl]; rfl
  have hub := unitsL_le l
  rw [hl]
  go_enter Try.func14, Try.ntmps14
  go_wp2_with fail
  go_loopw [3] (fun n w' => ∃ pos acc : Nat, w' = w.iter s pos ∧ n = .int .i64 acc ∧ pos ≤ s.size ∧ Hid (acc + unitsL (l.drop pos) = unitsL l)) (fun _ w' => s.size - w'.iterPos w.heap.size)
  case atStart => exact ⟨0, 0, rfl, rfl, by omega, by unfold Hid; simp⟩
  case round =>
    obtain ⟨pos, acc, rfl, rfl, hp, hacc⟩ := hrel
    by_cases hlt : pos < s.size
    · obtain ⟨r, hr, hu, -, hnx⟩ := next_at Try.prog w s pos hlt
      rw [hl] at hu hnx
      have hne := drop_ne (l := l) (p := pos) (by omega)
      have hc1 := chL_pos (l.drop pos)
      have hc2 := chL_le hne
      have hc3 := chL_u2 (l.drop pos)
      have hdl : (l.drop pos).length = l.length - pos := List.length_drop
      have hun := unitsL_cons hne
      rw [List.drop_drop] at hun
      have hac := hacc.out
      obtain ⟨cw, cu, hcc⟩ : ∃ cw cu, chL (l.drop pos) = (cw, cu) := ⟨_, _, rfl⟩
      rw [hcc] at hu hnx hc1 hc2 hc3 hun
      simp only at hu hnx hc1 hc2 hc3 hun
      have hb : acc ≤ 1099511627776 := by omega
      have hnew : Hid (acc + cu + unitsL (l.drop (pos + cw)) = unitsL l) := by unfold Hid; omega
      clear hun hac hcc hacc hne
      go_wp2_with fail
      refine (units1_any r _ hr).mono ?_
      rintro e w1 ⟨rfl, rfl⟩
      rw [hu]
      go_wp2_with fail
      go_roundw
      case rel => exact ⟨pos + cw, acc + cu, rfl, by go_num, by omega, hnew⟩
      case measure => simp; omega
    · have hnx : ∀ ty, (Instr.next (.pointer (some ⟨w.heap.size, 0, none⟩)) true ty).run Try.prog (w.iter s pos) = _ := fun ty => run_next_end w s pos ty hlt
      have hend : acc = unitsL l := by
        have := hacc.out
        rw [List.drop_of_length_le (by omega), unitsL_nil] at this
        omega
      have HE := Lib.hid hend
      clear hend hacc
      go_wp2_with fail
      go_ret
      exact ⟨ret_int (by rw [HE.out]), below_iter _ _ _⟩

/-- Byte i of a string. -/
theorem get_by (s : ByteArray) {i : Nat} (h : i < s.size) : (s[i]'h).toNat = by8 s.data.toList i := by
  unfold by8
  rw [List.getD_eq_getElem?_getD, Array.getElem?_toList, Array.getElem?_eq_getElem h]
  rfl
def natV (n : Nat) : Value := .int .i64 n
theorem lines_step {l : List UInt8} {k : Nat} (h : k < l.length) : linesFrom (l.drop k) k = if by8 l k = 10 then (k + 1) :: linesFrom (l.drop (k + 1)) (k + 1) else linesFrom (l.drop (k + 1)) (k + 1) := by
  rw [List.drop_eq_getElem_cons h]
  have : l[k].toNat = by8 l k := by unfold by8; rw [List.getD_eq_getElem?_getD, List.getElem?_eq_getElem h]; rfl
  rw [linesFrom, this]
theorem linesL_len (l : List UInt8) : (linesL l).length ≤ l.length + 1 := by
  have : ∀ (l : List UInt8) (i : Nat), (linesFrom l i).length ≤ l.length := by
    intro l
    induction l with
    | nil => intro i; simp [linesFrom]
    | cons c cs ih => intro i; unfold linesFrom; have := ih (i + 1); split <;> simp <;> omega
  have := this l 0
  simp [linesL]
  omega

theorem lines_any (s : ByteArray) (w : World) (hs : s.size ≤ 1099511627776) :
    Calls Try.prog 17 #[.string s] w fun e w' => ∃ v, e = .returned v ∧ w'.ownsRow w.heap.size 3 1 v (linesL s.data.toList).length ((linesL s.data.toList).map natV) ∧ Below w.heap.size w w' := by
  obtain ⟨l, hl⟩ : ∃ l, s.data.toList = l := ⟨_, rfl⟩
  have hsz : l.length = s.size := by rw [← hl]; rfl
  have hby : ∀ i (h : i < s.size), (s[i]'h).toNat = by8 l i := by intro i h; rw [get_by s h, hl]
  have hll := linesL_len l
  rw [hl]
  have HBY := Lib.hid hby
  clear hby
  have hown : (w.alloc (.cells #[.int .i64 0] 3)).ownsRow w.heap.size 3 1 (.slice (some ⟨w.heap.size, 0, none⟩) 1 1) 1 [.int .i64 0] := World.ownsRow_lit w #[.int .i64 0] 1 (Nat.le_refl _) (by decide) rfl
  go_enter Try.func17, Try.ntmps17
  go_wp2_with fail
  go_loopw [3, 8] (fun v i wr => ∃ (k : Nat) (acc : List Nat), k ≤ l.length ∧ i = .int .i64 k ∧ acc.length ≤ k + 1 ∧ wr.ownsRow w.heap.size 3 1 v acc.length (acc.map natV) ∧ Below w.heap.size w wr ∧ Hid (acc ++ linesFrom (l.drop k) k = linesL l)) (fun _ i _ => l.length - (intOf i).toNat)
  case atStart => exact ⟨0, [0], by omega, rfl, by simp, hown, (Below.refl _ w).alloc (Nat.le_refl _) _, by unfold Hid linesL; simp⟩
  case round =>
    obtain ⟨k, acc, hk, rfl, hal, hr, hB, hE⟩ := hrel
    by_cases hkl : k < l.length
    · have hks : k < s.size := by omega
      have hst := lines_step hkl
      have hg := HBY.out k hks
      have hg8 := by8_lt l k
      by_cases hnl : by8 l k = 10
      · rw [if_pos hnl] at hst
        have hq : ((s[k].toNat : Int) == 10) = true := by rw [hg]; simp; omega
        have hE2 : Hid ((acc ++ [k + 1]) ++ linesFrom (l.drop (k + 1)) (k + 1) = linesL l) := by unfold Hid; rw [← hE.out, hst]; simp
        clear hst hE hg hnl
        go_wp2_with (at_builtin; refine wpList_append_src _ rfl _ _ 22 rfl elemI w.heap.size _ acc.length _ rfl (hr.alloc _) (some ⟨wr.heap.size, 0, none⟩) 1 1 [.int .i64 ((k : Int) + 1)] rfl (row_new (cs := [.int .i64 ((k : Int) + 1)]) (by simp) (by omega)) (by simp [Value.oneCell']) (by omega) (by omega) (by have := hB.size; simp; omega) ?_)
        intro v' w1 hown' hbel' hgrow
        clear hgrow
        go_wp2
        go_roundw
        case rel => exact ⟨k + 1, acc ++ [k + 1], by omega, by go_num, by simp; omega, by rw [List.length_append, List.map_append]; exact hown', (hB.alloc hB.size _).trans hbel', hE2⟩
        case measure => simp [intOf]; omega
      · rw [if_neg hnl] at hst
        have hq : ((s[k].toNat : Int) == 10) = false := by rw [hg]; simp; omega
        rw [hst] at hE
        clear hst hg hnl
        go_wp2
        go_roundw
        case rel => exact ⟨k + 1, acc, by omega, by go_num, by omega, hr, hB, hE⟩
        case measure => simp [intOf]; omega
    · have hall : acc = linesL l := by
        have := hE.out
        rw [List.drop_of_length_le (by omega)] at this
        simpa [linesFrom] using this
      have HA := Lib.hid hall
      clear hall hE
      go_wp2
      go_ret
      exact ⟨_, rfl, by rw [← HA.out]; exact hr, hB⟩
end Go.Proofs.Ytclamcaanoieiaa
