/-
  The examples of the chapter on positions hold.
-/
import Derived.Test.YtclamcaanoieiaaPosG
namespace Go.Proofs.Ytclamcaanoieiaa
open Go Go.Proofs
open Go.RowKit
set_option linter.unusedVariables false
set_option linter.unusedSimpArgs false

def l0 : List UInt8 := [97, 240, 159, 152, 128, 10, 226, 130, 172, 98]
theorem l0_chars : chL [97, 240, 159, 152, 128, 10, 226, 130, 172, 98] = (1, 1) ∧ chL [240, 159, 152, 128, 10, 226, 130, 172, 98] = (4, 2) ∧ chL [10, 226, 130, 172, 98] = (1, 1) ∧ chL [226, 130, 172, 98] = (3, 1) ∧ chL [98] = (1, 1) ∧ by8 [97, 240, 159, 152, 128, 10, 226, 130, 172, 98] 0 = 97 ∧ by8 [240, 159, 152, 128, 10, 226, 130, 172, 98] 0 = 240 ∧ by8 [10, 226, 130, 172, 98] 0 = 10 ∧ by8 [226, 130, 172, 98] 0 = 226 ∧ by8 [98] 0 = 98 := by decide
theorem l0_lines : linesL l0 = [0, 6] := by decide
theorem l0_at : atC l0 5 = ((0, 3), 0) ∧ atC l0 9 = ((1, 1), 0) ∧ atC l0 2 = ((0, 0), 1) := by
  obtain ⟨c0, c1, c2, c3, c4, b0, b1, b2, b3, b4⟩ := l0_chars
  refine ⟨?_, ?_, ?_⟩ <;> simp [atC, lineIx, l0_lines, atF_cons, atF_nil] <;> simp [l0, atF_cons, atF_nil, c0, c1, c2, c3, c4]
theorem l0_off : offC l0 1 2 = (10, 0) ∧ offC l0 0 2 = (0, 1) ∧ offC l0 0 4 = (0, 5) := by
  obtain ⟨c0, c1, c2, c3, c4, b0, b1, b2, b3, b4⟩ := l0_chars
  refine ⟨?_, ?_, ?_⟩ <;> simp [offC, l0_lines] <;> simp [l0, offF_cons, offF_nil, c0, c1, c2, c3, c4, b0, b1, b2, b3, b4]
theorem l0_units : unitsL l0 = 6 := by
  obtain ⟨c0, c1, c2, c3, c4, b0, b1, b2, b3, b4⟩ := l0_chars
  simp [l0, unitsL_cons, unitsL_nil, c0, c1, c2, c3, c4]
theorem at_eq (s : ByteArray) (off : Int) (w : World) (hs : s.size ≤ 1099511627776) (ho1 : -9223372036854775808 ≤ off) (ho2 : off ≤ 9223372036854775807) {p : Nat × Nat} {e0 : Nat} (h : atC s.data.toList off = (p, e0)) :
    Calls Try.prog 22 #[.string s, .int .i64 off] w fun e w' => e = .returned (.tuple #[posV p, .int .i64 e0]) ∧ Below w.heap.size w w' := by
  have := at_any s off w hs ho1 ho2
  rw [h] at this
  exact this
theorem offset_eq (s : ByteArray) (line unit : Int) (w : World) (hs : s.size ≤ 1099511627776) (hl1 : -9223372036854775808 ≤ line) (hl2 : line ≤ 9223372036854775807) (hu1 : -9223372036854775808 ≤ unit) (hu2 : unit ≤ 9223372036854775807) {o e0 : Nat} (h : offC s.data.toList line unit = (o, e0)) :
    Calls Try.prog 20 #[.string s, .agg #[.int .i64 line, .int .i64 unit]] w fun e w' => e = .returned (.tuple #[.int .i64 o, .int .i64 e0]) ∧ Below w.heap.size w w' := by
  have := offset_any s line unit w hs hl1 hl2 hu1 hu2
  rw [h] at this
  exact this
theorem units_eq (s : ByteArray) (w : World) (hs : s.size ≤ 1099511627776) {n : Nat} (h : unitsL s.data.toList = n) :
    Calls Try.prog 14 #[.string s] w fun e w' => e = .returned (.int .i64 n) ∧ Below w.heap.size w w' := by
  have := units_any s w hs
  rw [h] at this
  exact this

theorem pos_new {w W : World} {a b : Int} {t : TypeId} (h : W = w.alloc (.cells #[.int .i64 a, .int .i64 b] t)) :
    W.cell? ⟨w.heap.size, 0, none⟩ = some (.int .i64 a) ∧ W.cell? ⟨w.heap.size, 1, none⟩ = some (.int .i64 b) ∧ Below w.heap.size w W := by
  obtain ⟨h1, h2, -⟩ := pos_facts (W := W) (b := w.heap.size) (t := t) (x := .int .i64 a) (y := .int .i64 b) (by rw [h]; exact heap_alloc_new w _)
  exact ⟨h1, h2, by rw [h]; exact (Below.refl _ w).alloc (Nat.le_refl _) _⟩
set_option maxRecDepth 100000 in
set_option maxHeartbeats 2000000 in
theorem lives_any (w : World) : Calls Try.prog 19 #[] w fun e w' => e = .returned (.bool true) ∧ Below w.heap.size w w' := by
  go_enter Try.func19, Try.ntmps19
  go_wp2_with fail
  refine (at_eq ⟨#[97, 240, 159, 152, 128, 10, 226, 130, 172, 98]⟩ 5 w (by decide) (by decide) (by decide) l0_at.1).mono ?_
  rintro e w1 ⟨rfl, hb1⟩
  unfold posV
  go_wp2_with fail
  obtain ⟨v1, hv1⟩ : ∃ x, x = w1.alloc (.cells #[.int .i64 0, .int .i64 3] 32) := ⟨_, rfl⟩
  obtain ⟨p0, p1, pb⟩ := pos_new hv1
  have hB1 := Below.step hb1 pb
  rw [← hv1]
  clear hv1 hb1 pb
  refine (at_eq ⟨#[97, 240, 159, 152, 128, 10, 226, 130, 172, 98]⟩ 9 v1 (by decide) (by decide) (by decide) l0_at.2.1).mono ?_
  rintro e w2 ⟨rfl, hb2⟩
  unfold posV
  go_wp2_with fail
  obtain ⟨v2, hv2⟩ : ∃ x, x = w2.alloc (.cells #[.int .i64 1, .int .i64 1] 32) := ⟨_, rfl⟩
  obtain ⟨q0, q1, qb⟩ := pos_new hv2
  have hB2 := Below.step (Below.step hB1 hb2) qb
  have p0 := Below.kept qb (Nat.le_refl _) (Below.kept hb2 (Nat.le_refl _) p0)
  have p1 := Below.kept qb (Nat.le_refl _) (Below.kept hb2 (Nat.le_refl _) p1)
  rw [← hv2]
  clear hv2 hb2 qb hB1
  refine (at_eq ⟨#[97, 240, 159, 152, 128, 10, 226, 130, 172, 98]⟩ 2 v2 (by decide) (by decide) (by decide) l0_at.2.2).mono ?_
  rintro e w3 ⟨rfl, hb3⟩
  unfold posV
  go_wp2_with fail
  obtain ⟨v3, hv3⟩ : ∃ x, x = w3.alloc (.cells #[.int .i64 0, .int .i64 0] 32) := ⟨_, rfl⟩
  obtain ⟨-, -, qb⟩ := pos_new hv3
  have hB3 := Below.step (Below.step hB2 hb3) qb
  have p0 := Below.kept qb (Nat.le_refl _) (Below.kept hb3 (Nat.le_refl _) p0)
  have p1 := Below.kept qb (Nat.le_refl _) (Below.kept hb3 (Nat.le_refl _) p1)
  have q0 := Below.kept qb (Nat.le_refl _) (Below.kept hb3 (Nat.le_refl _) q0)
  have q1 := Below.kept qb (Nat.le_refl _) (Below.kept hb3 (Nat.le_refl _) q1)
  rw [← hv3]
  clear hv3 hb3 qb hB2
  refine (offset_eq ⟨#[97, 240, 159, 152, 128, 10, 226, 130, 172, 98]⟩ 1 2 v3 (by decide) (by decide) (by decide) (by decide) (by decide) l0_off.1).mono ?_
  rintro e w4 ⟨rfl, hb4⟩
  go_wp2_with fail
  refine (offset_eq ⟨#[97, 240, 159, 152, 128, 10, 226, 130, 172, 98]⟩ 0 2 w4 (by decide) (by decide) (by decide) (by decide) (by decide) l0_off.2.1).mono ?_
  rintro e w5 ⟨rfl, hb5⟩
  go_wp2_with fail
  refine (offset_eq ⟨#[97, 240, 159, 152, 128, 10, 226, 130, 172, 98]⟩ 0 4 w5 (by decide) (by decide) (by decide) (by decide) (by decide) l0_off.2.2).mono ?_
  rintro e w6 ⟨rfl, hb6⟩
  go_wp2_with fail
  refine (units_eq ⟨#[97, 240, 159, 152, 128, 10, 226, 130, 172, 98]⟩ w6 (by decide) l0_units).mono ?_
  rintro e w7 ⟨rfl, hb7⟩
  have hb37 : Below v3.heap.size v3 w7 := Below.step (Below.step (Below.step hb4 hb5) hb6) hb7
  have p0 := Below.kept hb37 (Nat.le_refl _) p0
  have p1 := Below.kept hb37 (Nat.le_refl _) p1
  have q0 := Below.kept hb37 (Nat.le_refl _) q0
  have q1 := Below.kept hb37 (Nat.le_refl _) q1
  have hB := Below.step hB3 hb37
  clear hb4 hb5 hb6 hb7 hb37 hB3
  go_wp2_with fail
  go_ret
  exact ⟨rfl, hB⟩
end Go.Proofs.Ytclamcaanoieiaa
