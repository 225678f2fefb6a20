/-
  Where characters begin in a whole text: plain facts for edits at such places. No program's code in sight.
-/
import Derived.Test.YtmonpnikdheokaaPosP
namespace Go.Proofs.Ytmonpnikdheokaa
open Go Go.Proofs
open Go.RowKit
set_option linter.unusedVariables false
set_option linter.unusedSimpArgs false

theorem hiN_le (c : Nat) : hiN c ≤ 191 := by
  unfold hiN
  repeat' split
  all_goals omega
theorem chL_cont {l : List UInt8} {k : Nat} (h1 : 0 < k) (h2 : k < (chL l).1) : by8 l k < 192 := by
  have hhi := hiN_le (by8 l 0)
  unfold chL at h2
  split at h2
  · rename_i h
    have := bet_iff.1 h.2.2
    simp only at h2
    obtain rfl : k = 1 := by omega
    omega
  · split at h2
    · rename_i _ h
      have h3 := bet_iff.1 h.2.2.1
      have h4 := bet_iff.1 h.2.2.2
      simp only at h2
      rcases (by omega : k = 1 ∨ k = 2) with rfl | rfl <;> omega
    · split at h2
      · rename_i _ _ h
        have h3 := bet_iff.1 h.2.2.1
        have h4 := bet_iff.1 h.2.2.2.1
        have h5 := bet_iff.1 h.2.2.2.2
        simp only at h2
        rcases (by omega : k = 1 ∨ k = 2 ∨ k = 3) with rfl | rfl | rfl <;> omega
      · simp only at h2; omega
/-- Within the encoding of a character. -/
def contB (l : List UInt8) (k : Nat) : Bool := decide (k < l.length) && (decide (128 ≤ by8 l k) && decide (by8 l k < 192))
theorem contB_iff {l : List UInt8} {k : Nat} : contB l k = true ↔ k < l.length ∧ 128 ≤ by8 l k ∧ by8 l k < 192 := by unfold contB; simp
theorem border_iff {l : List UInt8} (hl : Whole l) {k p : Nat} (hk : k ≤ l.length) : p + k ∈ bordL l p ↔ contB l k = false := by
  by_cases h0 : l = []
  · subst h0
    simp only [List.length_nil, Nat.le_zero] at hk
    subst hk
    simp [bordL_nil, contB]
  · have hw := (whole_cons h0).1 hl
    have hle := chL_le h0
    have hp1 := chL_pos l
    rw [bordL_cons h0]
    by_cases hk0 : k = 0
    · subst hk0
      refine ⟨fun _ => ?_, fun _ => by simp⟩
      rw [Bool.eq_false_iff]
      intro hc
      have := contB_iff.1 hc
      rcases hw.1 with h | h
      · have := chL_first h; omega
      · omega
    · by_cases hkw : k < (chL l).1
      · have h1 := chL_high (by omega) hkw
        have h2 := chL_cont (by omega) hkw
        have hc : contB l k = true := contB_iff.2 ⟨by omega, h1, h2⟩
        rw [hc]
        refine ⟨fun h => ?_, fun h => by cases h⟩
        rcases List.mem_cons.1 h with h | h
        · omega
        · have := bord_ge h; omega
      · have ih := border_iff (l := l.drop (chL l).1) hw.2 (k := k - (chL l).1) (p := p + (chL l).1) (by rw [List.length_drop]; omega)
        rw [show p + (chL l).1 + (k - (chL l).1) = p + k by omega] at ih
        have hcc : contB (l.drop (chL l).1) (k - (chL l).1) = contB l k := by
          unfold contB
          rw [by8_drop, List.length_drop, show (chL l).1 + (k - (chL l).1) = k by omega]
          congr 1
          rw [Bool.eq_iff_iff]
          simp only [decide_eq_true_eq]
          omega
        rw [hcc] at ih
        rw [← ih, List.mem_cons]
        exact ⟨fun h => h.elim (fun e => by omega) id, .inr⟩
termination_by l.length
decreasing_by exact chL_drop_lt h0
/-- The last place up to k at which a character begins. -/
def bdL (l : List UInt8) : Nat → Nat
  | 0 => 0
  | k + 1 => if contB l (k + 1) then bdL l k else k + 1
theorem bdL_le (l : List UInt8) : ∀ k, bdL l k ≤ k
  | 0 => Nat.le_refl _
  | k + 1 => by
    unfold bdL
    have := bdL_le l k
    split <;> omega
theorem bdL_border {l : List UInt8} (hl : Whole l) : ∀ k, k ≤ l.length → bdL l k ∈ bordL l 0
  | 0, _ => bord_head l 0
  | k + 1, h => by
    unfold bdL
    split
    · exact bdL_border hl k (by omega)
    · rename_i hc
      have := (border_iff hl (p := 0) h).2 (by simpa using hc)
      simpa using this
theorem bdL_mono (l : List UInt8) {j : Nat} : ∀ {k : Nat}, j ≤ k → bdL l j ≤ bdL l k
  | 0, h => by obtain rfl : j = 0 := by omega
               exact Nat.le_refl _
  | k + 1, h => by
    by_cases hj : j = k + 1
    · subst hj; exact Nat.le_refl _
    · have ih := bdL_mono l (j := j) (k := k) (by omega)
      have hjl := bdL_le l j
      show bdL l j ≤ bdL l (k + 1)
      rw [bdL]
      split <;> omega
theorem bdL_fix {l : List UInt8} (hl : Whole l) {p : Nat} (hp : p ∈ bordL l 0) : bdL l p = p := by
  cases p with
  | zero => rfl
  | succ p =>
    have hb := bord_ge hp
    have := (border_iff hl (k := p + 1) (p := 0) (by omega)).1 (by simpa using hp)
    unfold bdL
    rw [this]
    rfl
theorem bdL_ge {l : List UInt8} (hl : Whole l) {p k : Nat} (hp : p ∈ bordL l 0) (h : p ≤ k) : p ≤ bdL l k := by
  have := bdL_mono l h
  rwa [bdL_fix hl hp] at this
theorem whole_take {a : List UInt8} (ha : Whole a) {x p : Nat} (h : x ∈ bordL a p) : Whole (a.take (x - p)) := by
  by_cases h0 : a = []
  · subst h0; simpa using whole_nil
  · have h' := (whole_cons h0).1 ha
    rw [bordL_cons h0] at h
    rcases List.mem_cons.1 h with rfl | h
    · rw [Nat.sub_self, List.take_zero]; exact whole_nil
    · have hge := bord_ge h
      have hp1 := chL_pos a
      have ih := whole_take h'.2 h
      have hne := take_ne (l := a) (k := x - p) h0 (by omega)
      rw [whole_cons hne, chL_take (by omega), by8_take (by omega), List.drop_take]
      refine ⟨h'.1, ?_⟩
      rw [show x - p - (chL a).1 = x - (p + (chL a).1) by omega]
      exact ih
termination_by a.length
decreasing_by exact chL_drop_lt h0
theorem at_zero (b : List UInt8) : atC b ((0 : Nat) : Int) = ((0, 0), 0) := by
  rw [atC_border (bord_head b 0)]
  have h : lineIx b 0 = 0 := by
    rw [lineIx_eq, List.countP_eq_zero]
    intro x hx
    have := linesFrom_gt hx
    simp; omega
  rw [h, List.take_zero, List.drop_nil, unitsL_nil]
/-- A position depends on what lies ahead of it alone. -/
theorem at_ahead {a b c : List UInt8} (ha : Whole a) : atC (a ++ b) (a.length : Int) = atC (a ++ c) (a.length : Int) ∧ (atC (a ++ b) (a.length : Int)).2 = 0 := by
  have h1 := at_app ha (b := b) (bord_head b 0)
  have h2 := at_app ha (b := c) (bord_head c 0)
  rw [at_zero, Nat.add_zero, if_pos rfl] at h1 h2
  rw [h1, h2]
  exact ⟨rfl, rfl⟩
end Go.Proofs.Ytmonpnikdheokaa
