/-
  Texts whose characters are complete; two texts that are joined; the generated texts. No program in sight.
-/
import Derived.Test.YtmonpnikdheokaaPosN
namespace Go.Proofs.Ytmonpnikdheokaa
open Go Go.Proofs
set_option linter.unusedVariables false
set_option linter.unusedSimpArgs false

/-- Whatever follows, no character changes. -/
def Whole (l : List UInt8) : Prop := if h : l = [] then True else (1 < (chL l).1 ∨ by8 l 0 < 128) ∧ Whole (l.drop (chL l).1)
termination_by l.length
decreasing_by exact chL_drop_lt h
theorem whole_nil : Whole [] := by rw [Whole]; simp
theorem whole_cons {l : List UInt8} (h : l ≠ []) : Whole l ↔ (1 < (chL l).1 ∨ by8 l 0 < 128) ∧ Whole (l.drop (chL l).1) := by rw [Whole, dif_neg h]
theorem whole_app {a b : List UInt8} (ha : Whole a) (hb : Whole b) : Whole (a ++ b) := by
  by_cases h0 : a = []
  · subst h0; exact hb
  · have h := (whole_cons h0).1 ha
    have hne : a ++ b ≠ [] := by simp [h0]
    have hc := chL_app (r := b) h0 h.1
    rw [whole_cons hne, hc, by8_appL (len_pos h0), List.drop_append_of_le_length (chL_le h0)]
    exact ⟨h.1, whole_app h.2 hb⟩
termination_by a.length
decreasing_by exact chL_drop_lt h0
theorem units_app {a : List UInt8} (ha : Whole a) (b : List UInt8) : unitsL (a ++ b) = unitsL a + unitsL b := by
  by_cases h0 : a = []
  · subst h0; simp [unitsL_nil]
  · have h := (whole_cons h0).1 ha
    have hne : a ++ b ≠ [] := by simp [h0]
    have hc := chL_app (r := b) h0 h.1
    rw [unitsL_cons hne, hc, List.drop_append_of_le_length (chL_le h0), units_app h.2 b, unitsL_cons h0, Nat.add_assoc]
termination_by a.length
decreasing_by exact chL_drop_lt h0
theorem bord_app {a : List UInt8} (ha : Whole a) (b : List UInt8) (p : Nat) {x : Nat} (hx : p + a.length ≤ x) : x ∈ bordL (a ++ b) p ↔ x ∈ bordL b (p + a.length) := by
  by_cases h0 : a = []
  · subst h0; simp
  · have h := (whole_cons h0).1 ha
    have hne : a ++ b ≠ [] := by simp [h0]
    have hc := chL_app (r := b) h0 h.1
    have hle := chL_le h0
    have hp := len_pos h0
    have hdl : (a.drop (chL a).1).length = a.length - (chL a).1 := List.length_drop
    rw [bordL_cons hne, hc, List.drop_append_of_le_length hle, List.mem_cons, bord_app h.2 b _ (by omega)]
    rw [show p + (chL a).1 + (a.drop (chL a).1).length = p + a.length by omega]
    exact ⟨fun h => h.elim (fun e => by omega) id, .inr⟩
termination_by a.length
decreasing_by exact chL_drop_lt h0
theorem whole_drop {a : List UInt8} (ha : Whole a) {x p : Nat} (h : x ∈ bordL a p) : Whole (a.drop (x - p)) := by
  by_cases h0 : a = []
  · subst h0; simpa using whole_nil
  · have h' := (whole_cons h0).1 ha
    rw [bordL_cons h0] at h
    rcases List.mem_cons.1 h with rfl | h
    · simpa using ha
    · have hge := bord_ge h
      have := whole_drop h'.2 h
      rw [List.drop_drop, show (chL a).1 + (x - (p + (chL a).1)) = x - p by omega] at this
      exact this
termination_by a.length
decreasing_by exact chL_drop_lt h0
theorem linesFrom_shift (l : List UInt8) (i d : Nat) : linesFrom l (i + d) = (linesFrom l i).map (· + d) := by
  induction l generalizing i with
  | nil => rfl
  | cons c cs ih =>
    unfold linesFrom
    rw [show i + d + 1 = i + 1 + d by omega, ih]
    split <;> simp
theorem linesFrom_cons (c : UInt8) (cs : List UInt8) (i : Nat) : linesFrom (c :: cs) i = if c.toNat = 10 then (i + 1) :: linesFrom cs (i + 1) else linesFrom cs (i + 1) := rfl
theorem scan_cons (c : UInt8) (cs : List UInt8) (i ln fr : Nat) : scanNl (c :: cs) i ln fr = if c.toNat = 10 then scanNl cs (i + 1) (ln + 1) (i + 1) else scanNl cs (i + 1) ln fr := rfl
theorem linesFrom_app (a b : List UInt8) (i : Nat) : linesFrom (a ++ b) i = linesFrom a i ++ linesFrom b (i + a.length) := by
  induction a generalizing i with
  | nil => simp [linesFrom]
  | cons c cs ih =>
    rw [List.cons_append]
    rw [linesFrom_cons, linesFrom_cons, ih, List.length_cons, show i + 1 + cs.length = i + (cs.length + 1) by omega]
    split <;> simp
theorem linesL_app (a b : List UInt8) : linesL (a ++ b) = linesL a ++ ((linesL b).drop 1).map (· + a.length) := by
  unfold linesL
  rw [linesFrom_app, List.cons_append, linesFrom_shift b 0 a.length]
  simp
theorem scan_app (a b : List UInt8) (i ln fr : Nat) : scanNl (a ++ b) i ln fr = scanNl b (i + a.length) (scanNl a i ln fr).1 (scanNl a i ln fr).2 := by
  induction a generalizing i ln fr with
  | nil => simp [scanNl]
  | cons c cs ih =>
    rw [List.cons_append]
    rw [scan_cons, scan_cons, List.length_cons, show i + (cs.length + 1) = i + 1 + cs.length by omega]
    split <;> rw [ih]
theorem scan_shift (l : List UInt8) (i ln fr : Nat) : (scanNl l i ln fr).1 = ln + (scanNl l 0 0 0).1 ∧ (scanNl l i ln fr).2 = if (scanNl l 0 0 0).1 = 0 then fr else i + (scanNl l 0 0 0).2 := by
  have h1 := scan_eq l i l.length ln fr (Nat.le_refl _)
  have h2 := scan_eq l 0 l.length 0 0 (Nat.le_refl _)
  rw [List.take_length] at h1 h2
  have hall : ∀ j, (linesFrom l j).countP (fun x => decide (x ≤ j + l.length)) = (linesFrom l j).length := by
    intro j
    rw [List.countP_eq_length]
    intro x hx
    have := linesFrom_gt hx
    simp
    omega
  rw [hall] at h1 h2
  have hsh := linesFrom_shift l 0 i
  rw [Nat.zero_add] at hsh
  rw [h1, h2]
  have hlen : (linesFrom l i).length = (linesFrom l 0).length := by rw [hsh, List.length_map]
  simp only [hlen, Nat.zero_add]
  refine ⟨trivial, ?_⟩
  split
  · rename_i h0
    rw [h0, List.getD_cons_zero]
  · rename_i h0
    obtain ⟨m, hm⟩ : ∃ m, (linesFrom l 0).length = m + 1 := ⟨(linesFrom l 0).length - 1, by omega⟩
    rw [hm, List.getD_cons_succ, List.getD_cons_succ, hsh]
    rw [List.getD_eq_getElem?_getD, List.getD_eq_getElem?_getD, List.getElem?_map, List.getElem?_eq_getElem (by omega)]
    simp
    omega
/-- A position in the second text, found behind the first one. -/
theorem at_app {a b : List UInt8} (ha : Whole a) {k : Nat} (hk : k ∈ bordL b 0) :
    atC (a ++ b) ((a.length + k : Nat) : Int) = if (atC b k).1.1 = 0 then (((atC a (a.length : Int)).1.1, (atC a (a.length : Int)).1.2 + (atC b k).1.2), 0) else (((atC a (a.length : Int)).1.1 + (atC b k).1.1, (atC b k).1.2), 0) := by
  have hkb := bord_ge hk
  have hka : a.length ∈ bordL a 0 := by have := bord_end a 0; rwa [Nat.zero_add] at this
  have hkab : a.length + k ∈ bordL (a ++ b) 0 := by
    rw [bord_app ha b 0 (by omega), Nat.add_comm a.length k, Nat.zero_add, ← Nat.zero_add a.length, bord_shift]
    simpa using hk
  have c1 := atC_border hkab
  have c2 := atC_border hk
  have c3 := atC_border hka
  have hs1 := scan_off (l := a ++ b) (off := a.length + k) (by simp; omega)
  have hs2 := scan_off (l := b) (off := k) (by omega)
  have hs3 := scan_off (l := a) (off := a.length) (Nat.le_refl _)
  have htk : (a ++ b).take (a.length + k) = a ++ b.take k := by rw [List.take_append, List.take_of_length_le (by omega), Nat.add_sub_cancel_left]
  rw [List.take_length] at hs3 c3
  rw [htk] at hs1 c1
  rw [scan_app, hs3] at hs1
  have hsh := scan_shift (b.take k) (0 + a.length) (lineIx a a.length) ((linesL a).getD (lineIx a a.length) 0)
  rw [hs1, hs2] at hsh
  simp only at hsh
  rw [c1, c2, c3]
  simp only
  have hla := lineAt_le (l := a) (off := a.length) (Nat.le_refl _)
  have hlb := lineAt_le (l := b) (off := k) (by omega)
  rw [hsh.2, hsh.1]
  split
  · rename_i h0
    have hfb : (linesL b).getD (lineIx b k) 0 = 0 := by rw [h0]; rfl
    have hw := whole_drop ha (line_border (l := a) (j := lineIx a a.length))
    rw [Nat.sub_zero] at hw
    rw [hfb, h0, List.drop_append_of_le_length hla, units_app hw, List.drop_zero]
    rfl
  · rename_i h0
    rw [Nat.zero_add, List.drop_append]
    rw [List.drop_of_length_le (by omega), List.nil_append, Nat.add_sub_cancel_left]

/-! ### The generated texts -/
def partsL : List (List UInt8) := [[97], [98], [32], [10], [10], [195, 169], [195, 159], [226, 130, 172], [232, 170, 158], [240, 159, 152, 128], [240, 157, 132, 158], [120, 49], [13, 10], [40], [34]]
theorem parts_whole : ∀ x ∈ partsL, Whole x ∧ x.length ≤ 4 := by
  have one : ∀ (x : List UInt8), x ≠ [] → (1 < (chL x).1 ∨ by8 x 0 < 128) → (chL x).1 = x.length → Whole x := by
    intro x h0 h1 h2
    rw [whole_cons h0]
    exact ⟨h1, by rw [h2, List.drop_length]; exact whole_nil⟩
  intro x hx
  simp only [partsL, List.mem_cons, List.not_mem_nil, or_false] at hx
  rcases hx with rfl | rfl | rfl | rfl | rfl | rfl | rfl | rfl | rfl | rfl | rfl | rfl | rfl | rfl | rfl
  all_goals refine ⟨?_, by decide⟩
  · exact one _ (by simp) (by decide) (by decide)
  · exact one _ (by simp) (by decide) (by decide)
  · exact one _ (by simp) (by decide) (by decide)
  · exact one _ (by simp) (by decide) (by decide)
  · exact one _ (by simp) (by decide) (by decide)
  · exact one _ (by simp) (by decide) (by decide)
  · exact one _ (by simp) (by decide) (by decide)
  · exact one _ (by simp) (by decide) (by decide)
  · exact one _ (by simp) (by decide) (by decide)
  · exact one _ (by simp) (by decide) (by decide)
  · exact one _ (by simp) (by decide) (by decide)
  · exact whole_app (a := [120]) (b := [49]) (one _ (by simp) (by decide) (by decide)) (one _ (by simp) (by decide) (by decide))
  · exact whole_app (a := [13]) (b := [10]) (one _ (by simp) (by decide) (by decide)) (one _ (by simp) (by decide) (by decide))
  · exact one _ (by simp) (by decide) (by decide)
  · exact one _ (by simp) (by decide) (by decide)
/-- The place of a part. -/
def partAt (n : Int) : Nat := (if n < 0 then (-(n + 1)) % 15 else n % 15).toNat
theorem partAt_lt (n : Int) : partAt n < 15 := by unfold partAt; split <;> omega
def textL (xs : List Int) : List UInt8 := (xs.take 24).flatMap fun n => partsL.getD (partAt n) []
theorem part_mem (n : Int) : partsL.getD (partAt n) [] ∈ partsL := by
  have := partAt_lt n
  rw [List.getD_eq_getElem?_getD, List.getElem?_eq_getElem (by simpa [partsL] using this)]
  exact List.getElem_mem _
theorem flat_whole (xs : List Int) : Whole (xs.flatMap fun n => partsL.getD (partAt n) []) ∧ (xs.flatMap fun n => partsL.getD (partAt n) []).length ≤ 4 * xs.length := by
  induction xs with
  | nil => simpa using whole_nil
  | cons n ns ih =>
    have h := parts_whole _ (part_mem n)
    rw [List.flatMap_cons]
    refine ⟨whole_app h.1 ih.1, ?_⟩
    rw [List.length_append, List.length_cons]
    omega
theorem text_whole (xs : List Int) : Whole (textL xs) := (flat_whole _).1
theorem text_len (xs : List Int) : (textL xs).length ≤ 96 := by
  have := (flat_whole (xs.take 24)).2
  unfold textL
  simp only [List.length_take] at this
  omega
end Go.Proofs.Ytmonpnikdheokaa
