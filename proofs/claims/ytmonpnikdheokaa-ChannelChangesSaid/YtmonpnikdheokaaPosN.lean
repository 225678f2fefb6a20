/-
  Units, lines, borders, offsets and positions, as plain functions, and how they fit together. No program in sight.
-/
import Derived.Test.YtmonpnikdheokaaPosM
namespace Go.Proofs.Ytmonpnikdheokaa
open Go Go.Proofs
set_option linter.unusedVariables false
set_option linter.unusedSimpArgs false

theorem chL_drop_lt {l : List UInt8} (h : l ≠ []) : (l.drop (chL l).1).length < l.length := by
  have := chL_pos l
  have := len_pos h
  simp
  omega
/-- The units of a text. -/
def unitsL (l : List UInt8) : Nat := if h : l = [] then 0 else (chL l).2 + unitsL (l.drop (chL l).1)
termination_by l.length
decreasing_by exact chL_drop_lt h
theorem unitsL_nil : unitsL [] = 0 := by rw [unitsL]; simp
theorem unitsL_cons {l : List UInt8} (h : l ≠ []) : unitsL l = (chL l).2 + unitsL (l.drop (chL l).1) := by rw [unitsL, dif_neg h]
/-- The beginnings of the characters, and the end. -/
def bordL (l : List UInt8) (p : Nat) : List Nat := if h : l = [] then [p] else p :: bordL (l.drop (chL l).1) (p + (chL l).1)
termination_by l.length
decreasing_by exact chL_drop_lt h
theorem bordL_nil (p : Nat) : bordL [] p = [p] := by rw [bordL]; simp
theorem bordL_cons {l : List UInt8} (h : l ≠ []) (p : Nat) : bordL l p = p :: bordL (l.drop (chL l).1) (p + (chL l).1) := by rw [bordL, dif_neg h]
/-- The code's search for an offset. -/
def offF (l : List UInt8) (p n u : Nat) : Nat × Nat :=
  if h : l = [] then (if n = u then (p, 0) else if u < n then (0, 1) else (0, 5))
  else if n = u then (p, 0) else if u < n then (0, 1) else if by8 l 0 = 10 then (0, 5) else offF (l.drop (chL l).1) (p + (chL l).1) (n + (chL l).2) u
termination_by l.length
decreasing_by exact chL_drop_lt h
theorem offF_nil (p n u : Nat) : offF [] p n u = if n = u then (p, 0) else if u < n then (0, 1) else (0, 5) := by rw [offF]; simp
theorem offF_cons {l : List UInt8} (h : l ≠ []) (p n u : Nat) : offF l p n u = if n = u then (p, 0) else if u < n then (0, 1) else if by8 l 0 = 10 then (0, 5) else offF (l.drop (chL l).1) (p + (chL l).1) (n + (chL l).2) u := by rw [offF, dif_neg h]
/-- The code's search for a position in line ln. -/
def atF (ln : Nat) (l : List UInt8) (p n off : Nat) : (Nat × Nat) × Nat :=
  if h : l = [] then (if off < p then ((0, 0), 1) else ((ln, n), 0))
  else if p = off then ((ln, n), 0) else if off < p then ((0, 0), 1) else atF ln (l.drop (chL l).1) (p + (chL l).1) (n + (chL l).2) off
termination_by l.length
decreasing_by exact chL_drop_lt h
theorem atF_nil (ln p n off : Nat) : atF ln [] p n off = if off < p then ((0, 0), 1) else ((ln, n), 0) := by rw [atF]; simp
theorem atF_cons {l : List UInt8} (h : l ≠ []) (ln p n off : Nat) : atF ln l p n off = if p = off then ((ln, n), 0) else if off < p then ((0, 0), 1) else atF ln (l.drop (chL l).1) (p + (chL l).1) (n + (chL l).2) off := by rw [atF, dif_neg h]
/-- The beginnings of the lines. -/
def linesFrom : List UInt8 → Nat → List Nat
  | [], _ => []
  | c :: cs, i => if c.toNat = 10 then (i + 1) :: linesFrom cs (i + 1) else linesFrom cs (i + 1)
def linesL (l : List UInt8) : List Nat := 0 :: linesFrom l 0
/-- The line, and its beginning, behind some bytes. -/
def scanNl : List UInt8 → Nat → Nat → Nat → Nat × Nat
  | [], _, ln, fr => (ln, fr)
  | c :: cs, i, ln, fr => if c.toNat = 10 then scanNl cs (i + 1) (ln + 1) (i + 1) else scanNl cs (i + 1) ln fr
/-- The bytes ahead of the first line feed. -/
def endOf : List UInt8 → Nat
  | [] => 0
  | c :: cs => if c.toNat = 10 then 0 else endOf cs + 1

def offC (l : List UInt8) (line unit : Int) : Nat × Nat :=
  if line < 0 ∨ ((linesL l).length : Int) ≤ line ∨ unit < 0 then (0, 5) else offF (l.drop ((linesL l).getD line.toNat 0)) ((linesL l).getD line.toNat 0) 0 unit.toNat
def lineIx (l : List UInt8) (off : Nat) : Nat := (linesL l).countP (fun x => decide (x ≤ off)) - 1
def atC (l : List UInt8) (off : Int) : (Nat × Nat) × Nat :=
  if off < 0 ∨ (l.length : Int) < off then ((0, 0), 5)
  else atF (lineIx l off.toNat) (l.drop ((linesL l).getD (lineIx l off.toNat) 0)) ((linesL l).getD (lineIx l off.toNat) 0) 0 off.toNat
/-- The end of a line, as the reference has it. -/
def toL (l : List UInt8) (j : Nat) : Nat := if j + 1 < (linesL l).length then (linesL l).getD (j + 1) 0 - 1 else l.length
def lineL (l : List UInt8) (j : Nat) : List UInt8 := (l.drop ((linesL l).getD j 0)).take (toL l j - (linesL l).getD j 0)
def offR (l : List UInt8) (line unit : Int) : Nat × Nat :=
  if line < 0 ∨ unit < 0 ∨ ((linesL l).length : Int) ≤ line then (0, 5)
  else if unitsL (lineL l line.toNat) < unit.toNat then (0, 5)
  else match (bordL (lineL l line.toNat) 0).find? (fun b => decide (unitsL ((lineL l line.toNat).take b) = unit.toNat)) with
    | some b => ((linesL l).getD line.toNat 0 + b, 0)
    | none => (0, 1)
def atR (l : List UInt8) (off : Int) : (Nat × Nat) × Nat :=
  if off < 0 ∨ (l.length : Int) < off then ((0, 0), 5)
  else if off.toNat ∈ bordL l 0 then (((scanNl (l.take off.toNat) 0 0 0).1, unitsL ((l.take off.toNat).drop (scanNl (l.take off.toNat) 0 0 0).2)), 0) else ((0, 0), 1)

/-! ### Borders -/
theorem bord_head (l : List UInt8) (p : Nat) : p ∈ bordL l p := by
  by_cases h : l = []
  · subst h; rw [bordL_nil]; simp
  · rw [bordL_cons h]; simp
theorem bord_ge {l : List UInt8} {p x : Nat} (h : x ∈ bordL l p) : p ≤ x ∧ x ≤ p + l.length := by
  by_cases h0 : l = []
  · subst h0; rw [bordL_nil] at h; simp at h; simp [h]
  · rw [bordL_cons h0] at h
    have hle := chL_le h0
    rcases List.mem_cons.1 h with rfl | h
    · omega
    · have := bord_ge h
      simp at this
      omega
termination_by l.length
decreasing_by exact chL_drop_lt h0
theorem bord_end (l : List UInt8) (p : Nat) : p + l.length ∈ bordL l p := by
  by_cases h0 : l = []
  · subst h0; rw [bordL_nil]; simp
  · rw [bordL_cons h0]
    have hle := chL_le h0
    have := bord_end (l.drop (chL l).1) (p + (chL l).1)
    refine List.mem_cons_of_mem _ ?_
    have e : p + (chL l).1 + (l.drop (chL l).1).length = p + l.length := by simp; omega
    rw [e] at this
    exact this
termination_by l.length
decreasing_by exact chL_drop_lt h0
theorem bord_split {l : List UInt8} {q x y : Nat} (h : x ∈ bordL l q) (hy : x ≤ y) : y ∈ bordL l q ↔ y ∈ bordL (l.drop (x - q)) x := by
  have hge := bord_ge h
  by_cases h0 : l = []
  · subst h0; rw [bordL_nil] at h; simp at h; subst h; simp
  · rw [bordL_cons h0] at h
    have hp := chL_pos l
    rcases List.mem_cons.1 h with rfl | h
    · simp
    · have hge' := bord_ge h
      have ih := bord_split h hy
      rw [bordL_cons h0, List.mem_cons, List.drop_drop] at *
      rw [show (chL l).1 + (x - (q + (chL l).1)) = x - q by omega] at ih
      rw [← ih]
      constructor
      · rintro (rfl | h')
        · omega
        · exact h'
      · exact .inr
termination_by l.length
decreasing_by exact chL_drop_lt h0
theorem nl_border {l : List UInt8} {i : Nat} (q : Nat) (hi : i < l.length) (h : by8 l i = 10) : q + i + 1 ∈ bordL l q := by
  have h0 : l ≠ [] := by intro e; subst e; simp at hi
  rw [bordL_cons h0]
  refine List.mem_cons_of_mem _ ?_
  by_cases hw : i < (chL l).1
  · by_cases hi0 : i = 0
    · subst hi0
      have := chL_low (l := l) (by omega)
      rw [this]
      exact bord_head _ _
    · have := chL_high (l := l) (by omega) hw
      omega
  · have := nl_border (l := l.drop (chL l).1) (i := i - (chL l).1) (q + (chL l).1) (by simp; omega) (by rw [by8_drop]; rw [show (chL l).1 + (i - (chL l).1) = i by omega]; exact h)
    rw [show q + (chL l).1 + (i - (chL l).1) + 1 = q + i + 1 by omega] at this
    exact this
termination_by l.length
decreasing_by exact chL_drop_lt h0
theorem bord_sorted (l : List UInt8) (p : Nat) : (bordL l p).Pairwise (· < ·) := by
  by_cases h0 : l = []
  · subst h0; rw [bordL_nil]; simp
  · rw [bordL_cons h0, List.pairwise_cons]
    refine ⟨fun x hx => ?_, bord_sorted _ _⟩
    have := bord_ge hx
    have := chL_pos l
    omega
termination_by l.length
decreasing_by exact chL_drop_lt h0
theorem bord_shift (l : List UInt8) (p q : Nat) : bordL l (p + q) = (bordL l p).map (· + q) := by
  by_cases h0 : l = []
  · subst h0; rw [bordL_nil, bordL_nil]; simp
  · rw [bordL_cons h0, bordL_cons h0, List.map_cons]
    have := bord_shift (l.drop (chL l).1) (p + (chL l).1) q
    rw [← this]
    congr 2
    omega
termination_by l.length
decreasing_by exact chL_drop_lt h0
theorem bord_len (l : List UInt8) (p : Nat) : 1 ≤ (bordL l p).length ∧ (bordL l p).length ≤ l.length + 1 := by
  by_cases h0 : l = []
  · subst h0; rw [bordL_nil]; simp
  · rw [bordL_cons h0]
    have h1 := bord_len (l.drop (chL l).1) (p + (chL l).1)
    have := chL_pos l
    have := chL_le h0
    simp at h1 ⊢
    omega
termination_by l.length
decreasing_by exact chL_drop_lt h0
theorem take_ne {l : List UInt8} {k : Nat} (h0 : l ≠ []) (hk : 0 < k) : l.take k ≠ [] := by
  intro e
  have h1 := congrArg List.length e
  have h2 := len_pos h0
  rw [List.length_take, List.length_nil] at h1
  omega
theorem unitsL_take {l : List UInt8} {k : Nat} (h0 : l ≠ []) (h : (chL l).1 ≤ k) : unitsL (l.take k) = (chL l).2 + unitsL ((l.drop (chL l).1).take (k - (chL l).1)) := by
  have hp := chL_pos l
  have hne : l.take k ≠ [] := take_ne h0 (by omega)
  rw [unitsL_cons hne, chL_take h, List.drop_take]
theorem unitsL_le (l : List UInt8) : unitsL l ≤ l.length := by
  by_cases h0 : l = []
  · subst h0; rw [unitsL_nil]; simp
  · rw [unitsL_cons h0]
    have := unitsL_le (l.drop (chL l).1)
    have h2 := (chL_u2 l).2.2
    have := chL_le h0
    have h3 : (l.drop (chL l).1).length = l.length - (chL l).1 := List.length_drop
    omega
termination_by l.length
decreasing_by exact chL_drop_lt h0
theorem unitsL_pos {l : List UInt8} (h0 : l ≠ []) : 0 < unitsL l := by
  rw [unitsL_cons h0]
  have := (chL_u2 l).1
  omega
/-- More bytes, more units. -/
theorem unitsL_lt {l : List UInt8} {p x y : Nat} (hx : x ∈ bordL l p) (hxy : x < y) (hy : y ≤ p + l.length) : unitsL (l.take (x - p)) < unitsL (l.take (y - p)) := by
  have h0 : l ≠ [] := by
    rintro rfl
    have := bord_ge hx
    simp at *
    omega
  rw [bordL_cons h0] at hx
  rcases List.mem_cons.1 hx with rfl | hx
  · have : l.take (y - x) ≠ [] := take_ne h0 (by omega)
    have := unitsL_pos this
    simp [unitsL_nil]
    exact this
  · have hge := bord_ge hx
    have hle := chL_le h0
    have hl : (l.drop (chL l).1).length = l.length - (chL l).1 := List.length_drop
    have ih := unitsL_lt hx hxy (by omega)
    rw [unitsL_take h0 (by omega), unitsL_take h0 (by omega)]
    rw [show x - p - (chL l).1 = x - (p + (chL l).1) by omega, show y - p - (chL l).1 = y - (p + (chL l).1) by omega]
    omega
termination_by l.length
decreasing_by exact chL_drop_lt h0

/-! ### At: the code's search and the definition -/
theorem atF_out (ln : Nat) {l : List UInt8} {p n off : Nat} (h : off < p) : atF ln l p n off = ((0, 0), 1) := by
  by_cases h0 : l = []
  · subst h0; rw [atF_nil, if_pos h]
  · rw [atF_cons h0, if_neg (by omega), if_pos h]
theorem atF_eq (ln : Nat) {l : List UInt8} {p n off : Nat} (h1 : p ≤ off) (h2 : off ≤ p + l.length) :
    atF ln l p n off = if off ∈ bordL l p then ((ln, n + unitsL (l.take (off - p))), 0) else ((0, 0), 1) := by
  by_cases h0 : l = []
  · subst h0
    obtain rfl : off = p := by simp at h2; omega
    rw [atF_nil, bordL_nil, if_neg (by omega), if_pos (by simp)]
    simp [unitsL_nil]
  · rw [atF_cons h0]
    by_cases hp : p = off
    · subst hp
      rw [if_pos rfl, if_pos (bord_head _ _)]
      simp [unitsL_nil]
    · rw [if_neg hp, if_neg (by omega), bordL_cons h0]
      have hm : (off ∈ p :: bordL (l.drop (chL l).1) (p + (chL l).1)) ↔ off ∈ bordL (l.drop (chL l).1) (p + (chL l).1) := by
        rw [List.mem_cons]; exact ⟨fun h => h.elim (fun e => absurd e.symm hp) id, .inr⟩
      simp only [hm]
      by_cases hw : off < p + (chL l).1
      · rw [atF_out ln hw, if_neg]
        intro hx
        have := bord_ge hx
        omega
      · have hle := chL_le h0
        have hl : (l.drop (chL l).1).length = l.length - (chL l).1 := List.length_drop
        rw [atF_eq ln (by omega) (by omega)]
        split
        · rw [unitsL_take h0 (by omega), show off - p - (chL l).1 = off - (p + (chL l).1) by omega]
          congr 2
          omega
        · rfl
termination_by l.length
decreasing_by exact chL_drop_lt h0

/-! ### Lines -/
theorem linesFrom_gt {l : List UInt8} {i x : Nat} (h : x ∈ linesFrom l i) : i < x ∧ x ≤ i + l.length := by
  induction l generalizing i with
  | nil => simp [linesFrom] at h
  | cons c cs ih =>
    unfold linesFrom at h
    split at h
    · rcases List.mem_cons.1 h with rfl | h
      · simp
      · have := ih h
        simp
        omega
    · have := ih h
      simp
      omega
theorem linesFrom_nl {l : List UInt8} {i x : Nat} (h : x ∈ linesFrom l i) : ∃ j, j < l.length ∧ x = i + j + 1 ∧ by8 l j = 10 := by
  induction l generalizing i with
  | nil => simp [linesFrom] at h
  | cons c cs ih =>
    unfold linesFrom at h
    have hrec : x ∈ linesFrom cs (i + 1) → ∃ j, j < (c :: cs).length ∧ x = i + j + 1 ∧ by8 (c :: cs) j = 10 := by
      intro h
      obtain ⟨j, h1, h2, h3⟩ := ih h
      refine ⟨j + 1, by simpa using h1, by omega, ?_⟩
      unfold by8 at *
      simpa using h3
    split at h
    · rename_i hc
      rcases List.mem_cons.1 h with rfl | h
      · exact ⟨0, by simp, rfl, by unfold by8; simpa using hc⟩
      · exact hrec h
    · exact hrec h
theorem scan_eq (l : List UInt8) (i k ln fr : Nat) (hk : k ≤ l.length) :
    scanNl (l.take k) i ln fr = (ln + (linesFrom l i).countP (fun x => decide (x ≤ i + k)), (fr :: linesFrom l i).getD ((linesFrom l i).countP (fun x => decide (x ≤ i + k))) 0) := by
  induction l generalizing i k ln fr with
  | nil =>
    obtain rfl : k = 0 := by simpa using hk
    simp [scanNl, linesFrom]
  | cons c cs ih =>
    cases k with
    | zero =>
      have h0 : (linesFrom (c :: cs) i).countP (fun x => decide (x ≤ i + 0)) = 0 := by
        rw [List.countP_eq_zero]
        intro x hx
        have := linesFrom_gt hx
        simp
        omega
      rw [h0]
      simp [scanNl]
    | succ k =>
      have hk' : k ≤ cs.length := by simpa using hk
      rw [List.take_succ_cons]
      unfold scanNl linesFrom
      split
      · rw [ih (i + 1) k (ln + 1) (i + 1) hk', List.countP_cons_of_pos (p := fun x => decide (x ≤ i + (k + 1))) (decide_eq_true (by omega))]
        rw [show i + (k + 1) = i + 1 + k by omega]
        simp
        omega
      · rw [ih (i + 1) k ln fr hk', show i + (k + 1) = i + 1 + k by omega]
theorem scan_le (l : List UInt8) (i ln fr : Nat) (h : fr ≤ i) : (scanNl l i ln fr).2 ≤ i + l.length := by
  induction l generalizing i ln fr with
  | nil => simpa [scanNl] using h
  | cons c cs ih =>
    unfold scanNl
    split
    · have := ih (i + 1) (ln + 1) (i + 1) (Nat.le_refl _)
      simp
      omega
    · have := ih (i + 1) ln fr (by omega)
      simp
      omega
theorem lineIx_eq (l : List UInt8) (off : Nat) : lineIx l off = (linesFrom l 0).countP (fun x => decide (x ≤ off)) := by
  unfold lineIx linesL
  rw [List.countP_cons_of_pos (by simp)]
  simp
theorem scan_off {l : List UInt8} {off : Nat} (h : off ≤ l.length) : scanNl (l.take off) 0 0 0 = (lineIx l off, (linesL l).getD (lineIx l off) 0) := by
  rw [scan_eq l 0 off 0 0 h, lineIx_eq]
  simp [linesL]
theorem lineIx_lt (l : List UInt8) (off : Nat) : lineIx l off < (linesL l).length := by
  rw [lineIx_eq]
  have := List.countP_le_length (p := fun x => decide (x ≤ off)) (l := linesFrom l 0)
  simp [linesL]
  omega
theorem lineAt_le {l : List UInt8} {off : Nat} (h : off ≤ l.length) : (linesL l).getD (lineIx l off) 0 ≤ off := by
  have h1 := scan_le (l.take off) 0 0 0 (Nat.le_refl _)
  rw [scan_off h, List.length_take] at h1
  simp only [Nat.zero_add] at h1
  omega
theorem line_border {l : List UInt8} {j : Nat} : (linesL l).getD j 0 ∈ bordL l 0 := by
  by_cases hj : j < (linesL l).length
  · have hm : (linesL l).getD j 0 ∈ linesL l := by
      rw [List.getD_eq_getElem?_getD, List.getElem?_eq_getElem hj]
      exact List.getElem_mem _
    unfold linesL at hm ⊢
    rcases List.mem_cons.1 hm with h | h
    · rw [h]; exact bord_head _ _
    · obtain ⟨i, h1, h2, h3⟩ := linesFrom_nl h
      rw [h2]
      exact nl_border 0 h1 h3
  · rw [List.getD_eq_getElem?_getD, List.getElem?_eq_none (by omega)]
    exact bord_head _ _
theorem atC_eq (l : List UInt8) (off : Int) : atC l off = atR l off := by
  unfold atC atR
  split
  · rfl
  · rename_i h
    have hoff : off.toNat ≤ l.length := by omega
    generalize off.toNat = k at *
    have h1 := lineAt_le hoff
    have hl : (l.drop ((linesL l).getD (lineIx l k) 0)).length = l.length - (linesL l).getD (lineIx l k) 0 := List.length_drop
    rw [atF_eq _ h1 (by omega), scan_off hoff]
    have hs := bord_split (line_border (l := l) (j := lineIx l k)) h1
    rw [Nat.sub_zero] at hs
    simp only [hs]
    split
    · rw [Nat.zero_add, List.drop_take]
    · rfl
theorem atC_border {l : List UInt8} {off : Nat} (h : off ∈ bordL l 0) : atC l off = ((lineIx l off, unitsL ((l.take off).drop ((linesL l).getD (lineIx l off) 0))), 0) := by
  have hge := bord_ge h
  rw [atC_eq]
  unfold atR
  rw [if_neg (by omega), if_pos (by simpa using h)]
  simp only [Int.toNat_natCast]
  rw [scan_off (by omega)]
theorem atC_ok {l : List UInt8} {off : Int} : (atC l off).2 = 0 ↔ 0 ≤ off ∧ off.toNat ∈ bordL l 0 := by
  rw [atC_eq]
  unfold atR
  split
  · rename_i h
    simp only
    constructor
    · intro h'; simp at h'
    · rintro ⟨h1, h2⟩
      have := bord_ge h2
      omega
  · rename_i h
    split
    · rename_i h2
      exact ⟨fun _ => ⟨by omega, h2⟩, fun _ => rfl⟩
    · rename_i h2
      constructor
      · intro h'; simp at h'
      · intro h'; exact absurd h'.2 h2

/-! ### One line -/
theorem endOf_le (l : List UInt8) : endOf l ≤ l.length := by
  induction l with
  | nil => simp [endOf]
  | cons c cs ih => unfold endOf; split <;> simp; exact ih
theorem endOf_no {l : List UInt8} {k : Nat} (h : k < endOf l) : by8 l k ≠ 10 := by
  induction l generalizing k with
  | nil => simp [endOf] at h
  | cons c cs ih =>
    unfold endOf at h
    split at h
    · omega
    · rename_i hc
      cases k with
      | zero => unfold by8; simpa using hc
      | succ k =>
        have := ih (k := k) (by omega)
        unfold by8 at *
        simpa using this
theorem endOf_at {l : List UInt8} (h : endOf l < l.length) : by8 l (endOf l) = 10 := by
  induction l with
  | nil => simp [endOf] at h
  | cons c cs ih =>
    unfold endOf at h ⊢
    split
    · rename_i hc
      unfold by8; simpa using hc
    · rename_i hc
      rw [if_neg hc] at h
      have := ih (by simpa using h)
      unfold by8 at *
      simpa using this
theorem linesFrom_end (l : List UInt8) (i : Nat) : linesFrom l i = if endOf l < l.length then (i + endOf l + 1) :: linesFrom (l.drop (endOf l + 1)) (i + endOf l + 1) else [] := by
  induction l generalizing i with
  | nil => simp [linesFrom, endOf]
  | cons c cs ih =>
    rw [linesFrom, endOf]
    split
    · rename_i hc
      simp
    · rename_i hc
      rw [ih (i + 1)]
      simp only [List.length_cons, Nat.add_lt_add_iff_right, List.drop_succ_cons]
      rw [show i + 1 + endOf cs = i + (endOf cs + 1) by omega]
theorem lineSeg (j : Nat) : ∀ (l : List UInt8) (i : Nat), j < (i :: linesFrom l i).length →
    i ≤ (i :: linesFrom l i).getD j 0 ∧ (i :: linesFrom l i).getD j 0 ≤ i + l.length ∧
    (if j + 1 < (i :: linesFrom l i).length then (i :: linesFrom l i).getD (j + 1) 0 - 1 else i + l.length) = (i :: linesFrom l i).getD j 0 + endOf (l.drop ((i :: linesFrom l i).getD j 0 - i)) ∧
    ∀ o, (i :: linesFrom l i).getD j 0 ≤ o → o ≤ (i :: linesFrom l i).getD j 0 + endOf (l.drop ((i :: linesFrom l i).getD j 0 - i)) → (i :: linesFrom l i).countP (fun x => decide (x ≤ o)) = j + 1 := by
  induction j with
  | zero =>
    intro l i _
    have hle := endOf_le l
    simp only [List.getD_cons_zero, Nat.sub_self, List.drop_zero]
    refine ⟨Nat.le_refl _, by omega, ?_, ?_⟩
    · rw [linesFrom_end l i]
      split
      · simp
      · simp
        omega
    · intro o h1 h2
      rw [List.countP_cons_of_pos (by simpa using h1)]
      rw [List.countP_eq_zero.2]
      intro x hx
      rw [linesFrom_end l i] at hx
      split at hx
      · rcases List.mem_cons.1 hx with rfl | hx
        · simp; omega
        · have := linesFrom_gt hx
          simp; omega
      · simp at hx
  | succ j ih =>
    intro l i hj
    have hle := endOf_le l
    have he := linesFrom_end l i
    by_cases hlt : endOf l < l.length
    · rw [if_pos hlt] at he
      rw [he] at hj ⊢
      have hih := ih (l.drop (endOf l + 1)) (i + endOf l + 1) (by simpa using hj)
      rw [List.getD_cons_succ, List.getD_cons_succ]
      generalize hA : (i + endOf l + 1) :: linesFrom (l.drop (endOf l + 1)) (i + endOf l + 1) = A at *
      obtain ⟨g1, g2, g3, g4⟩ := hih
      have hdl : (l.drop (endOf l + 1)).length = l.length - (endOf l + 1) := List.length_drop
      have hdd : (l.drop (endOf l + 1)).drop (A.getD j 0 - (i + endOf l + 1)) = l.drop (A.getD j 0 - i) := by
        rw [List.drop_drop]; congr 1; omega
      rw [hdd] at g3 g4
      refine ⟨by omega, by omega, ?_, ?_⟩
      · rw [← g3]
        simp only [List.length_cons, Nat.add_lt_add_iff_right]
        split
        · rfl
        · omega
      · intro o h1 h2
        rw [List.countP_cons_of_pos (by simp; omega), g4 o h1 h2]
    · rw [if_neg hlt] at he
      rw [he] at hj
      simp at hj
theorem seg_line {l : List UInt8} {j : Nat} (hj : j < (linesL l).length) :
    (linesL l).getD j 0 ≤ l.length ∧ toL l j = (linesL l).getD j 0 + endOf (l.drop ((linesL l).getD j 0)) ∧
    ∀ o, (linesL l).getD j 0 ≤ o → o ≤ (linesL l).getD j 0 + endOf (l.drop ((linesL l).getD j 0)) → lineIx l o = j := by
  obtain ⟨h1, h2, h3, h4⟩ := lineSeg j l 0 hj
  unfold toL lineIx linesL at *
  simp only [Nat.sub_zero, Nat.zero_add] at h2 h3 h4
  exact ⟨h2, h3, fun o a b => by rw [h4 o a b]; simp⟩
theorem lineL_eq {l : List UInt8} {j : Nat} (hj : j < (linesL l).length) : lineL l j = (l.drop ((linesL l).getD j 0)).take (endOf (l.drop ((linesL l).getD j 0))) := by
  obtain ⟨_, h2, _⟩ := seg_line hj
  unfold lineL
  rw [h2]
  congr 1
  omega
theorem find_map_add (L : List Nat) (f : Nat → Bool) (w : Nat) : (L.map (· + w)).find? f = (L.find? (fun b => f (b + w))).map (· + w) := by
  induction L with
  | nil => rfl
  | cons x xs ih =>
    simp only [List.map_cons, List.find?_cons]
    split <;> simp_all
theorem find_congr {L : List Nat} {f g : Nat → Bool} (h : ∀ x ∈ L, f x = g x) : L.find? f = L.find? g := by
  induction L with
  | nil => rfl
  | cons x xs ih =>
    rw [List.find?_cons, List.find?_cons, h x (by simp), ih fun y hy => h y (by simp [hy])]
/-- The code's search over a line and what follows it, against the definition. -/
theorem offF_line {m r : List UInt8} (hm : ∀ k, k < m.length → by8 m k ≠ 10) (hr : r = [] ∨ by8 r 0 = 10) (p n u : Nat) :
    offF (m ++ r) p n u = if n + unitsL m < u then (0, 5) else match (bordL m 0).find? (fun b => decide (n + unitsL (m.take b) = u)) with
      | some b => (p + b, 0)
      | none => (0, 1) := by
  by_cases h0 : m = []
  · subst h0
    rw [bordL_nil, unitsL_nil, List.nil_append]
    simp only [List.find?_cons, List.take_zero, unitsL_nil, Nat.add_zero, List.find?_nil]
    by_cases hr0 : r = []
    · subst hr0
      rw [offF_nil]
      by_cases h1 : n = u
      · subst h1; simp
      · by_cases h2 : u < n
        · rw [if_neg h1, if_pos h2, if_neg (by omega)]
          simp [h1]
        · rw [if_neg h1, if_neg h2, if_pos (by omega)]
    · have hr' := hr.resolve_left hr0
      rw [offF_cons hr0]
      by_cases h1 : n = u
      · subst h1; simp
      · by_cases h2 : u < n
        · rw [if_neg h1, if_pos h2, if_neg (by omega)]
          simp [h1]
        · rw [if_neg h1, if_neg h2, if_pos hr', if_pos (by omega)]
  · have hpos := len_pos h0
    have hne : m ++ r ≠ [] := by simp [h0]
    have hc : chL (m ++ r) = chL m := chL_stop h0 (hr.imp id fun h => by omega)
    have hb0 : by8 (m ++ r) 0 ≠ 10 := by rw [by8_appL hpos]; exact hm 0 hpos
    have hle := chL_le h0
    have hw := chL_pos m
    have hu := chL_u2 m
    rw [offF_cons hne, hc, bordL_cons h0, List.find?_cons]
    by_cases h1 : n = u
    · subst h1
      have : ¬ n + unitsL m < n := by omega
      simp [unitsL_nil, this]
    · rw [if_neg h1]
      simp only [List.take_zero, unitsL_nil, Nat.add_zero, h1, decide_false]
      by_cases h2 : u < n
      · rw [if_pos h2, if_neg (by omega)]
        have : (bordL (m.drop (chL m).1) (0 + (chL m).1)).find? (fun b => decide (n + unitsL (m.take b) = u)) = none := by
          rw [List.find?_eq_none]
          intro x _
          simp
          omega
        rw [this]
      · rw [if_neg h2, if_neg hb0, List.drop_append_of_le_length hle]
        have hm' : ∀ k, k < (m.drop (chL m).1).length → by8 (m.drop (chL m).1) k ≠ 10 := by
          intro k hk
          rw [by8_drop]
          exact hm _ (by simp at hk; omega)
        rw [offF_line hm' hr, bord_shift, find_map_add]
        have hf : (bordL (m.drop (chL m).1) 0).find? (fun b => decide (n + unitsL (m.take (b + (chL m).1)) = u)) = (bordL (m.drop (chL m).1) 0).find? (fun b => decide (n + (chL m).2 + unitsL ((m.drop (chL m).1).take b) = u)) := by
          refine find_congr fun b _ => ?_
          rw [unitsL_take h0 (by omega), Nat.add_sub_cancel]
          congr 1
          rw [Nat.add_assoc]
        rw [hf]
        have hus := unitsL_cons h0
        have hcond : (n + (chL m).2 + unitsL (m.drop (chL m).1) < u) ↔ (n + unitsL m < u) := by omega
        simp only [hcond]
        split
        · rfl
        · cases (bordL (m.drop (chL m).1) 0).find? (fun b => decide (n + (chL m).2 + unitsL ((m.drop (chL m).1).take b) = u)) with
          | none => rfl
          | some b => simp; omega
termination_by m.length
decreasing_by exact chL_drop_lt h0
theorem offC_eq (l : List UInt8) (line unit : Int) : offC l line unit = offR l line unit := by
  unfold offC offR
  by_cases h : line < 0 ∨ ((linesL l).length : Int) ≤ line ∨ unit < 0
  · rw [if_pos h, if_pos (by omega)]
  · rw [if_neg h, if_neg (by omega)]
    have hj : line.toNat < (linesL l).length := by omega
    rw [lineL_eq hj]
    generalize (linesL l).getD line.toNat 0 = at0
    generalize hd : l.drop at0 = d
    have hsplit : d = d.take (endOf d) ++ d.drop (endOf d) := (List.take_append_drop _ _).symm
    have hle := endOf_le d
    have key := offF_line (m := d.take (endOf d)) (r := d.drop (endOf d)) (fun k hk => by
      have hk' : k < endOf d := by simp at hk; omega
      rw [by8_take hk']; exact endOf_no hk') (by
      by_cases hlt : endOf d < d.length
      · right; rw [by8_drop]; exact endOf_at hlt
      · left; exact List.drop_eq_nil_of_le (by omega)) at0 0 unit.toNat
    rw [← hsplit] at key
    rw [key]
    simp only [Nat.zero_add]

/-! ### At and Offset are inverse to each other -/
theorem offF_at {l : List UInt8} {p k n : Nat} (h : k ∈ bordL l p) (hn : ∀ j, j < k - p → by8 l j ≠ 10) : offF l p n (n + unitsL (l.take (k - p))) = (k, 0) := by
  have hge := bord_ge h
  by_cases h0 : l = []
  · subst h0
    rw [bordL_nil] at h
    simp at h
    subst h
    rw [offF_nil]
    simp [unitsL_nil]
  · rw [bordL_cons h0] at h
    rcases List.mem_cons.1 h with rfl | h
    · rw [offF_cons h0]
      simp [unitsL_nil]
    · have hge' := bord_ge h
      have hp := chL_pos l
      have hu := chL_u2 l
      rw [offF_cons h0, unitsL_take h0 (by omega), if_neg (by omega), if_neg (by omega), if_neg (hn 0 (by omega))]
      have := offF_at (n := n + (chL l).2) h (fun j hj => by rw [by8_drop]; exact hn _ (by omega))
      rw [show k - p - (chL l).1 = k - (p + (chL l).1) by omega, ← Nat.add_assoc]
      exact this
termination_by l.length
decreasing_by exact chL_drop_lt h0
theorem offF_ok {l : List UInt8} {p n u o : Nat} (h : offF l p n u = (o, 0)) : o ∈ bordL l p ∧ u = n + unitsL (l.take (o - p)) ∧ (∀ j, j < o - p → by8 l j ≠ 10) := by
  by_cases h0 : l = []
  · subst h0
    rw [offF_nil] at h
    split at h
    · rename_i h1
      simp only [Prod.mk.injEq, and_true] at h
      subst h h1
      exact ⟨bord_head _ _, by simp [unitsL_nil], fun j hj => by omega⟩
    · split at h <;> simp at h
  · rw [offF_cons h0] at h
    split at h
    · rename_i h1
      simp only [Prod.mk.injEq, and_true] at h
      subst h h1
      exact ⟨bord_head _ _, by simp [unitsL_nil], fun j hj => by omega⟩
    · split at h
      · simp at h
      · split at h
        · simp at h
        · rename_i h1 h2 h3
          obtain ⟨g1, g2, g3⟩ := offF_ok h
          have hge := bord_ge g1
          refine ⟨by rw [bordL_cons h0]; exact List.mem_cons_of_mem _ g1, ?_, ?_⟩
          · rw [unitsL_take h0 (by omega), g2, show o - p - (chL l).1 = o - (p + (chL l).1) by omega]
            omega
          · intro j hj
            by_cases hw : j < (chL l).1
            · by_cases hj0 : j = 0
              · subst hj0; exact h3
              · have := chL_high (l := l) (by omega) hw
                omega
            · have := g3 (j - (chL l).1) (by omega)
              rw [by8_drop, show (chL l).1 + (j - (chL l).1) = j by omega] at this
              exact this
termination_by l.length
decreasing_by exact chL_drop_lt h0
theorem scan_no (l : List UInt8) (i ln fr : Nat) (h : fr ≤ i) (j : Nat) (hj : (scanNl l i ln fr).2 ≤ i + j) (hj2 : j < l.length) : by8 l j ≠ 10 := by
  induction l generalizing i ln fr j with
  | nil => simp at hj2
  | cons c cs ih =>
    unfold scanNl at hj
    cases j with
    | zero =>
      intro hc
      have hc' : c.toNat = 10 := by unfold by8 at hc; simpa using hc
      rw [if_pos hc'] at hj
      have hge : ∀ (l : List UInt8) (i ln fr : Nat), fr ≤ (scanNl l i ln fr).2 ∨ i < (scanNl l i ln fr).2 := by
        intro l
        induction l with
        | nil => intro i ln fr; left; simp [scanNl]
        | cons d ds ih2 =>
          intro i ln fr
          unfold scanNl
          split
          · right
            have := ih2 (i + 1) (ln + 1) (i + 1)
            omega
          · have := ih2 (i + 1) ln fr
            omega
      have := hge cs (i + 1) (ln + 1) (i + 1)
      omega
    | succ j =>
      have e : by8 (c :: cs) (j + 1) = by8 cs j := by unfold by8; simp
      rw [e]
      split at hj
      · exact ih (i + 1) (ln + 1) (i + 1) (Nat.le_refl _) j (by omega) (by simpa using hj2)
      · exact ih (i + 1) ln fr (by omega) j (by omega) (by simpa using hj2)
theorem off_at {l : List UInt8} {k : Nat} (h : k ∈ bordL l 0) : offC l (atC l k).1.1 (atC l k).1.2 = (k, 0) := by
  have hge := bord_ge h
  have hk : k ≤ l.length := by omega
  rw [atC_border h]
  have h1 := lineAt_le hk
  have hlt := lineIx_lt l k
  unfold offC
  simp only
  rw [if_neg (by omega)]
  simp only [Int.toNat_natCast]
  have hso := scan_off hk
  have hno := scan_no (l.take k) 0 0 0 (Nat.le_refl _)
  rw [hso] at hno
  have hs := (bord_split (line_border (l := l) (j := lineIx l k)) h1).1 h
  rw [Nat.sub_zero] at hs
  generalize (linesL l).getD (lineIx l k) 0 = at0 at *
  have := offF_at (n := 0) hs (fun j hj => by
    rw [by8_drop]
    have := hno (at0 + j) (by simp) (by simp; omega)
    rwa [by8_take (by omega)] at this)
  rw [Nat.zero_add, ← List.drop_take] at this
  exact this
theorem at_off {l : List UInt8} {line unit : Int} {o : Nat} (h : offC l line unit = (o, 0)) : 0 ≤ line ∧ 0 ≤ unit ∧ o ∈ bordL l 0 ∧ atC l o = ((line.toNat, unit.toNat), 0) := by
  unfold offC at h
  split at h
  · simp at h
  · rename_i hc
    have hj : line.toNat < (linesL l).length := by omega
    obtain ⟨g1, g2, g3⟩ := offF_ok h
    obtain ⟨s1, s2, s3⟩ := seg_line hj
    have hge := bord_ge g1
    have hb := (bord_split (line_border (l := l) (j := line.toNat)) hge.1).2 (by rw [Nat.sub_zero]; exact g1)
    have hend : o ≤ (linesL l).getD line.toNat 0 + endOf (l.drop ((linesL l).getD line.toNat 0)) := by
      refine Nat.le_of_not_lt fun hlt => ?_
      have hdl : (l.drop ((linesL l).getD line.toNat 0)).length = l.length - (linesL l).getD line.toNat 0 := List.length_drop
      exact g3 (endOf (l.drop ((linesL l).getD line.toNat 0))) (by omega) (endOf_at (by omega))
    have hix := s3 o hge.1 hend
    refine ⟨by omega, by omega, hb, ?_⟩
    rw [atC_border hb, hix]
    rw [g2, Nat.zero_add, List.drop_take]
/-- The positions are in the order of the offsets. -/
theorem at_lt {l : List UInt8} {x y : Nat} (hx : x ∈ bordL l 0) (hy : y ∈ bordL l 0) (h : x < y) :
    (atC l x).1.1 < (atC l y).1.1 ∨ (atC l x).1.1 = (atC l y).1.1 ∧ (atC l x).1.2 < (atC l y).1.2 := by
  have hgx := bord_ge hx
  have hgy := bord_ge hy
  rw [atC_border hx, atC_border hy]
  simp only
  have hle : lineIx l x ≤ lineIx l y := by
    rw [lineIx_eq, lineIx_eq]
    exact List.countP_mono_left fun z _ hz => by simp at hz ⊢; omega
  rcases Nat.lt_or_ge (lineIx l x) (lineIx l y) with h1 | h1
  · exact .inl h1
  · have he : lineIx l x = lineIx l y := by omega
    refine .inr ⟨he, ?_⟩
    have h1 := lineAt_le (l := l) (off := x) (by omega)
    rw [← he]
    have hs := (bord_split (line_border (l := l) (j := lineIx l x)) h1).1 hx
    rw [Nat.sub_zero] at hs
    have hdl : (l.drop ((linesL l).getD (lineIx l x) 0)).length = l.length - (linesL l).getD (lineIx l x) 0 := List.length_drop
    have := unitsL_lt hs h (by omega)
    rw [List.drop_take, List.drop_take]
    exact this
theorem countP_step {L : List Nat} (hs : L.Pairwise (· < ·)) (k : Nat) : L.countP (fun x => decide (x < k + 1)) = L.countP (fun x => decide (x < k)) + if k ∈ L then 1 else 0 := by
  induction L with
  | nil => simp
  | cons x xs ih =>
    rw [List.pairwise_cons] at hs
    have ih := ih hs.2
    rw [List.countP_cons, List.countP_cons, ih]
    by_cases h1 : x = k
    · subst h1
      have : x ∉ xs := fun hx => by have := hs.1 x hx; omega
      simp [this]
    · have hm : (k ∈ x :: xs) ↔ k ∈ xs := by simp; intro e; exact absurd e.symm h1
      simp only [hm, decide_eq_true_eq]
      by_cases h2 : x < k
      · rw [if_pos (show x < k + 1 by omega), if_pos h2]; omega
      · rw [if_neg (show ¬ x < k + 1 by omega), if_neg h2]; omega
end Go.Proofs.Ytmonpnikdheokaa
