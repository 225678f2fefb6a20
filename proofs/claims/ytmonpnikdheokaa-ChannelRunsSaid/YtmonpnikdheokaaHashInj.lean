/-
  What the sums tell apart: one word, one group, one byte of the label; pairs. No program in sight.
-/
import Derived.Test.YtmonpnikdheokaaHashIter
namespace Go.Proofs.Ytmonpnikdheokaa
open Go Go.Proofs
open Go.RowKit

theorem foldM_inj (l : List Int) : ∀ {s s' : Int}, 0 ≤ s → s ≤ 18446744073709551615 → 0 ≤ s' → s' ≤ 18446744073709551615 → (l.foldl mixI s = l.foldl mixI s' ↔ s = s') := by
  induction l with
  | nil => intro s s' _ _ _ _; exact Iff.rfl
  | cons x l ih =>
    intro s s' h1 h2 h3 h4
    simp only [List.foldl_cons]
    rw [ih (mixI_lo _ _) (mixI_hi _ _) (mixI_lo _ _) (mixI_hi _ _), mixI_state h1 h2 h3 h4]
theorem sumI_eq (label : List UInt8) (l l' : List Int) (h : l.length = l'.length) :
    sumI label l = sumI label l' ↔ l.foldl mixI (mixI (mixI (foldW 0 (wordsN label)) label.length) l.length) = l'.foldl mixI (mixI (mixI (foldW 0 (wordsN label)) label.length) l.length) := by
  unfold sumI
  rw [← h]
  exact mixI_state (foldM_lo _ _ (mixI_lo _ _)) (foldM_hi _ _ (mixI_hi _ _)) (foldM_lo _ _ (mixI_lo _ _)) (foldM_hi _ _ (mixI_hi _ _))
/-- One element differs. -/
theorem sumI_one (label : List UInt8) (p q : List Int) (x y : Int) :
    sumI label (p ++ x :: q) = sumI label (p ++ y :: q) ↔ x % 18446744073709551616 = y % 18446744073709551616 := by
  rw [sumI_eq _ _ _ (by simp)]
  simp only [List.foldl_append, List.foldl_cons]
  rw [foldM_inj _ (mixI_lo _ _) (mixI_hi _ _) (mixI_lo _ _) (mixI_hi _ _), mixI_word]
theorem split_at {α : Type} (l : List α) {k : Nat} (h : k < l.length) : l = l.take k ++ l[k] :: l.drop (k + 1) := by
  rw [← List.drop_eq_getElem_cons h, List.take_append_drop]
theorem set_split {α : Type} (l : List α) {k : Nat} (h : k < l.length) (v : α) : l.set k v = l.take k ++ v :: l.drop (k + 1) := by
  rw [List.set_eq_take_append_cons_drop, if_pos h]
theorem sumI_set (label : List UInt8) (l : List Int) {k : Nat} (h : k < l.length) (v : Int) :
    sumI label l = sumI label (l.set k v) ↔ l[k] % 18446744073709551616 = v % 18446744073709551616 := by
  rw [set_split l h v]
  conv => lhs; lhs; rw [split_at l h]
  exact sumI_one _ _ _ _ _

theorem wordI_mod (x : Nat) (h : x ≤ 18446744073709551615) : wordI x % 18446744073709551616 = (x : Int) := by unfold wordI wrap64; omega

/-- Two byte strings of one length that agree but for one group: so do their words. -/
theorem words_out {x y : List UInt8} {j : Nat} (hout : ∀ i, i / 8 ≠ j → x[i]? = y[i]?) (i : Nat) (hi : i ≠ j) : wordN x i = wordN y i := by
  unfold wordN
  congr 1
  apply List.ext_getElem?
  intro n
  simp only [List.getElem?_take, List.getElem?_drop]
  split
  · exact hout _ (by omega)
  · rfl
theorem words_set {x y : List UInt8} {j : Nat} (hl : x.length = y.length) (hout : ∀ i, i / 8 ≠ j → x[i]? = y[i]?) (hj : j < (wordsN x).length) : wordsN y = (wordsN x).set j (wordN y j) := by
  have hlw : (wordsN x).length = (wordsN y).length := by rw [wordsN_length, wordsN_length, hl]
  apply List.ext_getElem?
  intro n
  rw [List.getElem?_set]
  by_cases hn : j = n
  · subst hn
    rw [if_pos rfl, if_pos hj, List.getElem?_eq_getElem (by omega)]
    simp [wordsN]
  · rw [if_neg hn]
    by_cases hn2 : n < (wordsN x).length
    · rw [List.getElem?_eq_getElem (by omega), List.getElem?_eq_getElem hn2]
      simp only [wordsN, List.getElem_map, List.getElem_range]
      rw [words_out hout n (fun e => hn e.symm)]
    · rw [List.getElem?_eq_none (by omega), List.getElem?_eq_none (by omega)]
theorem same_of_word {x y : List UInt8} {j : Nat} (hl : x.length = y.length) (hout : ∀ i, i / 8 ≠ j → x[i]? = y[i]?) (hwj : wordN x j = wordN y j) : x = y := by
  have hchunk : (x.drop (8 * j)).take 8 = (y.drop (8 * j)).take 8 := leN_inj (by simp [hl]) hwj
  apply List.ext_getElem?
  intro i
  by_cases hi : i / 8 = j
  · have := congrArg (fun l : List UInt8 => l[i - 8 * j]?) hchunk
    simp only [List.getElem?_take, List.getElem?_drop] at this
    rw [if_pos (by omega), if_pos (by omega), show 8 * j + (i - 8 * j) = i from by omega] at this
    exact this
  · exact hout i hi
theorem same_of_short {x y : List UInt8} {j : Nat} (hl : x.length = y.length) (hout : ∀ i, i / 8 ≠ j → x[i]? = y[i]?) (hj : ¬ j < (wordsN x).length) : x = y := by
  rw [wordsN_length] at hj
  apply List.ext_getElem?
  intro i
  by_cases hi : i / 8 = j
  · rw [List.getElem?_eq_none (by omega), List.getElem?_eq_none (by omega)]
  · exact hout i hi
theorem words_get (x : List UInt8) {j : Nat} (hj : j < (wordsN x).length) : (wordsN x)[j] = wordN x j := by simp [wordsN]

theorem sumI_words (label : List UInt8) (ws : List Nat) (n : Int) {j : Nat} (hj : j < ws.length) (v : Nat) (h1 : ws[j] ≤ 18446744073709551615) (h2 : v ≤ 18446744073709551615)
    (h : sumI label (ws.map wordI ++ [n]) = sumI label ((ws.set j v).map wordI ++ [n])) : ws[j] = v := by
  rw [set_split ws hj] at h
  conv at h => lhs; rw [split_at ws hj]
  simp only [List.map_append, List.map_cons, List.append_assoc, List.cons_append] at h
  have h' := (sumI_one _ _ _ _ _).1 h
  rw [wordI_mod _ h1, wordI_mod _ h2] at h'
  exact Int.ofNat.inj h'

theorem bytesI_group (label x y : List UInt8) (j : Nat) (hl : x.length = y.length) (hout : ∀ i, i / 8 ≠ j → x[i]? = y[i]?) :
    bytesI label x = bytesI label y ↔ x = y := by
  constructor
  · intro h
    by_cases hj : j < (wordsN x).length
    · unfold bytesI at h
      rw [words_set hl hout hj, ← hl] at h
      have hw := sumI_words label (wordsN x) x.length hj (wordN y j) (wordsN_le _ _ (List.getElem_mem hj)) (wordN_le _ _) h
      exact same_of_word hl hout (by rw [← hw]; exact (words_get x hj).symm)
    · exact same_of_short hl hout hj
  · intro h; rw [h]

theorem foldW_inj (l : List Nat) : ∀ {s s' : Int}, 0 ≤ s → s ≤ 18446744073709551615 → 0 ≤ s' → s' ≤ 18446744073709551615 → (foldW s l = foldW s' l ↔ s = s') := by
  induction l with
  | nil => intro s s' _ _ _ _; exact Iff.rfl
  | cons x l ih =>
    intro s s' h1 h2 h3 h4
    show foldW (mixI s x) l = foldW (mixI s' x) l ↔ _
    rw [ih (mixI_lo _ _) (mixI_hi _ _) (mixI_lo _ _) (mixI_hi _ _), mixI_state h1 h2 h3 h4]
theorem foldW_append (s : Int) (l l' : List Nat) : foldW s (l ++ l') = foldW (foldW s l) l' := by simp [foldW]
theorem foldW_one (p q : List Nat) (x y : Nat) (hx : x ≤ 18446744073709551615) (hy : y ≤ 18446744073709551615) : foldW 0 (p ++ x :: q) = foldW 0 (p ++ y :: q) ↔ x = y := by
  rw [foldW_append, foldW_append]
  show foldW (mixI _ x) q = foldW (mixI _ y) q ↔ _
  rw [foldW_inj _ (mixI_lo _ _) (mixI_hi _ _) (mixI_lo _ _) (mixI_hi _ _), mixI_word]
  omega

/-- Two labels of one length that agree but for one group. -/
theorem sumI_label (x y : List UInt8) (l : List Int) (j : Nat) (hl : x.length = y.length) (hout : ∀ i, i / 8 ≠ j → x[i]? = y[i]?) :
    sumI x l = sumI y l ↔ x = y := by
  constructor
  · intro h
    unfold sumI at h
    rw [mixI_state (foldM_lo _ _ (mixI_lo _ _)) (foldM_hi _ _ (mixI_hi _ _)) (foldM_lo _ _ (mixI_lo _ _)) (foldM_hi _ _ (mixI_hi _ _)),
      foldM_inj _ (mixI_lo _ _) (mixI_hi _ _) (mixI_lo _ _) (mixI_hi _ _), mixI_state (mixI_lo _ _) (mixI_hi _ _) (mixI_lo _ _) (mixI_hi _ _), hl,
      mixI_state (foldW_lo _) (foldW_hi _) (foldW_lo _) (foldW_hi _)] at h
    by_cases hj : j < (wordsN x).length
    · rw [words_set hl hout hj, set_split _ hj] at h
      conv at h => lhs; rw [split_at (wordsN x) hj]
      rw [foldW_one _ _ _ _ (wordsN_le _ _ (List.getElem_mem hj)) (wordN_le _ _)] at h
      exact same_of_word hl hout (by rw [← h]; exact (words_get x hj).symm)
    · exact same_of_short hl hout hj
  · intro h; rw [h]

/-- A zero byte behind a slice whose length is no multiple of 8: the words stay, the hash differs. -/
theorem wordsN_zero (x : List UInt8) (h : x.length % 8 ≠ 0) : wordsN (x ++ [0]) = wordsN x := by
  have hl : ((x ++ [0]).length + 7) / 8 = (x.length + 7) / 8 := by simp; omega
  unfold wordsN
  rw [hl]
  refine List.map_congr_left fun j hj => ?_
  have hj' : j < (x.length + 7) / 8 := by simpa using hj
  unfold wordN
  by_cases hfull : 8 * j + 8 ≤ x.length
  · congr 1
    rw [List.drop_append_of_le_length (by omega), List.take_append_of_le_length (by simp; omega)]
  · have e1 : ((x ++ [0]).drop (8 * j)).take 8 = x.drop (8 * j) ++ [0] := by
      rw [List.drop_append_of_le_length (by omega), List.take_of_length_le (by simp; omega)]
    have e2 : (x.drop (8 * j)).take 8 = x.drop (8 * j) := List.take_of_length_le (by simp; omega)
    rw [e1, e2, leN_snoc]
    simp
theorem bytesI_zero (label x : List UInt8) (h : x.length % 8 ≠ 0) (_hl : x.length ≤ 1000000000) : bytesI label (x ++ [0]) ≠ bytesI label x := by
  intro e
  unfold bytesI at e
  rw [wordsN_zero x h] at e
  have := (sumI_one label _ [] _ _).1 e
  simp at this
  omega

theorem pairI_left (a b c : Int) (ha : 0 ≤ a ∧ a ≤ 18446744073709551615) (hb : 0 ≤ b ∧ b ≤ 18446744073709551615) : pairI a c = pairI b c ↔ a = b := by
  unfold pairI
  rw [show [wrap64 a, wrap64 c] = [] ++ wrap64 a :: [wrap64 c] from rfl, show [wrap64 b, wrap64 c] = [] ++ wrap64 b :: [wrap64 c] from rfl, sumI_one]
  unfold wrap64
  omega
theorem pairI_right (a b c : Int) (ha : 0 ≤ a ∧ a ≤ 18446744073709551615) (hb : 0 ≤ b ∧ b ≤ 18446744073709551615) : pairI c a = pairI c b ↔ a = b := by
  unfold pairI
  rw [show [wrap64 c, wrap64 a] = [wrap64 c] ++ wrap64 a :: [] from rfl, show [wrap64 c, wrap64 b] = [wrap64 c] ++ wrap64 b :: [] from rfl, sumI_one]
  unfold wrap64
  omega
end Go.Proofs.Ytmonpnikdheokaa
