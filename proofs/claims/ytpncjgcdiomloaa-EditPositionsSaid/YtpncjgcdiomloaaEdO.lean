/-
  The plain law of offsets behind edits, and of the difference of two texts. No program in sight.
-/
import Derived.Test.YtpncjgcdiomloaaEdM
namespace Go.Proofs.Ytpncjgcdiomloaa
open Go Go.Proofs
set_option linter.unusedVariables false
set_option linter.unusedSimpArgs false

theorem map_add (off : Int) (after : Bool) (es : List Ed) (out d : Int) : mapL off after (out + d) es = mapL off after out es + d := by
  induction es generalizing out with
  | nil => rfl
  | cons e es ih =>
    unfold mapL
    split
    · rw [show out + d + growE e = out + growE e + d by omega]; exact ih _
    · split
      · split <;> omega
      · split
        · rw [show out + d + (e.x.length : Int) = out + e.x.length + d by omega]; exact ih _
        · exact ih _
/-- The image of an offset, counted from the place where the edits begin. -/
def imgL (p : Int) (after : Bool) (es : List Ed) : Int := mapL p after p es
theorem img_low {n r : Nat} {es : List Ed} (p out : Int) (after : Bool) (h : Snd n r es) (hp : p < r) : mapL p after out es = out := by
  induction es generalizing r with
  | nil => rfl
  | cons e es ih =>
    obtain ⟨h1, h2, h3, h4⟩ := h
    unfold mapL
    rw [if_neg (by omega), if_neg (by omega), if_neg (by omega)]
    exact ih h4 (by omega)
theorem img_one {n q : Nat} {e : Ed} {es : List Ed} (p : Int) (after : Bool) (h : Snd n q (e :: es)) : imgL p after (e :: es) =
    if e.t < p ∨ (e.t = p ∧ e.f < e.t) then imgL p after es + growE e else if e.f < p then (if after then e.f + e.x.length else e.f)
      else if e.t = p then imgL p after es + (if after then (e.x.length : Int) else 0) else p := by
  obtain ⟨h1, h2, h3, h4⟩ := h
  unfold imgL
  rw [mapL]
  split
  · rw [map_add]
  · split
    · split <;> omega
    · by_cases c : e.t = p
      · rw [if_pos c]
        cases after
        · rw [if_neg (by simp)]; simp
        · rw [if_pos ⟨c, rfl⟩, map_add]; rfl
      · rw [if_neg (fun x => c x.1), if_neg c]
        exact img_low p p after h4 (by omega)
theorem grow_lo {n : Nat} {es : List Ed} : ∀ {q : Nat}, Snd n q es → (q : Int) ≤ n + growL es := by
  induction es with
  | nil => intro q h; have := h.le; simp only [growL]; omega
  | cons e es ih =>
    intro q h
    obtain ⟨h1, h2, h3, h4⟩ := h
    have := ih h4
    simp only [growL, growE]
    omega
theorem img_bounds {n : Nat} {es : List Ed} : ∀ {q : Nat} {p : Int}, Snd n q es → q ≤ p → p ≤ n → (q : Int) ≤ imgL p false es ∧ imgL p false es ≤ imgL p true es ∧ imgL p true es ≤ n + growL es := by
  induction es with
  | nil => intro q p h h1 h2; simp only [imgL, mapL, growL]; omega
  | cons e es ih =>
    intro q p h hq hp
    have hg := grow_lo h.2.2.2
    rw [img_one p false h, img_one p true h]
    obtain ⟨h1, h2, h3, h4⟩ := h
    simp only [growL, growE] at *
    by_cases c1 : e.t < p ∨ (e.t = p ∧ e.f < e.t)
    · rw [if_pos c1, if_pos c1]
      have := ih (p := p) h4 (by omega) hp
      omega
    · rw [if_neg c1, if_neg c1]
      by_cases c2 : e.f < p
      · rw [if_pos c2, if_pos c2]; simp; omega
      · rw [if_neg c2, if_neg c2]
        by_cases c3 : e.t = p
        · rw [if_pos c3, if_pos c3]
          have := ih (p := p) h4 (by omega) hp
          simp
          omega
        · rw [if_neg c3, if_neg c3]; omega
theorem img_mono {n : Nat} {es : List Ed} : ∀ {q : Nat} {p p' : Int} (after : Bool), Snd n q es → q ≤ p → p < p' → p' ≤ n → imgL p after es ≤ imgL p' after es := by
  induction es with
  | nil => intro q p p' after h h1 h2 h3; simp only [imgL, mapL]; omega
  | cons e es ih =>
    intro q p p' after h hq hp hn
    rw [img_one p after h, img_one p' after h]
    obtain ⟨h1, h2, h3, h4⟩ := h
    have hx : 0 ≤ (if after then (e.x.length : Int) else 0) ∧ (if after then (e.x.length : Int) else 0) ≤ e.x.length := by split <;> omega
    have hy : (if after then e.f + (e.x.length : Int) else e.f) = e.f + (if after then (e.x.length : Int) else 0) := by split <;> omega
    rw [hy]
    generalize (if after then (e.x.length : Int) else 0) = y at *
    have hb : ∀ p : Int, e.t ≤ p → p ≤ n → e.t ≤ imgL p after es := by
      intro p h5 h6
      have := img_bounds (p := p) h4 (by omega) h6
      cases after <;> omega
    unfold growE
    by_cases c1 : e.t < p ∨ (e.t = p ∧ e.f < e.t)
    · rw [if_pos c1, if_pos (by omega)]
      have := ih (p := p) (p' := p') after h4 (by omega) hp hn
      omega
    · rw [if_neg c1]
      by_cases c2 : e.f < p
      · rw [if_pos c2]
        by_cases d1 : e.t < p' ∨ (e.t = p' ∧ e.f < e.t)
        · rw [if_pos d1]
          have := hb p' (by omega) hn
          omega
        · rw [if_neg d1, if_pos (by omega)]; omega
      · rw [if_neg c2]
        by_cases c3 : e.t = p
        · rw [if_pos c3, if_pos (by omega)]
          have := ih (p := p) (p' := p') after h4 (by omega) hp hn
          omega
        · rw [if_neg c3]
          by_cases d1 : e.t < p' ∨ (e.t = p' ∧ e.f < e.t)
          · rw [if_pos d1]
            have := hb p' (by omega) hn
            omega
          · rw [if_neg d1]
            by_cases d2 : e.f < p'
            · rw [if_pos d2]; omega
            · rw [if_neg d2]
              by_cases d3 : e.t = p'
              · rw [if_pos d3]
                have := hb p' (by omega) hn
                omega
              · rw [if_neg d3]; omega
/-- A byte that no edit replaces is found at its image. -/
theorem img_kept {s : List UInt8} {es : List Ed} : ∀ {q p : Nat}, Snd s.length q es → q ≤ p → p < s.length → (∀ e ∈ es, ¬ (e.f ≤ p ∧ (p : Int) < e.t)) → (applyL s q es)[(imgL p true es).toNat - q]? = s[p]? := by
  induction es with
  | nil =>
    intro q p h hq hp _
    simp only [imgL, mapL, applyL, List.getElem?_drop, Int.toNat_natCast]
    congr 1; omega
  | cons e es ih =>
    intro q p h hq hp hk
    rw [img_one p true h]
    obtain ⟨h1, h2, h3, h4⟩ := h
    have hc := cutL_len (s := s) (a := q) (b := e.f.toNat) (by omega) (by omega)
    have hke := hk e (by simp)
    have hr := fun hle => ih (q := e.t.toNat) (p := p) h4 hle hp fun x hx => hk x (List.mem_cons_of_mem _ hx)
    simp only [applyL]
    by_cases c1 : e.t < p ∨ (e.t = (p : Int) ∧ e.f < e.t)
    · rw [if_pos c1, ← hr (by omega), List.getElem?_append_right (by simp only [List.length_append, hc]; have := (img_bounds (p := (p : Int)) h4 (by omega) (by omega)); unfold growE; omega)]
      congr 1
      have := (img_bounds (p := (p : Int)) h4 (by omega) (by omega))
      simp only [List.length_append, hc, growE]
      omega
    · rw [if_neg c1]
      by_cases c2 : e.f < p
      · omega
      · rw [if_neg c2]
        by_cases c3 : e.t = p
        · rw [if_pos c3, ← hr (by omega), List.getElem?_append_right (by simp only [List.length_append, hc]; have := (img_bounds (p := (p : Int)) h4 (by omega) (by omega)); simp; omega)]
          congr 1
          have := (img_bounds (p := (p : Int)) h4 (by omega) (by omega))
          simp only [List.length_append, hc, if_true]
          omega
        · rw [if_neg c3, Int.toNat_natCast, List.append_assoc, List.getElem?_append_left (by omega)]
          unfold cutL
          rw [List.getElem?_take_of_lt (by omega), List.getElem?_drop]
          congr 1; omega
theorem map_zero {n q : Nat} {es : List Ed} (p out : Int) (h : Snd n q es) (hp : p ≤ q) : mapL p false out es = out := by
  induction es generalizing q with
  | nil => rfl
  | cons e es ih =>
    obtain ⟨h1, h2, h3, h4⟩ := h
    unfold mapL
    rw [if_neg (by omega), if_neg (by omega), if_neg (by simp)]
    exact ih h4 (by omega)
theorem map_end {n q : Nat} {es : List Ed} (out : Int) (h : Snd n q es) : mapL n true out es = out + growL es := by
  induction es generalizing q out with
  | nil => simp [mapL, growL]
  | cons e es ih =>
    obtain ⟨h1, h2, h3, h4⟩ := h
    unfold mapL
    by_cases c : e.t < (n : Int) ∨ (e.t = n ∧ e.f < e.t)
    · rw [if_pos c, ih _ h4]; simp only [growL]; omega
    · rw [if_neg c, if_neg (by omega), if_pos ⟨by omega, rfl⟩, ih _ h4]; simp only [growL, growE]; omega

/-! ### The difference -/
theorem suf_le (a b : List UInt8) : sufL a b + preL a b ≤ a.length ∧ sufL a b + preL a b ≤ b.length := by
  unfold sufL preL
  have h1 := lcp_le a b
  have h2 := lcp_le ((a.drop (lcpL a b)).reverse) ((b.drop (lcpL a b)).reverse)
  simp only [List.length_reverse, List.length_drop] at h2
  omega
theorem take_rev {l : List UInt8} {q : Nat} (h : q ≤ l.length) : l.reverse.take q = (l.drop (l.length - q)).reverse := by
  rw [List.take_reverse]
theorem suf_eq (a b : List UInt8) : a.drop (a.length - sufL a b) = b.drop (b.length - sufL a b) := by
  have hle := suf_le a b
  have h1 := lcp_take ((a.drop (lcpL a b)).reverse) ((b.drop (lcpL a b)).reverse)
  have h0 : lcpL ((a.drop (lcpL a b)).reverse) ((b.drop (lcpL a b)).reverse) = sufL a b := rfl
  have hp : lcpL a b = preL a b := rfl
  rw [h0, hp, List.take_reverse, List.take_reverse, List.reverse_inj, List.drop_drop, List.drop_drop] at h1
  simp only [List.length_drop] at h1
  rw [show preL a b + (a.length - preL a b - sufL a b) = a.length - sufL a b by omega, show preL a b + (b.length - preL a b - sufL a b) = b.length - sufL a b by omega] at h1
  exact h1
theorem diff_snd (a b : List UInt8) : Snd a.length 0 (diffL a b) := by
  have h := suf_le a b
  unfold diffL
  split
  · exact Nat.zero_le _
  · exact ⟨by show ((0 : Nat) : Int) ≤ (preL a b : Int); omega, by show (preL a b : Int) ≤ (a.length : Int) - sufL a b; omega, by show (a.length : Int) - sufL a b ≤ a.length; omega, by show ((a.length : Int) - sufL a b).toNat ≤ a.length; omega⟩
theorem diff_apply (a b : List UInt8) : applyL a 0 (diffL a b) = b := by
  have h := suf_le a b
  unfold diffL
  split
  · rename_i e; simp [applyL, e]
  · simp only [applyL]
    rw [show ((a.length : Int) - sufL a b).toNat = a.length - sufL a b by omega, suf_eq a b, Int.toNat_natCast, List.append_assoc, cutL_drop (by omega)]
    have : cutL a 0 (preL a b) = b.take (preL a b) := by
      unfold cutL
      rw [List.drop_zero, Nat.sub_zero]
      exact lcp_take a b
    rw [this, List.take_append_drop]
theorem diff_ne {a b : List UInt8} (h : a ≠ b) : cutL a (preL a b) (a.length - sufL a b) ≠ cutL b (preL a b) (b.length - sufL a b) := by
  intro e
  have hle := suf_le a b
  apply h
  have h1 := cutL_drop (s := a) (a := preL a b) (b := a.length - sufL a b) (by omega)
  have h2 := cutL_drop (s := b) (a := preL a b) (b := b.length - sufL a b) (by omega)
  rw [e, suf_eq a b, h2] at h1
  have h3 : a.take (preL a b) = b.take (preL a b) := lcp_take a b
  have h4 := List.take_append_drop (preL a b) a
  have h5 := List.take_append_drop (preL a b) b
  generalize preL a b = k at h1 h3 h4 h5
  rw [← h4, ← h5, h3, h1]
theorem diff_first {a b : List UInt8} (h1 : preL a b < a.length) (h2 : preL a b < b.length) : a[preL a b] ≠ b[preL a b] := lcp_next h1 h2
theorem lcp_next' {a b : List UInt8} {k : Nat} (hk : lcpL a b = k) (h1 : k < a.length) (h2 : k < b.length) : a[k] ≠ b[k] := by subst hk; exact lcp_next h1 h2
theorem diff_last {a b : List UInt8} (h1 : preL a b + sufL a b < a.length) (h2 : preL a b + sufL a b < b.length) : a[a.length - sufL a b - 1] ≠ b[b.length - sufL a b - 1] := by
  have e1 : sufL a b < ((a.drop (preL a b)).reverse).length := by simp; omega
  have e2 : sufL a b < ((b.drop (preL a b)).reverse).length := by simp; omega
  have h := lcp_next' (a := (a.drop (preL a b)).reverse) (b := (b.drop (preL a b)).reverse) (k := sufL a b) rfl e1 e2
  intro e
  apply h
  rw [List.getElem_reverse, List.getElem_reverse, List.getElem_drop, List.getElem_drop]
  have x1 : preL a b + ((a.drop (preL a b)).length - 1 - sufL a b) = a.length - sufL a b - 1 := by simp only [List.length_drop]; omega
  have x2 : preL a b + ((b.drop (preL a b)).length - 1 - sufL a b) = b.length - sufL a b - 1 := by simp only [List.length_drop]; omega
  simp only [x1, x2]
  exact e
end Go.Proofs.Ytpncjgcdiomloaa
