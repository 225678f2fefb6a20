/-
  The reference's composition, as plain data: it is sound, short, and its sources are in range.
-/
import Derived.Test.YtpncjgcdiomloaaEdN
namespace Go.Proofs.Ytpncjgcdiomloaa
open Go Go.Proofs
set_option linter.unusedVariables false
set_option linter.unusedSimpArgs false

theorem src_range {n : Nat} {es : List Ed} : ∀ {p : Nat}, Snd n p es → ∀ b ∈ srcL n p es, -1 ≤ b ∧ b < n := by
  induction es with
  | nil =>
    intro p h b hb
    simp only [srcL, List.mem_map, List.mem_range] at hb
    obtain ⟨j, hj, rfl⟩ := hb
    omega
  | cons e es ih =>
    intro p h b hb
    obtain ⟨h1, h2, h3, h4⟩ := h
    simp only [srcL, List.mem_append, List.mem_map, List.mem_range, List.mem_replicate] at hb
    rcases hb with (⟨j, hj, rfl⟩ | ⟨_, rfl⟩) | hb
    · omega
    · omega
    · exact ih h4 b hb
theorem refK_len (n : Nat) : ∀ (r : List (Int × UInt8)) (p : Nat) (x : List UInt8), (refK n p x r).length ≤ r.length + 1
  | [], p, x => by unfold refK; split <;> simp
  | (c, b) :: r, p, x => by
    unfold refK
    simp only
    split
    · have := refK_len n r p (x ++ [b]); simp only [List.length_cons]; omega
    · have := refK_len n r (c.toNat + 1) []
      rw [List.length_append]
      split <;> simp only [List.length_cons, List.length_nil] <;> omega
theorem refK_x (n : Nat) : ∀ (r : List (Int × UInt8)) (p : Nat) (x : List UInt8), ∀ e ∈ refK n p x r, e.x.length ≤ x.length + r.length
  | [], p, x, e, h => by
    unfold refK at h
    split at h
    · simp only [List.mem_singleton] at h; subst h; simp
    · simp at h
  | (c, b) :: r, p, x, e, h => by
    unfold refK at h
    simp only at h
    split at h
    · have := refK_x n r p (x ++ [b]) e h
      simp only [List.length_append, List.length_cons, List.length_nil] at this ⊢
      omega
    · rcases List.mem_append.1 h with h | h
      · split at h
        · simp only [List.mem_singleton] at h; subst h; simp
        · simp at h
      · have := refK_x n r _ [] e h
        simp only [List.length_nil, List.length_cons] at this ⊢
        omega
theorem refK_snd (n : Nat) : ∀ (r : List (Int × UInt8)) (p : Nat) (x : List UInt8), p ≤ n → (r.filter fun y => decide (0 ≤ y.1)).Pairwise (fun y z => y.1 < z.1) → (∀ y ∈ r, 0 ≤ y.1 → (p : Int) ≤ y.1 ∧ y.1 < n) → Snd n p (refK n p x r)
  | [], p, x, hp, _, _ => by
    unfold refK
    split
    · exact ⟨Int.le_refl _, by show (p : Int) ≤ n; omega, Int.le_refl _, by show n ≤ n; exact Nat.le_refl _⟩
    · exact hp
  | (c, b) :: r, p, x, hp, h, hr => by
    rw [List.filter_cons] at h
    unfold refK
    simp only
    by_cases hc : c < 0
    · rw [if_pos hc]
      rw [if_neg (by simp; omega)] at h
      exact refK_snd n r p _ hp h fun y hy => hr y (List.mem_cons_of_mem _ hy)
    · rw [if_neg hc]
      rw [if_pos (by simp; omega), List.pairwise_cons] at h
      have hpc := hr (c, b) (by simp) (by show 0 ≤ c; omega)
      simp only at hpc
      have ih := refK_snd n r (c.toNat + 1) [] (by omega) h.2 fun y hy h0 => by
        have h1 := h.1 y (by rw [List.mem_filter]; exact ⟨hy, by simpa using h0⟩)
        have h2 := hr y (List.mem_cons_of_mem _ hy) h0
        simp only at h1
        omega
      split
      · refine ⟨Int.le_refl _, hpc.1, by show c ≤ n; omega, ?_⟩
        exact ih.weak (by show c.toNat ≤ c.toNat + 1; omega)
      · exact ih.weak (by omega)
section
variable {s : List UInt8} {a b : List Ed}
theorem compS_range {A B : List Int} {n : Nat} (hA : ∀ c ∈ A, -1 ≤ c ∧ c < n) : ∀ c ∈ compS A B, -1 ≤ c ∧ (0 ≤ c → c < n) := by
  intro c hc
  unfold compS at hc
  obtain ⟨y, hy, rfl⟩ := List.mem_map.1 hc
  split
  · rw [List.getD_eq_getElem?_getD]
    cases h : A[y.toNat]? with
    | none => simp
    | some z => have := hA z (List.mem_of_getElem? h); simp; omega
  · omega
theorem compR_pair (ha : Snd s.length 0 a) (hb : Snd (applyL s 0 a).length 0 b) : (((compS (srcL s.length 0 a) (srcL (applyL s 0 a).length 0 b)).zip (applyL (applyL s 0 a) 0 b)).filter fun y => decide (0 ≤ y.1)).Pairwise (fun y z => y.1 < z.1) := by
  have h1 := comp_order ha hb
  rw [comp_pairs ha hb] at h1
  have h2 := kOf_firsts ((compS (srcL s.length 0 a) (srcL (applyL s 0 a).length 0 b)).zip (applyL (applyL s 0 a) 0 b)) 0
  have h3 : ((((compS (srcL s.length 0 a) (srcL (applyL s 0 a).length 0 b)).zip (applyL (applyL s 0 a) 0 b)).filter fun y => decide (0 ≤ y.1)).map (·.1)).Pairwise (· < ·) := by
    rw [h2, List.pairwise_map]
    exact h1.imp fun h => by have := h.1; omega
  rw [List.pairwise_map] at h3
  exact h3
theorem zip_mem {α β : Type} {x : List α} {y : List β} {z : α × β} (h : z ∈ x.zip y) : z.1 ∈ x := (List.of_mem_zip h).1
theorem compR_facts (ha : Snd s.length 0 a) (hb : Snd (applyL s 0 a).length 0 b) : Snd s.length 0 (compR s a b) ∧ (compR s a b).length ≤ (applyL (applyL s 0 a) 0 b).length + 1 ∧ ∀ e ∈ compR s a b, e.x.length ≤ (applyL (applyL s 0 a) 0 b).length := by
  have hl : ((compS (srcL s.length 0 a) (srcL (applyL s 0 a).length 0 b)).zip (applyL (applyL s 0 a) 0 b)).length = (applyL (applyL s 0 a) 0 b).length := by
    rw [List.length_zip, comp_len hb]; omega
  refine ⟨?_, ?_, fun e he => ?_⟩
  · refine refK_snd _ _ _ _ (Nat.zero_le _) (compR_pair ha hb) fun y hy h0 => ?_
    have := compS_range (B := srcL (applyL s 0 a).length 0 b) (src_range ha) y.1 (zip_mem hy)
    exact ⟨by omega, this.2 h0⟩
  · have := refK_len s.length ((compS (srcL s.length 0 a) (srcL (applyL s 0 a).length 0 b)).zip (applyL (applyL s 0 a) 0 b)) 0 []
    rw [hl] at this
    exact this
  · have := refK_x s.length _ 0 [] e he
    rw [hl] at this
    simpa using this
end
end Go.Proofs.Ytpncjgcdiomloaa
