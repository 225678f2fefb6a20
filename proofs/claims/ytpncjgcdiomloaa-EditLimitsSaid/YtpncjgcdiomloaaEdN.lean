/-
  The plain law of composition, finished: the same normal form, the same text, few edits, and the way back. No program in sight.
-/
import Derived.Test.YtpncjgcdiomloaaEdK
namespace Go.Proofs.Ytpncjgcdiomloaa
open Go Go.Proofs
set_option linter.unusedVariables false
set_option linter.unusedSimpArgs false

theorem kOf_firsts : ∀ (r : List (Int × UInt8)) (i : Nat), (r.filter fun y => decide (0 ≤ y.1)).map (·.1) = (kOf i r).map fun x => (x.1 : Int)
  | [], i => rfl
  | (c, b) :: r, i => by
    have ih := kOf_firsts r (i + 1)
    unfold kOf
    rw [List.filter_cons]
    by_cases hc : c < 0
    · rw [if_neg (by simp; omega), if_pos hc, ih]
    · rw [if_pos (by simp; omega), if_neg hc, List.map_cons, List.map_cons, ih]
      congr 1
      simp only
      omega
section
variable {s : List UInt8} {a b : List Ed}
theorem comp_order (ha : Snd s.length 0 a) (hb : Snd (applyL s 0 a).length 0 b) : ((bothL (partsL s.length 0 0 a) (partsL (applyL s 0 a).length 0 0 b)).flatMap expP).Pairwise Lt2 :=
  flat_order (both_order (parts_order ha) (parts_order hb))
theorem compP_gap (ha : Snd s.length 0 a) (hb : Snd (applyL s 0 a).length 0 b) : (compP s a b).Pairwise Gap :=
  gapsP_gap _ _ _ _ _ (both_order (parts_order ha) (parts_order hb)) both_pos
theorem compR_gap (ha : Snd s.length 0 a) (hb : Snd (applyL s 0 a).length 0 b) : (compR s a b).Pairwise Gap := by
  refine refK_gap _ _ _ _ ?_
  have h1 := comp_order ha hb
  rw [comp_pairs ha hb] at h1
  have h2 := kOf_firsts ((compS (srcL s.length 0 a) (srcL (applyL s 0 a).length 0 b)).zip (applyL (applyL s 0 a) 0 b)) 0
  have h3 : ((((compS (srcL s.length 0 a) (srcL (applyL s 0 a).length 0 b)).zip (applyL (applyL s 0 a) 0 b)).filter fun y => decide (0 ≤ y.1)).map (·.1)).Pairwise (· < ·) := by
    rw [h2, List.pairwise_map]
    exact h1.imp fun h => by have := h.1; omega
  rw [List.pairwise_map] at h3
  exact h3
/-- Both ways have the same normal form. -/
theorem comp_norm (ha : Snd s.length 0 a) (hb : Snd (applyL s 0 a).length 0 b) : normL s (compP s a b) = normL s (compR s a b) := by
  unfold normL
  rw [joinL_apart (compP_gap ha hb), joinL_apart (compR_gap ha hb)]
  exact comp_filter ha hb
end

/-! ### The composed list is sound and leads to the same text -/
theorem gapsK_snd (n : Nat) (u : List UInt8) : ∀ (K : List (Nat × Nat)) (old p : Nat), K.Pairwise Lt2 → (∀ x ∈ K, old ≤ x.1 ∧ x.1 < n) → old ≤ n → Snd n old (gapsK n u old p K)
  | [], old, p, _, _, h => ⟨Int.le_refl _, by show (old : Int) ≤ n; omega, Int.le_refl _, by show ((n : Int)).toNat ≤ n; omega⟩
  | x :: K, old, p, h, hx, hn => by
    rw [List.pairwise_cons] at h
    have h1 := hx x (by simp)
    unfold gapsK
    refine ⟨Int.le_refl _, by show (old : Int) ≤ x.1; omega, by show (x.1 : Int) ≤ n; omega, ?_⟩
    refine Snd.weak (p := x.1 + 1) (gapsK_snd n u K (x.1 + 1) (x.2 + 1) h.2 (fun y hy => ?_) (by omega)) (by simp)
    have := (h.1 y hy).1
    have := hx y (List.mem_cons_of_mem _ hy)
    omega
theorem gapsP_snd (n : Nat) (u : List UInt8) : ∀ (Rs : List Prt) (old p : Nat), Rs.Pairwise Before → (∀ R ∈ Rs, old ≤ R.1 ∧ R.1 + R.2.2 ≤ n) → old ≤ n → Snd n old (gapsP n u old p Rs)
  | [], old, p, _, _, h => ⟨Int.le_refl _, by show (old : Int) ≤ n; omega, Int.le_refl _, by show ((n : Int)).toNat ≤ n; omega⟩
  | R :: Rs, old, p, h, hx, hn => by
    rw [List.pairwise_cons] at h
    have h1 := hx R (by simp)
    unfold gapsP
    refine ⟨Int.le_refl _, by show (old : Int) ≤ R.1; omega, by show (R.1 : Int) ≤ n; omega, ?_⟩
    refine Snd.weak (p := R.1 + R.2.2) (gapsP_snd n u Rs (R.1 + R.2.2) (R.2.1 + R.2.2) h.2 (fun Q hQ => ?_) (by omega)) (by simp)
    have := (h.1 Q hQ).1
    have := hx Q (List.mem_cons_of_mem _ hQ)
    omega
theorem gapsK_apply (s u : List UInt8) : ∀ (K : List (Nat × Nat)) (q old p : Nat), K.Pairwise Lt2 → (∀ x ∈ K, old ≤ x.1 ∧ p ≤ x.2 ∧ x.1 < s.length ∧ u[x.2]? = s[x.1]?) → q ≤ old → old ≤ s.length → applyL s q (gapsK s.length u old p K) = cutL s q old ++ u.drop p
  | [], q, old, p, _, _, hq, ho => by simp [gapsK, applyL]
  | (o, m) :: K, q, old, p, h, hx, hq, ho => by
    rw [List.pairwise_cons] at h
    obtain ⟨h1, h2, h3, h4⟩ := hx (o, m) (by simp)
    simp only at h1 h2 h3 h4
    have ih := gapsK_apply s u K o (o + 1) (m + 1) h.2 (fun y hy => ?_) (by omega) (by omega)
    · unfold gapsK
      simp only [applyL, Int.toNat_natCast]
      rw [ih, List.append_assoc]
      congr 1
      have hm : m < u.length := by
        rw [List.getElem?_eq_getElem h3] at h4
        exact (List.getElem?_eq_some_iff.1 h4).1
      have e1 : cutL s o (o + 1) = [u[m]] := by
        unfold cutL
        rw [show o + 1 - o = 1 by omega, List.drop_eq_getElem_cons h3]
        rw [List.getElem?_eq_getElem h3, List.getElem?_eq_getElem hm, Option.some.injEq] at h4
        rw [h4]
        rfl
      rw [e1, List.singleton_append, ← List.drop_eq_getElem_cons hm]
      exact cutL_drop h2
    · have h5 := h.1 y hy
      unfold Lt2 at h5
      have h6 := hx y (List.mem_cons_of_mem _ hy)
      simp only at h5
      exact ⟨by omega, by omega, h6.2.2.1, h6.2.2.2⟩
section
variable {s : List UInt8} {a b : List Ed}
theorem both_in (ha : Snd s.length 0 a) (hb : Snd (applyL s 0 a).length 0 b) : ∀ R ∈ bothL (partsL s.length 0 0 a) (partsL (applyL s 0 a).length 0 0 b), 0 ≤ R.1 ∧ R.1 + R.2.2 ≤ s.length := by
  intro R hR
  unfold bothL at hR
  simp only [List.mem_flatMap, List.mem_filter, List.mem_map, decide_eq_true_eq] at hR
  obtain ⟨P, hP, ⟨Q, hQ, rfl⟩, hp⟩ := hR
  have := parts_ge ha P hP
  unfold capP at hp ⊢
  simp only at hp ⊢
  omega
theorem compP_snd (ha : Snd s.length 0 a) (hb : Snd (applyL s 0 a).length 0 b) : Snd s.length 0 (compP s a b) :=
  gapsP_snd _ _ _ _ _ (both_order (parts_order ha) (parts_order hb)) (both_in ha hb) (Nat.zero_le _)
theorem comp_byte (ha : Snd s.length 0 a) (hb : Snd (applyL s 0 a).length 0 b) : ∀ x ∈ (bothL (partsL s.length 0 0 a) (partsL (applyL s 0 a).length 0 0 b)).flatMap expP,
    0 ≤ x.1 ∧ 0 ≤ x.2 ∧ x.1 < s.length ∧ (applyL (applyL s 0 a) 0 b)[x.2]? = s[x.1]? := by
  rintro ⟨o, n⟩ hx
  obtain ⟨m, h1, h2⟩ := mem_both.1 hx
  have h3 := pair_byte ha (q := 0) h1
  have h4 := pair_byte hb (q := 0) h2
  rw [Nat.sub_zero] at h3 h4
  exact ⟨Nat.zero_le _, Nat.zero_le _, h3.2.1, h4.2.2.2.trans h3.2.2.2⟩
theorem comp_apply (ha : Snd s.length 0 a) (hb : Snd (applyL s 0 a).length 0 b) : applyL s 0 (normL s (compP s a b)) = applyL (applyL s 0 a) 0 b := by
  unfold normL
  rw [joinL_apart (compP_gap ha hb)]
  unfold compP
  rw [gaps_eq s _ _ _ _ _ both_pos]
  have hord := comp_order ha hb
  have hby := comp_byte ha hb
  rw [apply_filter (gapsK_snd _ _ _ _ _ hord (fun x hx => ⟨Nat.zero_le _, (hby x hx).2.2.1⟩) (Nat.zero_le _)), gapsK_apply s _ _ 0 0 0 hord hby (Nat.le_refl _) (Nat.zero_le _), cutL_nil]
  rfl
theorem gapsP_length (n : Nat) (u : List UInt8) (Rs : List Prt) (old p : Nat) : (gapsP n u old p Rs).length = Rs.length + 1 := by
  induction Rs generalizing old p with
  | nil => rfl
  | cons R Rs ih => simp [gapsP, ih]
theorem compP_length (ha : Snd s.length 0 a) (hb : Snd (applyL s 0 a).length 0 b) : (compP s a b).length ≤ a.length + b.length + 3 := by
  unfold compP
  rw [gapsP_length]
  have := both_length _ _ (parts_order ha (q := 0)) (parts_order hb (q := 0))
  rw [parts_length, parts_length] at this
  omega
/-- What comes back bears the parts the other way round. -/
theorem inv_parts {es : List Ed} : ∀ {p q : Nat} {d : Int} {u : Nat}, Snd s.length p es → (q : Int) = p + d → (u : Int) = s.length + d + growL es → partsL u q p (invL s d es) = (partsL s.length p q es).map fun P => (P.2.1, P.1, P.2.2) := by
  induction es with
  | nil =>
    intro p q d u h hq hu
    have := h.le
    simp only [growL] at hu
    simp only [invL, partsL, List.map_cons, List.map_nil, List.cons.injEq, Prod.mk.injEq, and_true, true_and]
    omega
  | cons e es ih =>
    intro p q d u h hq hu
    obtain ⟨h1, h2, h3, h4⟩ := h
    simp only [growL, growE] at hu
    have hc := cutL_len (s := s) (a := e.f.toNat) (b := e.t.toNat) (by omega) (by omega)
    have hr := ih (q := (e.f + d + e.x.length).toNat) (d := d + growE e) (u := u) h4 (by unfold growE; omega) (by unfold growE; omega)
    simp only [invL, partsL, List.map_cons, List.cons.injEq, Prod.mk.injEq, true_and, hc]
    refine ⟨by omega, ?_⟩
    rw [show p + ((e.f + d).toNat - q) + (e.t.toNat - e.f.toNat) = e.t.toNat by omega, show q + (e.f.toNat - p) + e.x.length = (e.f + d + e.x.length).toNat by omega]
    exact hr
theorem gapsK_same (s : List UInt8) : ∀ (K : List (Nat × Nat)) (old : Nat), (∀ x ∈ K, x.1 = x.2) → (gapsK s.length s old old K).filter (keepE s) = []
  | [], old, _ => by
    have : keepE s ⟨old, s.length, s.drop old⟩ = false := by
      unfold keepE cutL
      simp only [Int.toNat_natCast, Bool.not_eq_eq_eq_not, Bool.not_false, decide_eq_true_eq]
      rw [List.take_of_length_le (by simp)]
    simp [gapsK, this]
  | (o, m) :: K, old, h => by
    obtain rfl : o = m := h (o, m) (by simp)
    have : keepE s ⟨old, o, cutL s old o⟩ = false := by
      unfold keepE
      simp
    rw [gapsK, List.filter_cons, this, if_neg (by simp)]
    exact gapsK_same s K (o + 1) fun x hx => h x (List.mem_cons_of_mem _ hx)
/-- There and back: nothing is left. -/
theorem comp_inv (ha : Snd s.length 0 a) : normL s (compP s a (invL s 0 a)) = [] := by
  have hl := apply_len ha
  have hb : Snd (applyL s 0 a).length 0 (invL s 0 a) := inv_sound ha (by simp) (by omega)
  have hback : applyL (applyL s 0 a) 0 (invL s 0 a) = s := by
    have := inv_apply (pre := []) (q := 0) (d := 0) ha (by simp) rfl
    simpa using this
  unfold normL
  rw [joinL_apart (compP_gap ha hb)]
  unfold compP
  rw [gaps_eq s _ _ _ _ _ both_pos, hback]
  refine gapsK_same s _ 0 ?_
  rintro ⟨o, n⟩ hx
  obtain ⟨m, h1, h2⟩ := mem_both.1 hx
  rw [inv_parts (p := 0) (q := 0) (d := 0) ha (by simp) (by omega)] at h2
  simp only [List.mem_flatMap, List.mem_map] at h2
  obtain ⟨_, ⟨P, hP, rfl⟩, h2⟩ := h2
  rw [mem_expP] at h2
  have h3 : (n, m) ∈ (partsL s.length 0 0 a).flatMap expP := by
    rw [List.mem_flatMap]
    refine ⟨P, hP, ?_⟩
    rw [mem_expP]
    simp only at h2
    omega
  have h4 := pairwise_tri (flat_order (parts_order ha (q := 0))) (o, m) h1 (n, m) h3
  unfold Lt2 at h4
  simp only [Prod.mk.injEq] at h4 ⊢
  omega
end
end Go.Proofs.Ytpncjgcdiomloaa
