/-
  The plain law of two lists of edits, one after the other: kept bytes, gaps, composition. No program in sight.
-/
import Derived.Test.YtpncjgcdiomloaaEdM
namespace Go.Proofs.Ytpncjgcdiomloaa
open Go Go.Proofs
set_option linter.unusedVariables false
set_option linter.unusedSimpArgs false

/-- A sequence of kept bytes: old offset, new offset, length. -/
abbrev Prt := Nat × Nat × Nat
def expP (P : Prt) : List (Nat × Nat) := (List.range P.2.2).map fun j => (P.1 + j, P.2.1 + j)
def partsL (n : Nat) : Nat → Nat → List Ed → List Prt
  | p, q, [] => [(p, q, n - p)]
  | p, q, e :: es => (p, q, e.f.toNat - p) :: partsL n e.t.toNat (q + (e.f.toNat - p) + e.x.length) es
def pairsL (n p q : Nat) (es : List Ed) : List (Nat × Nat) := (partsL n p q es).flatMap expP
/-- For each new byte its old one, or -1. -/
def srcL (n : Nat) : Nat → List Ed → List Int
  | p, [] => (List.range (n - p)).map fun j => ((p + j : Nat) : Int)
  | p, e :: es => (List.range (e.f.toNat - p)).map (fun j => ((p + j : Nat) : Int)) ++ List.replicate e.x.length (-1) ++ srcL n e.t.toNat es

theorem mem_expP {P : Prt} {o m : Nat} : (o, m) ∈ expP P ↔ P.1 ≤ o ∧ o < P.1 + P.2.2 ∧ m = P.2.1 + (o - P.1) := by
  unfold expP
  simp only [List.mem_map, List.mem_range, Prod.mk.injEq]
  constructor
  · rintro ⟨j, hj, rfl, rfl⟩; omega
  · rintro ⟨h1, h2, rfl⟩; exact ⟨o - P.1, by omega, by omega, by omega⟩
def Before (P Q : Prt) : Prop := P.1 + P.2.2 ≤ Q.1 ∧ P.2.1 + P.2.2 ≤ Q.2.1
theorem parts_ge {n : Nat} {es : List Ed} : ∀ {p q : Nat}, Snd n p es → ∀ P ∈ partsL n p q es, p ≤ P.1 ∧ q ≤ P.2.1 ∧ P.1 + P.2.2 ≤ n := by
  induction es with
  | nil =>
    intro p q h P hP
    have := h.le
    simp only [partsL, List.mem_singleton] at hP
    subst hP
    simp; omega
  | cons e es ih =>
    intro p q h P hP
    obtain ⟨h1, h2, h3, h4⟩ := h
    simp only [partsL, List.mem_cons] at hP
    rcases hP with rfl | hP
    · simp; omega
    · have := ih h4 P hP
      omega
theorem parts_order {n : Nat} {es : List Ed} : ∀ {p q : Nat}, Snd n p es → (partsL n p q es).Pairwise Before := by
  induction es with
  | nil => intro p q _; simp [partsL]
  | cons e es ih =>
    intro p q h
    obtain ⟨h1, h2, h3, h4⟩ := h
    simp only [partsL, List.pairwise_cons]
    refine ⟨fun Q hQ => ?_, ih h4⟩
    have := parts_ge h4 Q hQ
    unfold Before
    simp only
    omega
theorem parts_length (n : Nat) (es : List Ed) (p q : Nat) : (partsL n p q es).length = es.length + 1 := by
  induction es generalizing p q with
  | nil => rfl
  | cons e es ih => simp [partsL, ih]
theorem src_len {n : Nat} {es : List Ed} : ∀ {p : Nat}, Snd n p es → ((srcL n p es).length : Int) = n - p + growL es := by
  induction es with
  | nil => intro p h; have := h.le; simp only [srcL, growL, List.length_map, List.length_range]; omega
  | cons e es ih =>
    intro p h
    obtain ⟨h1, h2, h3, h4⟩ := h
    have := ih h4
    simp only [srcL, growL, growE, List.length_append, List.length_map, List.length_range, List.length_replicate]
    omega
theorem src_apply_len {s : List UInt8} {es : List Ed} {p : Nat} (h : Snd s.length p es) : (srcL s.length p es).length = (applyL s p es).length := by
  have h1 := src_len h
  have h2 := apply_len h
  omega
/-- The pairs are what the sources say. -/
theorem mem_pairs {n : Nat} {es : List Ed} : ∀ {p q : Nat}, Snd n p es → ∀ {o m : Nat}, (o, m) ∈ pairsL n p q es ↔ q ≤ m ∧ (srcL n p es)[m - q]? = some (o : Int) := by
  induction es with
  | nil =>
    intro p q h o m
    have := h.le
    simp only [pairsL, partsL, srcL, List.flatMap_cons, List.flatMap_nil, List.append_nil, mem_expP, List.getElem?_map]
    constructor
    · rintro ⟨h1, h2, rfl⟩
      refine ⟨by omega, ?_⟩
      rw [List.getElem?_range (by omega)]
      simp; omega
    · rintro ⟨h1, h2⟩
      by_cases hlt : m - q < n - p
      · rw [List.getElem?_range hlt] at h2
        simp at h2
        omega
      · rw [List.getElem?_eq_none (by simp; omega)] at h2
        simp at h2
  | cons e es ih =>
    intro p q h o m
    obtain ⟨h1, h2, h3, h4⟩ := h
    have hih := ih (q := q + (e.f.toNat - p) + e.x.length) h4 (o := o) (m := m)
    unfold pairsL at hih ⊢
    simp only [partsL, srcL, List.flatMap_cons, List.mem_append, mem_expP, hih]
    by_cases c1 : m - q < e.f.toNat - p
    · rw [List.getElem?_append_left (by simp; omega), List.getElem?_append_left (by simp; omega), List.getElem?_map, List.getElem?_range c1]
      simp only [Option.map_some, Option.some.injEq]
      omega
    · by_cases c2 : m - q < e.f.toNat - p + e.x.length
      · rw [List.getElem?_append_left (by simp; omega), List.getElem?_append_right (by simp; omega), List.getElem?_replicate]
        simp only [List.length_map, List.length_range]
        rw [if_pos (by omega)]
        simp only [Option.some.injEq]
        omega
      · rw [List.getElem?_append_right (by simp; omega)]
        simp only [List.length_append, List.length_map, List.length_range, List.length_replicate]
        rw [show m - q - (e.f.toNat - p + e.x.length) = m - (q + (e.f.toNat - p) + e.x.length) by omega]
        constructor
        · rintro (⟨a, b, c⟩ | ⟨a, b⟩)
          · omega
          · exact ⟨by omega, b⟩
        · rintro ⟨a, b⟩
          refine .inr ⟨?_, b⟩
          omega
/-- A kept byte is the same byte. -/
theorem pair_byte {s : List UInt8} {es : List Ed} : ∀ {p q : Nat}, Snd s.length p es → ∀ {o m : Nat}, (o, m) ∈ pairsL s.length p q es → q ≤ m ∧ o < s.length ∧ p ≤ o ∧ (applyL s p es)[m - q]? = s[o]? := by
  induction es with
  | nil =>
    intro p q h o m hm
    have := h.le
    simp only [pairsL, partsL, List.flatMap_cons, List.flatMap_nil, List.append_nil, mem_expP] at hm
    refine ⟨by omega, by omega, by omega, ?_⟩
    simp only [applyL, List.getElem?_drop]
    congr 1; omega
  | cons e es ih =>
    intro p q h o m hm
    obtain ⟨h1, h2, h3, h4⟩ := h
    unfold pairsL at hm
    simp only [partsL, List.flatMap_cons, List.mem_append, mem_expP] at hm
    have hc := cutL_len (s := s) (a := p) (b := e.f.toNat) (by omega) (by omega)
    rcases hm with hm | hm
    · refine ⟨by omega, by omega, by omega, ?_⟩
      simp only [applyL]
      rw [List.append_assoc, List.getElem?_append_left (by omega)]
      unfold cutL
      rw [List.getElem?_take_of_lt (by omega), List.getElem?_drop]
      congr 1; omega
    · have := ih h4 hm
      refine ⟨by omega, by omega, by omega, ?_⟩
      simp only [applyL]
      rw [List.getElem?_append_right (by simp only [List.length_append]; omega), ← this.2.2.2]
      congr 1
      simp only [List.length_append]
      omega
def Lt2 (x y : Nat × Nat) : Prop := x.1 < y.1 ∧ x.2 < y.2
theorem expP_order (P : Prt) : (expP P).Pairwise Lt2 := by
  unfold expP
  rw [List.pairwise_map]
  exact List.pairwise_lt_range.imp fun h => by unfold Lt2; simp; exact h
theorem flat_order {l : List Prt} (h : l.Pairwise Before) : (l.flatMap expP).Pairwise Lt2 := by
  rw [List.pairwise_flatMap]
  refine ⟨fun P _ => expP_order P, h.imp fun {P Q} hb => ?_⟩
  rintro ⟨o, m⟩ h1 ⟨o', m'⟩ h2
  rw [mem_expP] at h1 h2
  unfold Before at hb
  unfold Lt2
  simp only
  omega
theorem pairs_order {n p q : Nat} {es : List Ed} (h : Snd n p es) : (pairsL n p q es).Pairwise Lt2 := flat_order (parts_order h)

/-- Two lists in strict order with the same members are one. -/
theorem sorted_ext {α : Type} {R : α → α → Prop} (hR : ∀ x, ¬ R x x) (hA : ∀ x y, R x y → ¬ R y x) : ∀ {a b : List α}, a.Pairwise R → b.Pairwise R → (∀ x, x ∈ a ↔ x ∈ b) → a = b
  | [], [], _, _, _ => rfl
  | [], y :: b, _, _, h => by have := (h y).2 (by simp); simp at this
  | x :: a, [], _, _, h => by have := (h x).1 (by simp); simp at this
  | x :: a, y :: b, ha, hb, h => by
    rw [List.pairwise_cons] at ha hb
    have e : x = y := by
      have h1 := (h x).1 (by simp)
      have h2 := (h y).2 (by simp)
      rcases List.mem_cons.1 h1 with e | h1
      · exact e
      · rcases List.mem_cons.1 h2 with e | h2
        · exact e.symm
        · exact absurd (hb.1 x h1) (hA _ _ (ha.1 y h2))
    subst e
    congr 1
    refine sorted_ext hR hA ha.2 hb.2 fun z => ?_
    have hz := h z
    constructor
    · intro hza
      rcases List.mem_cons.1 (hz.1 (List.mem_cons_of_mem _ hza)) with e | h'
      · subst e; exact absurd (ha.1 _ hza) (hR _)
      · exact h'
    · intro hzb
      rcases List.mem_cons.1 (hz.2 (List.mem_cons_of_mem _ hzb)) with e | h'
      · subst e; exact absurd (hb.1 _ hzb) (hR _)
      · exact h'

/-! ### What both keep -/
/-- The common part of a part of the first list and one of the second. -/
def capP (P Q : Prt) : Prt := (P.1 + (max P.2.1 Q.1 - P.2.1), Q.2.1 + (max P.2.1 Q.1 - Q.1), min (P.2.1 + P.2.2) (Q.1 + Q.2.2) - max P.2.1 Q.1)
def bothL (A B : List Prt) : List Prt := A.flatMap fun P => (B.map (capP P)).filter fun R => decide (0 < R.2.2)
theorem mem_both {A B : List Prt} {o n : Nat} : (o, n) ∈ (bothL A B).flatMap expP ↔ ∃ m, (o, m) ∈ A.flatMap expP ∧ (m, n) ∈ B.flatMap expP := by
  unfold bothL
  simp only [List.mem_flatMap, List.mem_filter, List.mem_map]
  constructor
  · rintro ⟨R, ⟨P, hP, ⟨Q, hQ, rfl⟩, _⟩, hR⟩
    rw [mem_expP] at hR
    unfold capP at hR
    simp only at hR
    refine ⟨P.2.1 + (o - P.1), ⟨P, hP, ?_⟩, ⟨Q, hQ, ?_⟩⟩
    · rw [mem_expP]; omega
    · rw [mem_expP]; omega
  · rintro ⟨m, ⟨P, hP, h1⟩, ⟨Q, hQ, h2⟩⟩
    rw [mem_expP] at h1 h2
    refine ⟨capP P Q, ⟨P, hP, ⟨Q, hQ, rfl⟩, ?_⟩, ?_⟩
    · unfold capP; simp only [decide_eq_true_eq]; omega
    · rw [mem_expP]; unfold capP; simp only; omega
theorem pairwise_tri {α : Type} {R : α → α → Prop} : ∀ {l : List α}, l.Pairwise R → ∀ x ∈ l, ∀ y ∈ l, x = y ∨ R x y ∨ R y x
  | [], _, x, hx, _, _ => by simp at hx
  | a :: l, h, x, hx, y, hy => by
    rw [List.pairwise_cons] at h
    obtain ⟨h1, h2⟩ := h
    rcases List.mem_cons.1 hx with e1 | hx'
    · rcases List.mem_cons.1 hy with e2 | hy'
      · exact .inl (e1.trans e2.symm)
      · exact .inr (.inl (e1 ▸ h1 y hy'))
    · rcases List.mem_cons.1 hy with e2 | hy'
      · exact .inr (.inr (e2 ▸ h1 x hx'))
      · exact pairwise_tri h2 x hx' y hy'
theorem flat_congr {α β : Type} {f g : α → List β} : ∀ {l : List α}, (∀ x ∈ l, f x = g x) → l.flatMap f = l.flatMap g
  | [], _ => rfl
  | x :: l, h => by rw [List.flatMap_cons, List.flatMap_cons, h x (by simp), flat_congr fun y hy => h y (List.mem_cons_of_mem _ hy)]
theorem both_order {A B : List Prt} (hA : A.Pairwise Before) (hB : B.Pairwise Before) : (bothL A B).Pairwise Before := by
  unfold bothL
  rw [List.pairwise_flatMap]
  constructor
  · intro P _
    rw [List.pairwise_filter, List.pairwise_map]
    refine hB.imp fun {Q Q'} h h1 h2 => ?_
    unfold Before at h ⊢
    unfold capP at h1 h2 ⊢
    simp only [decide_eq_true_eq] at h1 h2 ⊢
    omega
  · refine hA.imp fun {P P'} h => ?_
    intro R hR R' hR'
    simp only [List.mem_filter, List.mem_map, decide_eq_true_eq] at hR hR'
    obtain ⟨⟨Q, hQ, rfl⟩, h1⟩ := hR
    obtain ⟨⟨Q', hQ', rfl⟩, h2⟩ := hR'
    have h3 := pairwise_tri hB Q hQ Q' hQ'
    unfold Before at h h3 ⊢
    unfold capP at h1 h2 ⊢
    simp only at h1 h2 ⊢
    rcases h3 with rfl | h3 | h3 <;> omega
theorem both_pos {A B : List Prt} : ∀ R ∈ bothL A B, 0 < R.2.2 := by
  intro R hR
  unfold bothL at hR
  simp only [List.mem_flatMap, List.mem_filter, decide_eq_true_eq] at hR
  obtain ⟨P, _, _, h⟩ := hR
  exact h
/-- No more common parts than parts. -/
theorem both_length : ∀ (A B : List Prt), A.Pairwise Before → B.Pairwise Before → (bothL A B).length ≤ A.length + B.length
  | [], B, _, _ => by simp [bothL]
  | P :: A, [], _, _ => by
    have : ∀ A : List Prt, bothL A [] = [] := by intro A; induction A with
      | nil => rfl
      | cons P A ih => simp [bothL]
    rw [this]; simp
  | P :: A, Q :: B, hA, hB => by
    have hA' := List.pairwise_cons.1 hA
    have hB' := List.pairwise_cons.1 hB
    have e1 : ∀ L : List Prt, bothL (P :: A) L = ((L.map (capP P)).filter fun R => decide (0 < R.2.2)) ++ bothL A L := fun L => by unfold bothL; rw [List.flatMap_cons]
    by_cases hc : P.2.1 + P.2.2 ≤ Q.1 + Q.2.2
    · have ih := both_length A (Q :: B) hA'.2 hB
      have e2 : ((B.map (capP P)).filter fun R => decide (0 < R.2.2)) = [] := by
        rw [List.filter_eq_nil_iff]
        intro R hR
        obtain ⟨Q', hQ', rfl⟩ := List.mem_map.1 hR
        have := hB'.1 Q' hQ'
        unfold Before at this
        unfold capP
        simp only [decide_eq_true_eq]
        omega
      rw [e1, List.map_cons, List.filter_cons, e2]
      simp only [List.length_append, List.length_cons] at ih ⊢
      split <;> simp <;> omega
    · have ih := both_length (P :: A) B hA hB'.2
      have e3 : bothL A (Q :: B) = bothL A B := by
        unfold bothL
        refine flat_congr fun P' hP' => ?_
        have := hA'.1 P' hP'
        rw [List.map_cons, List.filter_cons, if_neg]
        unfold Before at this
        unfold capP
        simp only [decide_eq_true_eq]
        omega
      rw [e1] at ih ⊢
      rw [List.map_cons, List.filter_cons, e3]
      simp only [List.length_append, List.length_cons] at ih ⊢
      split <;> simp <;> omega
  termination_by A B => A.length + B.length

/-! ### Gaps -/
def gapsP (n : Nat) (u : List UInt8) : Nat → Nat → List Prt → List Ed
  | old, p, [] => [⟨old, n, u.drop p⟩]
  | old, p, R :: Rs => ⟨old, R.1, cutL u p R.2.1⟩ :: gapsP n u (R.1 + R.2.2) (R.2.1 + R.2.2) Rs
def gapsK (n : Nat) (u : List UInt8) : Nat → Nat → List (Nat × Nat) → List Ed
  | old, p, [] => [⟨old, n, u.drop p⟩]
  | old, p, x :: K => ⟨old, x.1, cutL u p x.2⟩ :: gapsK n u (x.1 + 1) (x.2 + 1) K
theorem expP_succ (o m k : Nat) : expP (o, m, k + 1) = (o, m) :: expP (o + 1, m + 1, k) := by
  unfold expP
  simp only [List.range_succ_eq_map, List.map_cons, List.map_map]
  congr 1
  refine List.map_congr_left fun j _ => ?_
  simp only [Function.comp_apply, Prod.mk.injEq]
  omega
theorem keep_empty (s : List UInt8) (a : Nat) : keepE s ⟨a, a, []⟩ = false := by
  unfold keepE
  simp [cutL_nil]
theorem gaps_inner (s : List UInt8) (n : Nat) (u : List UInt8) (K : List (Nat × Nat)) : ∀ k o m : Nat, (gapsK n u o m (expP (o, m, k) ++ K)).filter (keepE s) = (gapsK n u (o + k) (m + k) K).filter (keepE s)
  | 0, o, m => by simp [expP]
  | k + 1, o, m => by
    rw [expP_succ, List.cons_append, gapsK, cutL_nil, List.filter_cons, keep_empty, if_neg (by simp), gaps_inner s n u K k (o + 1) (m + 1)]
    congr 2 <;> omega
theorem gaps_eq (s : List UInt8) (n : Nat) (u : List UInt8) : ∀ (Rs : List Prt) (old p : Nat), (∀ R ∈ Rs, 0 < R.2.2) → (gapsP n u old p Rs).filter (keepE s) = (gapsK n u old p (Rs.flatMap expP)).filter (keepE s)
  | [], old, p, _ => rfl
  | (o, m, k) :: Rs, old, p, h => by
    have hk : 0 < k := h (o, m, k) (by simp)
    obtain ⟨j, rfl⟩ : ∃ j, k = j + 1 := ⟨k - 1, by omega⟩
    rw [List.flatMap_cons, expP_succ, List.cons_append, gapsK, gapsP]
    simp only
    rw [List.filter_cons, List.filter_cons, gaps_eq s n u Rs _ _ (fun R hR => h R (List.mem_cons_of_mem _ hR)), gaps_inner]
    rw [show o + 1 + j = o + (j + 1) by omega, show m + 1 + j = m + (j + 1) by omega]

/-- The reference's list: (source or -1, byte) for each byte of the new text. -/
def refK (n : Nat) : Nat → List UInt8 → List (Int × UInt8) → List Ed
  | p, x, [] => if p < n ∨ x ≠ [] then [⟨p, n, x⟩] else []
  | p, x, y :: r => if y.1 < 0 then refK n p (x ++ [y.2]) r else (if (p : Int) < y.1 ∨ x ≠ [] then [⟨p, y.1, x⟩] else []) ++ refK n (y.1.toNat + 1) [] r
def kOf : Nat → List (Int × UInt8) → List (Nat × Nat)
  | _, [] => []
  | i, y :: r => if y.1 < 0 then kOf (i + 1) r else (y.1.toNat, i) :: kOf (i + 1) r
theorem cutL_snoc {u : List UInt8} {a i : Nat} (h : a ≤ i) {b : UInt8} {r : List UInt8} (hr : u.drop i = b :: r) : cutL u a i ++ [b] = cutL u a (i + 1) ∧ u.drop (i + 1) = r := by
  have hlt : i < u.length := by
    have := congrArg List.length hr
    simp at this
    omega
  rw [List.drop_eq_getElem_cons hlt] at hr
  simp only [List.cons.injEq] at hr
  refine ⟨?_, hr.2⟩
  rw [← cutL_app (s := u) (a := a) (b := i) (c := i + 1) h (by omega)]
  congr 1
  unfold cutL
  rw [show i + 1 - i = 1 by omega, List.drop_eq_getElem_cons hlt, hr.1]
  rfl
theorem ref_gaps (s : List UInt8) (n : Nat) (u : List UInt8) : ∀ (r : List (Int × UInt8)) (i a p : Nat), u.drop i = r.map (·.2) → a ≤ i → (refK n p (cutL u a i) r).filter (keepE s) = (gapsK n u p a (kOf i r)).filter (keepE s)
  | [], i, a, p, hr, ha => by
    have hx : cutL u a i = u.drop a := by
      rw [← cutL_drop (s := u) ha, hr]; simp
    unfold refK kOf gapsK
    rw [hx]
    split
    · rfl
    · rename_i h
      have h1 : u.drop a = [] := by
        by_cases h1 : u.drop a = []
        · exact h1
        · exact absurd (.inr h1) h
      rw [h1, List.filter_cons]
      have hk : keepE s ⟨p, n, []⟩ = false := by
        unfold keepE cutL
        have : n - p = 0 := by
          have : ¬ p < n := fun hp => h (.inl hp)
          omega
        simp [this]
      rw [hk, if_neg (by simp)]
  | (c, b) :: r, i, a, p, hr, ha => by
    obtain ⟨h1, h2⟩ := cutL_snoc ha (b := b) (r := r.map (·.2)) (by simpa using hr)
    unfold refK kOf
    simp only
    by_cases hc : c < 0
    · rw [if_pos hc, if_pos hc, h1]
      exact ref_gaps s n u r (i + 1) a p h2 (by omega)
    · rw [if_neg hc, if_neg hc, gapsK]
      simp only
      have ih := ref_gaps s n u r (i + 1) (i + 1) (c.toNat + 1) h2 (Nat.le_refl _)
      rw [cutL_nil] at ih
      have ec : c = ((c.toNat : Nat) : Int) := by omega
      rw [List.filter_append, ih, List.filter_cons, ← ec]
      split
      · rw [List.filter_cons]
        split <;> simp
      · rename_i h
        have hx : cutL u a i = [] := by
          by_cases h3 : cutL u a i = []
          · exact h3
          · exact absurd (.inr h3) h
        have hk : keepE s ⟨p, c, []⟩ = false := by
          unfold keepE cutL
          have : c.toNat - p = 0 := by
            have : ¬ (p : Int) < c := fun hp => h (.inl hp)
            omega
          simp [this]
        rw [hx, hk]
        simp
theorem mem_kOf : ∀ (r : List (Int × UInt8)) (i : Nat) {o n : Nat}, (o, n) ∈ kOf i r ↔ i ≤ n ∧ ∃ b, r[n - i]? = some ((o : Int), b)
  | [], i, o, n => by simp [kOf]
  | (c, b) :: r, i, o, n => by
    have ih := mem_kOf r (i + 1) (o := o) (n := n)
    unfold kOf
    simp only
    by_cases hc : c < 0
    · rw [if_pos hc, ih]
      constructor
      · rintro ⟨h1, b', h2⟩
        refine ⟨by omega, b', ?_⟩
        rw [show n - i = (n - (i + 1)) + 1 by omega, List.getElem?_cons_succ]
        exact h2
      · rintro ⟨h1, b', h2⟩
        by_cases hn : n = i
        · subst hn
          simp at h2
          omega
        · rw [show n - i = (n - (i + 1)) + 1 by omega, List.getElem?_cons_succ] at h2
          exact ⟨by omega, b', h2⟩
    · rw [if_neg hc, List.mem_cons, ih]
      constructor
      · rintro (h | ⟨h1, b', h2⟩)
        · simp only [Prod.mk.injEq] at h
          obtain ⟨rfl, rfl⟩ := h
          refine ⟨Nat.le_refl _, b, ?_⟩
          rw [Nat.sub_self, List.getElem?_cons_zero]
          congr 2
          omega
        · refine ⟨by omega, b', ?_⟩
          rw [show n - i = (n - (i + 1)) + 1 by omega, List.getElem?_cons_succ]
          exact h2
      · rintro ⟨h1, b', h2⟩
        by_cases hn : n = i
        · subst hn
          simp at h2
          exact .inl (by simp; omega)
        · rw [show n - i = (n - (i + 1)) + 1 by omega, List.getElem?_cons_succ] at h2
          exact .inr ⟨by omega, b', h2⟩
theorem kOf_order : ∀ (r : List (Int × UInt8)) (i : Nat), (kOf i r).Pairwise fun x y => x.2 < y.2
  | [], i => by simp [kOf]
  | (c, b) :: r, i => by
    unfold kOf
    split
    · exact kOf_order r (i + 1)
    · rw [List.pairwise_cons]
      refine ⟨?_, kOf_order r (i + 1)⟩
      rintro ⟨o, n⟩ h
      rw [mem_kOf] at h
      show i < n
      omega

/-! ### Composition -/
def compS (first second : List Int) : List Int := second.map fun b => if 0 ≤ b then first.getD b.toNat (-1) else -1
/-- What the program and the reference make of two valid lists, before the normal form. -/
def compP (s : List UInt8) (a b : List Ed) : List Ed :=
  gapsP s.length (applyL (applyL s 0 a) 0 b) 0 0 (bothL (partsL s.length 0 0 a) (partsL (applyL s 0 a).length 0 0 b))
def compR (s : List UInt8) (a b : List Ed) : List Ed :=
  refK s.length 0 [] ((compS (srcL s.length 0 a) (srcL (applyL s 0 a).length 0 b)).zip (applyL (applyL s 0 a) 0 b))
theorem zip_snd {α β : Type} : ∀ {a : List α} {b : List β}, a.length = b.length → (a.zip b).map (·.2) = b
  | [], [], _ => rfl
  | x :: a, y :: b, h => by simp [zip_snd (a := a) (b := b) (by simpa using h)]
  | [], y :: b, h => by simp at h
  | x :: a, [], h => by simp at h
theorem comp_len {s : List UInt8} {a b : List Ed} (hb : Snd (applyL s 0 a).length 0 b) : (compS (srcL s.length 0 a) (srcL (applyL s 0 a).length 0 b)).length = (applyL (applyL s 0 a) 0 b).length := by
  unfold compS; rw [List.length_map]; exact src_apply_len hb
theorem comp_pairs {s : List UInt8} {a b : List Ed} (ha : Snd s.length 0 a) (hb : Snd (applyL s 0 a).length 0 b) : (bothL (partsL s.length 0 0 a) (partsL (applyL s 0 a).length 0 0 b)).flatMap expP =
    kOf 0 ((compS (srcL s.length 0 a) (srcL (applyL s 0 a).length 0 b)).zip (applyL (applyL s 0 a) 0 b)) := by
  have hl := comp_len (s := s) (a := a) hb
  have hla := src_apply_len ha
  refine sorted_ext (R := fun x y : Nat × Nat => x.2 < y.2) (fun x => Nat.lt_irrefl _) (fun x y h h' => Nat.lt_asymm h h') ((flat_order (both_order (parts_order ha) (parts_order hb))).imp fun h => h.2) (kOf_order _ _) ?_
  rintro ⟨o, n⟩
  rw [mem_both, mem_kOf]
  have hA : ∀ {o m : Nat}, (o, m) ∈ List.flatMap expP (partsL s.length 0 0 a) ↔ 0 ≤ m ∧ (srcL s.length 0 a)[m - 0]? = some (o : Int) := mem_pairs ha
  have hB : ∀ {o m : Nat}, (o, m) ∈ List.flatMap expP (partsL (applyL s 0 a).length 0 0 b) ↔ 0 ≤ m ∧ (srcL (applyL s 0 a).length 0 b)[m - 0]? = some (o : Int) := mem_pairs hb
  have hz : ∀ y, ((compS (srcL s.length 0 a) (srcL (applyL s 0 a).length 0 b)).zip (applyL (applyL s 0 a) 0 b))[n - 0]? = some y ↔ (compS (srcL s.length 0 a) (srcL (applyL s 0 a).length 0 b))[n]? = some y.1 ∧ (applyL (applyL s 0 a) 0 b)[n]? = some y.2 := by
    intro y
    rw [Nat.sub_zero, List.getElem?_zip_eq_some]
  constructor
  · rintro ⟨m, h1, h2⟩
    rw [hA] at h1
    rw [hB] at h2
    refine ⟨Nat.zero_le _, ?_⟩
    have hlt := (List.getElem?_eq_some_iff.1 h2.2).1
    have hlt2 : n < (applyL (applyL s 0 a) 0 b).length := by
      have := src_apply_len hb
      omega
    refine ⟨(applyL (applyL s 0 a) 0 b)[n], ?_⟩
    rw [hz]
    refine ⟨?_, List.getElem?_eq_getElem hlt2⟩
    unfold compS
    rw [Nat.sub_zero] at h1 h2
    rw [List.getElem?_map, h2.2]
    simp only [Option.map_some, Option.some.injEq]
    rw [if_pos (by omega), List.getD_eq_getElem?_getD, Int.toNat_natCast, h1.2]
    rfl
  · rintro ⟨_, b', h⟩
    rw [hz] at h
    have h1 := h.1
    unfold compS at h1
    rw [List.getElem?_map] at h1
    obtain ⟨c, hc, h1⟩ := Option.map_eq_some_iff.1 h1
    by_cases hc0 : 0 ≤ c
    · rw [if_pos hc0] at h1
      have hm : (srcL s.length 0 a)[c.toNat]? = some (o : Int) := by
        rw [List.getD_eq_getElem?_getD] at h1
        cases hq : (srcL s.length 0 a)[c.toNat]? with
        | none => rw [hq] at h1; simp at h1
        | some z => rw [hq] at h1; simp at h1; rw [h1]
      refine ⟨c.toNat, ?_, ?_⟩
      · rw [hA]; exact ⟨Nat.zero_le _, hm⟩
      · rw [hB]
        refine ⟨Nat.zero_le _, ?_⟩
        rw [Nat.sub_zero, hc]
        congr 1
        omega
    · rw [if_neg hc0] at h1
      omega

theorem comp_filter {s : List UInt8} {a b : List Ed} (ha : Snd s.length 0 a) (hb : Snd (applyL s 0 a).length 0 b) : (compP s a b).filter (keepE s) = (compR s a b).filter (keepE s) := by
  unfold compP compR
  rw [gaps_eq s _ _ _ _ _ both_pos, comp_pairs ha hb]
  have h2 := ref_gaps s s.length (applyL (applyL s 0 a) 0 b) ((compS (srcL s.length 0 a) (srcL (applyL s 0 a).length 0 b)).zip (applyL (applyL s 0 a) 0 b)) 0 0 0 (by rw [zip_snd (comp_len hb)]; rfl) (Nat.le_refl _)
  rw [cutL_nil] at h2
  exact h2.symm

/-! ### What the normal form keeps -/
theorem Snd.weak {n : Nat} {es : List Ed} {p q : Nat} (h : Snd n p es) (hq : q ≤ p) : Snd n q es := by
  cases es with
  | nil => exact Nat.le_trans hq h
  | cons e es => exact ⟨by have := h.1; omega, h.2.1, h.2.2.1, h.2.2.2⟩
theorem Snd.filter {n : Nat} (f : Ed → Bool) {es : List Ed} : ∀ {p : Nat}, Snd n p es → Snd n p (es.filter f) := by
  induction es with
  | nil => intro p h; exact h
  | cons e es ih =>
    intro p h
    obtain ⟨h1, h2, h3, h4⟩ := h
    rw [List.filter_cons]
    split
    · exact ⟨h1, h2, h3, ih h4⟩
    · exact (ih h4).weak (by omega)
theorem apply_back {s : List UInt8} {es : List Ed} {p t : Nat} (h : Snd s.length t es) (hp : p ≤ t) : cutL s p t ++ applyL s t es = applyL s p es := by
  cases es with
  | nil => exact cutL_drop hp
  | cons e es =>
    obtain ⟨h1, h2, h3, h4⟩ := h
    simp only [applyL]
    rw [← List.append_assoc, ← List.append_assoc, cutL_app hp (by omega)]
theorem apply_filter {s : List UInt8} {es : List Ed} : ∀ {p : Nat}, Snd s.length p es → applyL s p (es.filter (keepE s)) = applyL s p es := by
  induction es with
  | nil => intro p _; rfl
  | cons e es ih =>
    intro p h
    obtain ⟨h1, h2, h3, h4⟩ := h
    rw [List.filter_cons]
    split
    · simp only [applyL]; rw [ih h4]
    · rename_i hk
      have hx : cutL s e.f.toNat e.t.toNat = e.x := by
        unfold keepE at hk
        simpa using hk
      simp only [applyL]
      rw [← hx, cutL_app (by omega) (by omega), ← ih h4, apply_back (h4.filter _) (by omega)]
theorem joinC_snd {n : Nat} {es : List Ed} : ∀ {c : Ed} {p : Nat}, Snd n p (c :: es) → Snd n p (joinC c es) := by
  induction es with
  | nil => intro c p h; exact h
  | cons x es ih =>
    intro c p h
    obtain ⟨h1, h2, h3, h5, h6, h7, h8⟩ := h
    unfold joinC
    split
    · exact ih ⟨h1, by show c.f ≤ x.t; omega, h7, h8⟩
    · exact ⟨h1, h2, h3, ih ⟨h5, h6, h7, h8⟩⟩
theorem joinL_snd {n p : Nat} {es : List Ed} (h : Snd n p es) : Snd n p (joinL es) := by
  cases es with
  | nil => exact h
  | cons e es => exact joinC_snd h
theorem joinC_apply {s : List UInt8} {es : List Ed} : ∀ {c : Ed} {p : Nat}, applyL s p (joinC c es) = applyL s p (c :: es) := by
  induction es with
  | nil => intro c p; rfl
  | cons x es ih =>
    intro c p
    unfold joinC
    split
    · rename_i h
      rw [ih]
      simp only [applyL]
      rw [h, cutL_nil]
      simp
    · simp only [applyL] at ih ⊢
      rw [ih]
theorem joinL_apply (s : List UInt8) (es : List Ed) (p : Nat) : applyL s p (joinL es) = applyL s p es := by
  cases es with
  | nil => rfl
  | cons e es => exact joinC_apply
theorem norm_snd {s : List UInt8} {es : List Ed} {p : Nat} (h : Snd s.length p es) : Snd s.length p (normL s es) := (joinL_snd h).filter _
theorem norm_apply {s : List UInt8} {es : List Ed} {p : Nat} (h : Snd s.length p es) : applyL s p (normL s es) = applyL s p es := by
  unfold normL
  rw [apply_filter (joinL_snd h), joinL_apply]
def Gap (a b : Ed) : Prop := a.t < b.f
theorem joinC_f {es : List Ed} : ∀ {c : Ed} {n p : Nat}, Snd n p (c :: es) → ∀ x ∈ joinC c es, c.f ≤ x.f := by
  induction es with
  | nil => intro c n p _ x hx; simp only [joinC, List.mem_singleton] at hx; subst hx; exact Int.le_refl _
  | cons y es ih =>
    intro c n p h x hx
    obtain ⟨h1, h2, h3, h5, h6, h7, h8⟩ := h
    unfold joinC at hx
    split at hx
    · exact ih (c := ⟨c.f, y.t, c.x ++ y.x⟩) (n := n) (p := p) ⟨h1, by show c.f ≤ y.t; omega, h7, h8⟩ x hx
    · rcases List.mem_cons.1 hx with rfl | hx
      · exact Int.le_refl _
      · have := ih (c := y) (n := n) (p := c.t.toNat) ⟨h5, h6, h7, h8⟩ x hx
        omega
theorem joinC_gap {es : List Ed} : ∀ {c : Ed} {n p : Nat}, Snd n p (c :: es) → (joinC c es).Pairwise Gap := by
  induction es with
  | nil => intro c n p _; simp [joinC]
  | cons y es ih =>
    intro c n p h
    obtain ⟨h1, h2, h3, h5, h6, h7, h8⟩ := h
    unfold joinC
    split
    · exact ih (c := ⟨c.f, y.t, c.x ++ y.x⟩) (n := n) (p := p) ⟨h1, by show c.f ≤ y.t; omega, h7, h8⟩
    · rename_i hne
      rw [List.pairwise_cons]
      refine ⟨fun x hx => ?_, ih (c := y) (n := n) (p := c.t.toNat) ⟨h5, h6, h7, h8⟩⟩
      have := joinC_f (c := y) (n := n) (p := c.t.toNat) ⟨h5, h6, h7, h8⟩ x hx
      unfold Gap
      omega
theorem norm_gap {s : List UInt8} {es : List Ed} {p : Nat} (h : Snd s.length p es) : (normL s es).Pairwise Gap := by
  unfold normL
  refine List.Pairwise.filter _ ?_
  cases es with
  | nil => simp [joinL]
  | cons e es => exact joinC_gap h
theorem joinC_apart {es : List Ed} : ∀ {c : Ed}, (c :: es).Pairwise Gap → joinC c es = c :: es := by
  induction es with
  | nil => intro c _; rfl
  | cons y es ih =>
    intro c h
    rw [List.pairwise_cons] at h
    unfold joinC
    have := h.1 y (by simp)
    unfold Gap at this
    rw [if_neg (by omega), ih h.2]
theorem joinL_apart {es : List Ed} (h : es.Pairwise Gap) : joinL es = es := by
  cases es with
  | nil => rfl
  | cons e es => exact joinC_apart h
theorem norm_again {s : List UInt8} {es : List Ed} {p : Nat} (h : Snd s.length p es) : normL s (normL s es) = normL s es := by
  have hg := norm_gap h
  have e : normL s (normL s es) = (joinL (normL s es)).filter (keepE s) := rfl
  rw [e, joinL_apart hg]
  unfold normL
  rw [List.filter_filter]
  simp
theorem gapsP_f (n : Nat) (u : List UInt8) : ∀ (Rs : List Prt) (old p : Nat), Rs.Pairwise Before → (∀ R ∈ Rs, old ≤ R.1) → ∀ x ∈ gapsP n u old p Rs, (old : Int) ≤ x.f
  | [], old, p, _, _, x, hx => by simp only [gapsP, List.mem_singleton] at hx; subst hx; exact Int.le_refl _
  | R :: Rs, old, p, h, ho, x, hx => by
    rw [List.pairwise_cons] at h
    rcases List.mem_cons.1 hx with rfl | hx
    · exact Int.le_refl _
    · have := gapsP_f n u Rs (R.1 + R.2.2) (R.2.1 + R.2.2) h.2 (fun Q hQ => (h.1 Q hQ).1) x hx
      have := ho R (by simp)
      omega
theorem gapsP_gap (n : Nat) (u : List UInt8) : ∀ (Rs : List Prt) (old p : Nat), Rs.Pairwise Before → (∀ R ∈ Rs, 0 < R.2.2) → (gapsP n u old p Rs).Pairwise Gap
  | [], old, p, _, _ => by simp [gapsP]
  | R :: Rs, old, p, h, hp => by
    rw [List.pairwise_cons] at h
    unfold gapsP
    rw [List.pairwise_cons]
    refine ⟨fun x hx => ?_, gapsP_gap n u Rs _ _ h.2 fun Q hQ => hp Q (List.mem_cons_of_mem _ hQ)⟩
    have := gapsP_f n u Rs (R.1 + R.2.2) (R.2.1 + R.2.2) h.2 (fun Q hQ => (h.1 Q hQ).1) x hx
    have := hp R (by simp)
    unfold Gap
    simp only
    omega
theorem refK_f (n : Nat) : ∀ (r : List (Int × UInt8)) (p : Nat) (x : List UInt8), (r.filter fun y => decide (0 ≤ y.1)).Pairwise (fun y z => y.1 < z.1) → (∀ y ∈ r, 0 ≤ y.1 → (p : Int) ≤ y.1) → ∀ e ∈ refK n p x r, (p : Int) ≤ e.f
  | [], p, x, _, _, e, he => by
    unfold refK at he
    split at he
    · simp only [List.mem_singleton] at he; subst he; exact Int.le_refl _
    · simp at he
  | (c, b) :: r, p, x, h, hp, e, he => by
    rw [List.filter_cons] at h
    unfold refK at he
    simp only at he
    by_cases hc : c < 0
    · rw [if_pos hc] at he
      rw [if_neg (by simp; omega)] at h
      exact refK_f n r p _ h (fun y hy => hp y (List.mem_cons_of_mem _ hy)) e he
    · rw [if_neg hc] at he
      rw [if_pos (by simp; omega), List.pairwise_cons] at h
      have hpc := hp (c, b) (by simp) (by show 0 ≤ c; omega)
      simp only at hpc
      rcases List.mem_append.1 he with he | he
      · split at he
        · simp only [List.mem_singleton] at he; subst he; exact Int.le_refl _
        · simp at he
      · have := refK_f n r (c.toNat + 1) [] h.2 (fun y hy h0 => by
          have := h.1 y (by rw [List.mem_filter]; exact ⟨hy, by simpa using h0⟩)
          simp only at this
          omega) e he
        omega
theorem refK_gap (n : Nat) : ∀ (r : List (Int × UInt8)) (p : Nat) (x : List UInt8), (r.filter fun y => decide (0 ≤ y.1)).Pairwise (fun y z => y.1 < z.1) → (refK n p x r).Pairwise Gap
  | [], p, x, _ => by unfold refK; split <;> simp
  | (c, b) :: r, p, x, h => by
    rw [List.filter_cons] at h
    unfold refK
    simp only
    by_cases hc : c < 0
    · rw [if_pos hc]
      rw [if_neg (by simp; omega)] at h
      exact refK_gap n r p _ h
    · rw [if_neg hc]
      rw [if_pos (by simp; omega), List.pairwise_cons] at h
      rw [List.pairwise_append]
      refine ⟨by split <;> simp, refK_gap n r _ [] h.2, fun e he e' he' => ?_⟩
      have := refK_f n r (c.toNat + 1) [] h.2 (fun y hy h0 => by
          have := h.1 y (by rw [List.mem_filter]; exact ⟨hy, by simpa using h0⟩)
          simp only at this
          omega) e' he'
      unfold Gap
      split at he
      · simp only [List.mem_singleton] at he
        subst he
        simp only
        omega
      · simp at he
end Go.Proofs.Ytpncjgcdiomloaa
