/-
  The plain law of edits: soundness, application, inversion, offsets, differences, normal form. No program in sight.
-/
import Derived.WalkKit
namespace Go.Proofs.Ytmonpnikdheokaa
open Go Go.Proofs
set_option linter.unusedVariables false
set_option linter.unusedSimpArgs false

/-- An edit: from, to, text. -/
structure Ed where
  f : Int
  t : Int
  x : List UInt8

def soundL (size : Int) : Int → List Ed → Int
  | _, [] => 0
  | last, e :: es => if e.f < 0 ∨ e.t < e.f ∨ size < e.t then 5 else if e.f < last then 1 else soundL size e.t es
def validL (size : Int) (es : List Ed) : Int := if 64 < es.length then 4 else soundL size 0 es
def cutL (s : List UInt8) (a b : Nat) : List UInt8 := (s.drop a).take (b - a)
def applyL (s : List UInt8) : Nat → List Ed → List UInt8
  | p, [] => s.drop p
  | p, e :: es => cutL s p e.f.toNat ++ e.x ++ applyL s e.t.toNat es
def growE (e : Ed) : Int := (e.x.length : Int) - (e.t - e.f)
def growL : List Ed → Int
  | [] => 0
  | e :: es => growE e + growL es

/-- Edits one behind the other from p on, in a text of n bytes. -/
def Snd (n : Nat) : Nat → List Ed → Prop
  | p, [] => p ≤ n
  | p, e :: es => (p : Int) ≤ e.f ∧ e.f ≤ e.t ∧ e.t ≤ (n : Int) ∧ Snd n e.t.toNat es
theorem Snd.le {n p : Nat} {es : List Ed} (h : Snd n p es) : p ≤ n := by
  cases es with
  | nil => exact h
  | cons e es => have := h.1; have := h.2.1; have := h.2.2.1; omega
theorem snd_of {n : Nat} {es : List Ed} : ∀ {p : Nat}, soundL n p es = 0 → p ≤ n → Snd n p es := by
  induction es with
  | nil => intro p _ hp; exact hp
  | cons e es ih =>
    intro p h hp
    unfold soundL at h
    split at h
    · omega
    · split at h
      · omega
      · have e1 : e.t = ((e.t.toNat : Nat) : Int) := by omega
        refine ⟨by omega, by omega, by omega, ih (by rw [← e1]; exact h) (by omega)⟩
theorem of_snd {n : Nat} {es : List Ed} : ∀ {p : Nat}, Snd n p es → soundL n p es = 0 := by
  induction es with
  | nil => intro p _; rfl
  | cons e es ih =>
    intro p h
    obtain ⟨h1, h2, h3, h4⟩ := h
    have e1 : e.t = ((e.t.toNat : Nat) : Int) := by omega
    unfold soundL
    rw [if_neg (by omega), if_neg (by omega), e1]
    exact ih h4
theorem sound_range (size last : Int) (es : List Ed) : soundL size last es = 0 ∨ soundL size last es = 1 ∨ soundL size last es = 5 := by
  induction es generalizing last with
  | nil => exact .inl rfl
  | cons e es ih => unfold soundL; split; · simp
                    split; · simp
                    exact ih _
theorem cutL_len {s : List UInt8} {a b : Nat} (h : a ≤ b) (hb : b ≤ s.length) : (cutL s a b).length = b - a := by unfold cutL; simp; omega
theorem cutL_drop {s : List UInt8} {a b : Nat} (h : a ≤ b) : cutL s a b ++ s.drop b = s.drop a := by
  unfold cutL
  have : s.drop b = (s.drop a).drop (b - a) := by rw [List.drop_drop]; congr 1; omega
  rw [this, List.take_append_drop]
theorem cutL_app {s : List UInt8} {a b c : Nat} (h : a ≤ b) (h2 : b ≤ c) : cutL s a b ++ cutL s b c = cutL s a c := by
  unfold cutL
  have : s.drop b = (s.drop a).drop (b - a) := by rw [List.drop_drop]; congr 1; omega
  rw [this, show c - a = (b - a) + (c - b) by omega, List.take_add]
theorem cutL_nil (s : List UInt8) (a : Nat) : cutL s a a = [] := by unfold cutL; simp
theorem apply_len {s : List UInt8} {es : List Ed} : ∀ {p : Nat}, Snd s.length p es → ((applyL s p es).length : Int) = s.length - p + growL es := by
  induction es with
  | nil => intro p h; have := h.le; simp only [applyL, growL, List.length_drop]; omega
  | cons e es ih =>
    intro p h
    obtain ⟨h1, h2, h3, h4⟩ := h
    have := ih h4
    have hc := cutL_len (s := s) (a := p) (b := e.f.toNat) (by omega) (by omega)
    simp only [applyL, growL, growE, List.length_append, hc]
    omega

/-! ### Back -/
def invL (s : List UInt8) : Int → List Ed → List Ed
  | _, [] => []
  | d, e :: es => ⟨e.f + d, e.f + d + e.x.length, cutL s e.f.toNat e.t.toNat⟩ :: invL s (d + growE e) es
theorem inv_length (s : List UInt8) (es : List Ed) (d : Int) : (invL s d es).length = es.length := by
  induction es generalizing d with
  | nil => rfl
  | cons e es ih => simp [invL, ih]
theorem inv_sound {s : List UInt8} {es : List Ed} : ∀ {p q : Nat} {d : Int} {u : Nat}, Snd s.length p es → (q : Int) = p + d → (u : Int) = s.length + d + growL es → Snd u q (invL s d es) := by
  induction es with
  | nil => intro p q d u h hq hu; have := h.le; simp only [growL] at hu; show q ≤ u; omega
  | cons e es ih =>
    intro p q d u h hq hu
    obtain ⟨h1, h2, h3, h4⟩ := h
    simp only [growL, growE] at hu
    have hl : (s.length : Int) + (d + growE e) + growL es = u := by unfold growE; omega
    have hr := ih (q := (e.f + d + e.x.length).toNat) (d := d + growE e) (u := u) h4 (by unfold growE; omega) (by omega)
    have hrl := hr.le
    exact ⟨by show (q : Int) ≤ e.f + d; omega, by show e.f + d ≤ e.f + d + e.x.length; omega, by show e.f + d + e.x.length ≤ u; omega, hr⟩
theorem inv_apply {s : List UInt8} {es : List Ed} : ∀ {p q : Nat} {d : Int} {pre : List UInt8}, Snd s.length p es → (q : Int) = p + d → pre.length = q → applyL (pre ++ applyL s p es) q (invL s d es) = s.drop p := by
  induction es with
  | nil => intro p q d pre h hq hl; simp only [invL, applyL, ← hl, List.drop_left]
  | cons e es ih =>
    intro p q d pre h hq hl
    obtain ⟨h1, h2, h3, h4⟩ := h
    have hc := cutL_len (s := s) (a := p) (b := e.f.toNat) (by omega) (by omega)
    have e1 : pre ++ applyL s p (e :: es) = (pre ++ cutL s p e.f.toNat ++ e.x) ++ applyL s e.t.toNat es := by simp [applyL]
    have hr := ih (q := (e.f + d + e.x.length).toNat) (d := d + growE e) (pre := pre ++ cutL s p e.f.toNat ++ e.x) h4 (by unfold growE; omega) (by simp only [List.length_append, hc]; omega)
    rw [e1]
    simp only [invL]
    rw [applyL]
    simp only
    rw [hr]
    have e2 : cutL (pre ++ cutL s p e.f.toNat ++ e.x ++ applyL s e.t.toNat es) q (e.f + d).toNat = cutL s p e.f.toNat := by
      conv => lhs; unfold cutL
      rw [List.append_assoc, List.append_assoc, ← hl, List.drop_left]
      refine List.take_left' ?_
      have hc' := hc
      unfold cutL at hc'
      rw [hc']; omega
    rw [e2, List.append_assoc, cutL_drop (by omega), cutL_drop (by omega)]

/-! ### Offsets -/
def mapL (off : Int) (after : Bool) : Int → List Ed → Int
  | out, [] => out
  | out, e :: es => if e.t < off ∨ (e.t = off ∧ e.f < e.t) then mapL off after (out + growE e) es
      else if e.f < off then (if after then out + (e.f - off) + e.x.length else out + (e.f - off))
      else if e.t = off ∧ after = true then mapL off after (out + e.x.length) es else mapL off after out es
/-- The reference's way. -/
def mapR (off : Int) (after : Bool) : Int → Int → List Ed → Int
  | d, more, [] => if after then off + d + more else off + d
  | d, more, e :: es => if e.t < off ∨ (e.t = off ∧ e.f < e.t) then mapR off after (d + growE e) more es
      else if e.f < off then (if after then e.f + d + e.x.length else e.f + d)
      else if e.t = off then mapR off after d (more + e.x.length) es else mapR off after d more es
/-- Behind p no edit reaches back. -/
def From : Int → List Ed → Prop
  | _, [] => True
  | p, e :: es => p ≤ e.f ∧ e.f ≤ e.t ∧ From e.t es
theorem from_of {size : Int} {es : List Ed} : ∀ {last : Int}, soundL size last es = 0 → From last es := by
  induction es with
  | nil => intro _ _; trivial
  | cons e es ih =>
    intro last h
    unfold soundL at h
    split at h
    · omega
    · split at h
      · omega
      · exact ⟨by omega, by omega, ih h⟩
theorem map_eq {off : Int} {after : Bool} {es : List Ed} : ∀ {last d more : Int}, From last es → (more = 0 ∨ off ≤ last) → mapL off after (off + d + (if after then more else 0)) es = mapR off after d more es := by
  induction es with
  | nil => intro last d more _ _; unfold mapL mapR; cases after <;> simp
  | cons e es ih =>
    intro last d more h hm
    obtain ⟨h1, h2, h3⟩ := h
    unfold mapL mapR
    by_cases c1 : e.t < off ∨ (e.t = off ∧ e.f < e.t)
    · rw [if_pos c1, if_pos c1]
      have hm0 : more = 0 := by omega
      subst hm0
      rw [← ih (d := d + growE e) (more := 0) h3 (.inl rfl)]
      congr 1
      split <;> omega
    · rw [if_neg c1, if_neg c1]
      by_cases c2 : e.f < off
      · rw [if_pos c2, if_pos c2]
        have hm0 : more = 0 := by omega
        subst hm0
        cases after <;> simp <;> omega
      · rw [if_neg c2, if_neg c2]
        by_cases c3 : e.t = off
        · rw [if_pos c3, ← ih (d := d) (more := more + e.x.length) h3 (.inr (by omega))]
          cases after
          · rw [if_neg (by simp)]; simp
          · rw [if_pos ⟨c3, rfl⟩]; congr 1; simp; omega
        · rw [if_neg c3, if_neg (fun h => c3 h.1)]
          exact ih h3 (by omega)

/-! ### The difference -/
def lcpL : List UInt8 → List UInt8 → Nat
  | x :: a, y :: b => if x = y then lcpL a b + 1 else 0
  | _, _ => 0
theorem lcp_le (a b : List UInt8) : lcpL a b ≤ a.length ∧ lcpL a b ≤ b.length := by
  induction a generalizing b with
  | nil => simp [lcpL]
  | cons x a ih =>
    cases b with
    | nil => simp [lcpL]
    | cons y b =>
      have := ih b
      unfold lcpL
      split <;> simp <;> omega
theorem lcp_take (a b : List UInt8) : a.take (lcpL a b) = b.take (lcpL a b) := by
  induction a generalizing b with
  | nil => simp [lcpL]
  | cons x a ih =>
    cases b with
    | nil => simp [lcpL]
    | cons y b =>
      unfold lcpL
      split
      · rename_i h; subst h; simp [ih b]
      · simp
theorem lcp_next {a b : List UInt8} (h1 : lcpL a b < a.length) (h2 : lcpL a b < b.length) : a[lcpL a b] ≠ b[lcpL a b] := by
  induction a generalizing b with
  | nil => simp at h1
  | cons x a ih =>
    cases b with
    | nil => simp at h2
    | cons y b =>
      by_cases h : x = y
      · have e : lcpL (x :: a) (y :: b) = lcpL a b + 1 := by rw [lcpL, if_pos h]
        simp only [e, List.length_cons] at h1 h2 ⊢
        simpa using ih (b := b) (by omega) (by omega)
      · have e : lcpL (x :: a) (y :: b) = 0 := by rw [lcpL, if_neg h]
        simp only [e]
        simpa using h
/-- How much of the ends is equal, behind the equal beginning. -/
def preL (a b : List UInt8) : Nat := lcpL a b
def sufL (a b : List UInt8) : Nat := lcpL ((a.drop (lcpL a b)).reverse) ((b.drop (lcpL a b)).reverse)
def diffL (a b : List UInt8) : List Ed := if a = b then [] else [⟨preL a b, (a.length : Int) - sufL a b, cutL b (preL a b) (b.length - sufL a b)⟩]

/-! ### The normal form -/
def joinC (c : Ed) : List Ed → List Ed
  | [] => [c]
  | x :: es => if c.t = x.f then joinC ⟨c.f, x.t, c.x ++ x.x⟩ es else c :: joinC x es
def joinL : List Ed → List Ed
  | [] => []
  | x :: es => joinC x es
def keepE (s : List UInt8) (e : Ed) : Bool := !decide (cutL s e.f.toNat e.t.toNat = e.x)
def normL (s : List UInt8) (es : List Ed) : List Ed := (joinL es).filter (keepE s)
theorem joinC_len (c : Ed) (es : List Ed) : (joinC c es).length ≤ es.length + 1 := by
  induction es generalizing c with
  | nil => simp [joinC]
  | cons x es ih =>
    unfold joinC
    split
    · have := ih ⟨c.f, x.t, c.x ++ x.x⟩; simp; omega
    · have := ih x; simp; omega
theorem joinL_len (es : List Ed) : (joinL es).length ≤ es.length := by
  cases es with
  | nil => simp [joinL]
  | cons x es => have := joinC_len x es; simp [joinL]; omega
theorem norm_len (s : List UInt8) (es : List Ed) : (normL s es).length ≤ es.length := Nat.le_trans (List.length_filter_le _ _) (joinL_len es)
end Go.Proofs.Ytmonpnikdheokaa
