/-
  Characters, units and lines of byte strings, as plain functions. No program in sight.
-/
import Derived.WalkKit
import Derived.Laws.RangeAny
namespace Go.Proofs.Ytmonpnikdheokaa
open Go Go.Proofs
set_option linter.unusedVariables false
set_option linter.unusedSimpArgs false

theorem len_pos {α : Type} {l : List α} (h : l ≠ []) : 0 < l.length := List.length_pos_iff.2 h
def by8 (l : List UInt8) (k : Nat) : Nat := (l.getD k 0).toNat
theorem by8_lt (l : List UInt8) (k : Nat) : by8 l k < 256 := (l.getD k 0).toNat_lt
def bet (l : List UInt8) (k lo hi : Nat) : Bool := decide (k < l.length) && (decide (lo ≤ by8 l k) && decide (by8 l k ≤ hi))
def loN (c : Nat) : Nat := if c = 224 then 160 else if c = 240 then 144 else 128
def hiN (c : Nat) : Nat := if c = 237 then 159 else if c = 244 then 143 else 191
/-- The bytes and the units of the character at the beginning. -/
def chL (l : List UInt8) : Nat × Nat :=
  if 194 ≤ by8 l 0 ∧ by8 l 0 ≤ 223 ∧ bet l 1 128 191 = true then (2, 1)
  else if 224 ≤ by8 l 0 ∧ by8 l 0 ≤ 239 ∧ bet l 1 (loN (by8 l 0)) (hiN (by8 l 0)) = true ∧ bet l 2 128 191 = true then (3, 1)
  else if 240 ≤ by8 l 0 ∧ by8 l 0 ≤ 244 ∧ bet l 1 (loN (by8 l 0)) (hiN (by8 l 0)) = true ∧ bet l 2 128 191 = true ∧ bet l 3 128 191 = true then (4, 2)
  else (1, 1)

theorem bet_iff {l : List UInt8} {k lo hi : Nat} : bet l k lo hi = true ↔ k < l.length ∧ lo ≤ by8 l k ∧ by8 l k ≤ hi := by
  unfold bet; simp
theorem loN_ge (c : Nat) : 128 ≤ loN c := by unfold loN; repeat' split
                                             all_goals omega
/-- The four kinds of characters. -/
theorem chL_cases (l : List UInt8) : (chL l = (1, 1)) ∨
    (chL l = (2, 1) ∧ 194 ≤ by8 l 0 ∧ 1 < l.length ∧ 128 ≤ by8 l 1) ∨
    (chL l = (3, 1) ∧ 194 ≤ by8 l 0 ∧ 2 < l.length ∧ 128 ≤ by8 l 1 ∧ 128 ≤ by8 l 2) ∨
    (chL l = (4, 2) ∧ 194 ≤ by8 l 0 ∧ 3 < l.length ∧ 128 ≤ by8 l 1 ∧ 128 ≤ by8 l 2 ∧ 128 ≤ by8 l 3) := by
  have hlo := loN_ge (by8 l 0)
  unfold chL
  split
  · rename_i h
    obtain ⟨h1, h2, h3⟩ := h
    have := bet_iff.1 h3
    exact .inr (.inl ⟨rfl, h1, by omega, by omega⟩)
  · split
    · rename_i _ h
      obtain ⟨h1, h2, h3, h4⟩ := h
      have := bet_iff.1 h3
      have := bet_iff.1 h4
      exact .inr (.inr (.inl ⟨rfl, by omega, by omega, by omega, by omega⟩))
    · split
      · rename_i _ _ h
        obtain ⟨h1, h2, h3, h4, h5⟩ := h
        have := bet_iff.1 h3
        have := bet_iff.1 h4
        have := bet_iff.1 h5
        exact .inr (.inr (.inr ⟨rfl, by omega, by omega, by omega, by omega, by omega⟩))
      · exact .inl rfl
theorem chL_pos (l : List UInt8) : 1 ≤ (chL l).1 := by
  rcases chL_cases l with h | ⟨h, _⟩ | ⟨h, _⟩ | ⟨h, _⟩ <;> rw [h] <;> simp
theorem chL_w4 (l : List UInt8) : (chL l).1 ≤ 4 := by
  rcases chL_cases l with h | ⟨h, _⟩ | ⟨h, _⟩ | ⟨h, _⟩ <;> rw [h] <;> simp
theorem chL_u2 (l : List UInt8) : 1 ≤ (chL l).2 ∧ (chL l).2 ≤ 2 ∧ (chL l).2 ≤ (chL l).1 := by
  rcases chL_cases l with h | ⟨h, _⟩ | ⟨h, _⟩ | ⟨h, _⟩ <;> rw [h] <;> simp
theorem chL_le {l : List UInt8} (h : l ≠ []) : (chL l).1 ≤ l.length := by
  have := len_pos h
  rcases chL_cases l with h | ⟨h, _⟩ | ⟨h, _⟩ | ⟨h, _⟩ <;> rw [h] <;> simp <;> omega
theorem chL_low {l : List UInt8} (h : by8 l 0 < 128) : chL l = (1, 1) := by
  rcases chL_cases l with h' | ⟨h', _⟩ | ⟨h', _⟩ | ⟨h', _⟩
  · exact h'
  all_goals omega
/-- Inside a character all bytes are high. -/
theorem chL_high {l : List UInt8} {k : Nat} (h1 : 0 < k) (h2 : k < (chL l).1) : 128 ≤ by8 l k := by
  rcases chL_cases l with h | ⟨h, h3⟩ | ⟨h, h3⟩ | ⟨h, h3⟩ <;> rw [h] at h2 <;> simp only at h2
  · omega
  · obtain rfl : k = 1 := by omega
    omega
  · rcases (by omega : k = 1 ∨ k = 2) with rfl | rfl <;> omega
  · rcases (by omega : k = 1 ∨ k = 2 ∨ k = 3) with rfl | rfl | rfl <;> omega
theorem chL_first {l : List UInt8} (h2 : 1 < (chL l).1) : 194 ≤ by8 l 0 := by
  rcases chL_cases l with h | ⟨h, h3⟩ | ⟨h, h3⟩ | ⟨h, h3⟩
  · rw [h] at h2; simp at h2
  all_goals omega

theorem by8_drop (l : List UInt8) (p k : Nat) : by8 (l.drop p) k = by8 l (p + k) := by
  unfold by8; simp [List.getD_eq_getElem?_getD]
theorem by8_take {l : List UInt8} {m k : Nat} (h : k < m) : by8 (l.take m) k = by8 l k := by
  unfold by8; simp [List.getD_eq_getElem?_getD, List.getElem?_take, h]
theorem by8_appL {l r : List UInt8} {k : Nat} (h : k < l.length) : by8 (l ++ r) k = by8 l k := by
  unfold by8; simp [List.getD_eq_getElem?_getD, List.getElem?_append_left h]
theorem bet_take {l : List UInt8} {m k lo hi : Nat} (h : k < m) : bet (l.take m) k lo hi = bet l k lo hi := by
  unfold bet; rw [by8_take h, List.length_take]; congr 1; rw [Bool.eq_iff_iff]; simp; omega
theorem bet_take_le {l : List UInt8} {m k lo hi : Nat} (h : bet (l.take m) k lo hi = true) : bet l k lo hi = true := by
  have h' := bet_iff.1 h
  have hk : k < m := by have := h'.1; simp at this; omega
  rw [bet_take hk] at h
  exact h
/-- A text cut at or behind the end of its first character. -/
theorem chL_take {l : List UInt8} {m : Nat} (h : (chL l).1 ≤ m) : chL (l.take m) = chL l := by
  have h0 : 0 < m := by have := chL_pos l; omega
  have e0 := by8_take (l := l) h0
  by_cases h1 : 1 < m
  · have e1 : ∀ lo hi, bet (l.take m) 1 lo hi = bet l 1 lo hi := fun lo hi => bet_take h1
    by_cases h2 : 2 < m
    · have e2 : ∀ lo hi, bet (l.take m) 2 lo hi = bet l 2 lo hi := fun lo hi => bet_take h2
      by_cases h3 : 3 < m
      · have e3 : ∀ lo hi, bet (l.take m) 3 lo hi = bet l 3 lo hi := fun lo hi => bet_take h3
        unfold chL; simp only [e0, e1, e2, e3]
      · have hb : bet (l.take m) 3 128 191 = false := by
          rw [Bool.eq_false_iff]; intro hb; have := (bet_iff.1 hb).1; simp at this; omega
        unfold chL at h ⊢
        simp only [e0, e1, e2, hb]
        repeat' split at h
        all_goals repeat' split
        all_goals simp_all
        all_goals omega
    · have hb : ∀ lo hi, bet (l.take m) 2 lo hi = false := by
        intro lo hi; rw [Bool.eq_false_iff]; intro hb; have := (bet_iff.1 hb).1; simp at this; omega
      unfold chL at h ⊢
      simp only [e0, e1, hb]
      repeat' split at h
      all_goals repeat' split
      all_goals simp_all
      all_goals omega
  · have hb : ∀ lo hi, bet (l.take m) 1 lo hi = false := by
      intro lo hi; rw [Bool.eq_false_iff]; intro hb; have := (bet_iff.1 hb).1; simp at this; omega
    unfold chL at h ⊢
    simp only [e0, hb]
    repeat' split at h
    all_goals repeat' split
    all_goals simp_all
    all_goals omega
theorem take_app_len {l r : List UInt8} : (l ++ r).take l.length = l := by simp
/-- Behind a whole text: what follows does not matter where the first character is complete. -/
theorem chL_app {l r : List UInt8} (h0 : l ≠ []) (h : 1 < (chL l).1 ∨ by8 l 0 < 128) : chL (l ++ r) = chL l := by
  have hp := len_pos h0
  rcases h with h | h
  · have hk : ∀ k lo hi, k < l.length → bet (l ++ r) k lo hi = bet l k lo hi := by
      intro k lo hi hk
      unfold bet
      rw [by8_appL hk]
      congr 1
      rw [Bool.eq_iff_iff]; simp; omega
    have e0 : by8 (l ++ r) 0 = by8 l 0 := by8_appL hp
    rcases chL_cases l with h' | ⟨h', _, h3, _⟩ | ⟨h', _, h3, _⟩ | ⟨h', _, h3, _⟩
    · rw [h'] at h; simp at h
    · have e1 := fun lo hi => hk 1 lo hi (by omega)
      unfold chL at h' ⊢
      simp only [e0, e1]
      repeat' split at h'
      all_goals simp_all
    · have e1 := fun lo hi => hk 1 lo hi (by omega)
      have e2 := fun lo hi => hk 2 lo hi (by omega)
      unfold chL at h' ⊢
      simp only [e0, e1, e2]
      repeat' split at h'
      all_goals simp_all
    · have e1 := fun lo hi => hk 1 lo hi (by omega)
      have e2 := fun lo hi => hk 2 lo hi (by omega)
      have e3 := fun lo hi => hk 3 lo hi (by omega)
      unfold chL at h' ⊢
      simp only [e0, e1, e2, e3]
      repeat' split at h'
      all_goals simp_all
  · rw [chL_low h, chL_low (by rw [by8_appL hp]; exact h)]
/-- What follows begins with a low byte, or is nothing. -/
theorem chL_stop {l r : List UInt8} (h0 : l ≠ []) (hr : r = [] ∨ by8 r 0 < 128) : chL (l ++ r) = chL l := by
  have hp := len_pos h0
  have key : (chL (l ++ r)).1 ≤ l.length := by
    rcases hr with rfl | hr
    · rw [List.append_nil]; exact chL_le h0
    · refine Nat.le_of_not_lt fun hlt => ?_
      have := chL_high (l := l ++ r) (k := l.length) hp hlt
      have e : by8 (l ++ r) l.length = by8 r 0 := by
        unfold by8; simp [List.getD_eq_getElem?_getD, List.getElem?_append_right]
      omega
  have := chL_take key
  rw [take_app_len] at this
  exact this.symm

/-! ### What the model decodes -/
theorem by8_get (s : ByteArray) (p k : Nat) : by8 (s.data.toList.drop p) k = (s.get! (p + k)).toNat := by
  rw [by8_drop]
  unfold by8
  congr 1
  rw [List.getD_eq_getElem?_getD, Array.getElem?_toList]
  by_cases h : p + k < s.size
  · have h' : p + k < s.data.size := h
    simp [ByteArray.get!, getElem!_pos, h, h']
  · have h' : ¬ p + k < s.data.size := h
    simp [ByteArray.get!, getElem!_neg, h, h']
    rfl
def decN (b0 b1 b2 b3 : Nat) (q1 q2 q3 : Bool) : Nat × Nat :=
  let cont (q : Bool) (b : Nat) : Bool := q && b / 64 == 2
  if b0 < 0x80 then (b0, 1)
  else if b0 / 32 == 6 && cont q1 b1 then
    let c := (b0 % 32) * 64 + b1 % 64
    if c ≥ 0x80 then (c, 2) else (Utf8.runeError, 1)
  else if b0 / 16 == 14 && cont q1 b1 && cont q2 b2 then
    let c := (b0 % 16) * 4096 + (b1 % 64) * 64 + b2 % 64
    if c ≥ 0x800 && Utf8.valid c then (c, 3) else (Utf8.runeError, 1)
  else if b0 / 8 == 30 && cont q1 b1 && cont q2 b2 && cont q3 b3 then
    let c := (b0 % 8) * 262144 + (b1 % 64) * 4096 + (b2 % 64) * 64 + b3 % 64
    if c ≥ 0x10000 && Utf8.valid c then (c, 4) else (Utf8.runeError, 1)
  else (Utf8.runeError, 1)
theorem decode_N (s : ByteArray) (p : Nat) : Utf8.decode s p = decN (s.get! (p + 0)).toNat (s.get! (p + 1)).toNat (s.get! (p + 2)).toNat (s.get! (p + 3)).toNat (decide (p + 1 < s.size)) (decide (p + 2 < s.size)) (decide (p + 3 < s.size)) := rfl
def betN (q : Bool) (b lo hi : Nat) : Bool := q && (decide (lo ≤ b) && decide (b ≤ hi))
def chN (b0 b1 b2 b3 : Nat) (q1 q2 q3 : Bool) : Nat × Nat :=
  if 194 ≤ b0 ∧ b0 ≤ 223 ∧ betN q1 b1 128 191 = true then (2, 1)
  else if 224 ≤ b0 ∧ b0 ≤ 239 ∧ betN q1 b1 (loN b0) (hiN b0) = true ∧ betN q2 b2 128 191 = true then (3, 1)
  else if 240 ≤ b0 ∧ b0 ≤ 244 ∧ betN q1 b1 (loN b0) (hiN b0) = true ∧ betN q2 b2 128 191 = true ∧ betN q3 b3 128 191 = true then (4, 2)
  else (1, 1)
theorem valid_iff (c : Nat) : Utf8.valid (c : Int) = true ↔ c < 55296 ∨ (57344 ≤ c ∧ c ≤ 1114111) := by
  unfold Utf8.valid
  simp
  omega
set_option maxHeartbeats 4000000 in
theorem dec_num (b0 b1 b2 b3 : Nat) (q1 q2 q3 : Bool) (l0 : b0 < 256) (l1 : b1 < 256) (l2 : b2 < 256) (l3 : b3 < 256) :
    (decN b0 b1 b2 b3 q1 q2 q3).2 = (chN b0 b1 b2 b3 q1 q2 q3).1 ∧ (if 65536 ≤ (decN b0 b1 b2 b3 q1 q2 q3).1 then 2 else 1) = (chN b0 b1 b2 b3 q1 q2 q3).2 ∧ ((decN b0 b1 b2 b3 q1 q2 q3).1 = 10 ↔ b0 = 10) := by
  have two : ∀ (q : Bool) (b : Nat), (q && b / 64 == 2) = true ↔ q = true ∧ 128 ≤ b ∧ b ≤ 191 := by
    intro q b
    simp
    intro _
    omega
  have bt : ∀ (q : Bool) (b lo hi : Nat), betN q b lo hi = true ↔ q = true ∧ lo ≤ b ∧ b ≤ hi := by
    intro q b lo hi
    unfold betN
    simp
  have hlo : (b0 = 224 ∧ loN b0 = 160) ∨ (b0 = 240 ∧ loN b0 = 144) ∨ (b0 ≠ 224 ∧ b0 ≠ 240 ∧ loN b0 = 128) := by
    unfold loN; split
    · left; omega
    · split <;> omega
  have hhi : (b0 = 237 ∧ hiN b0 = 159) ∨ (b0 = 244 ∧ hiN b0 = 143) ∨ (b0 ≠ 237 ∧ b0 ≠ 244 ∧ hiN b0 = 191) := by
    unfold hiN; split
    · left; omega
    · split <;> omega
  have key : (decN b0 b1 b2 b3 q1 q2 q3 = (b0, 1) ∧ b0 < 128 ∧ chN b0 b1 b2 b3 q1 q2 q3 = (1, 1)) ∨
      ∃ c w u, decN b0 b1 b2 b3 q1 q2 q3 = (c, w) ∧ chN b0 b1 b2 b3 q1 q2 q3 = (w, u) ∧ 128 ≤ b0 ∧ 128 ≤ c ∧ ((c < 65536 ∧ u = 1) ∨ (65536 ≤ c ∧ u = 2)) := by
    unfold decN chN
    simp only [bt, Bool.and_eq_true, valid_iff, decide_eq_true_eq, beq_iff_eq, ge_iff_le, Utf8.runeError]
    generalize loN b0 = lo at *
    generalize hiN b0 = hi at *
    by_cases h1 : b0 < 128
    · left
      rw [if_pos h1, if_neg (by omega), if_neg (by omega), if_neg (by omega)]
      exact ⟨rfl, h1, rfl⟩
    · right
      rw [if_neg h1]
      by_cases a1 : 194 ≤ b0 ∧ b0 ≤ 223 ∧ q1 = true ∧ 128 ≤ b1 ∧ b1 ≤ 191
      · obtain ⟨x1, x2, x3, x4, x5⟩ := a1
        subst x3
        rw [if_pos (by refine ⟨by omega, rfl, by omega⟩), if_pos (by omega), if_pos ⟨x1, x2, rfl, x4, x5⟩]
        exact ⟨_, _, _, rfl, rfl, by omega, by omega, .inl ⟨by omega, rfl⟩⟩
      · rw [if_neg a1]
        by_cases a2 : 224 ≤ b0 ∧ b0 ≤ 239 ∧ (q1 = true ∧ lo ≤ b1 ∧ b1 ≤ hi) ∧ q2 = true ∧ 128 ≤ b2 ∧ b2 ≤ 191
        · obtain ⟨x1, x2, ⟨x3, x4, x5⟩, x6, x7, x8⟩ := a2
          subst x3 x6
          rw [if_neg (by rintro ⟨y, _⟩; omega), if_pos (by refine ⟨⟨by omega, rfl, by omega⟩, rfl, by omega⟩), if_pos (by omega), if_pos ⟨x1, x2, ⟨rfl, x4, x5⟩, rfl, x7, x8⟩]
          exact ⟨_, _, _, rfl, rfl, by omega, by omega, .inl ⟨by omega, rfl⟩⟩
        · rw [if_neg a2]
          by_cases a3 : 240 ≤ b0 ∧ b0 ≤ 244 ∧ (q1 = true ∧ lo ≤ b1 ∧ b1 ≤ hi) ∧ (q2 = true ∧ 128 ≤ b2 ∧ b2 ≤ 191) ∧ q3 = true ∧ 128 ≤ b3 ∧ b3 ≤ 191
          · obtain ⟨x1, x2, ⟨x3, x4, x5⟩, ⟨x6, x7, x8⟩, x9, x10, x11⟩ := a3
            subst x3 x6 x9
            rw [if_neg (by rintro ⟨y, _⟩; omega), if_neg (by rintro ⟨⟨y, _⟩, _⟩; omega), if_pos (by refine ⟨⟨⟨by omega, rfl, by omega⟩, rfl, by omega⟩, rfl, by omega⟩), if_pos (by omega), if_pos ⟨x1, x2, ⟨rfl, x4, x5⟩, ⟨rfl, x7, x8⟩, rfl, x10, x11⟩]
            exact ⟨_, _, _, rfl, rfl, by omega, by omega, .inr ⟨by omega, rfl⟩⟩
          · rw [if_neg a3]
            refine ⟨65533, 1, 1, ?_, rfl, by omega, by omega, .inl ⟨by omega, rfl⟩⟩
            split
            · rename_i g
              obtain ⟨g1, g2, g3⟩ := g
              rw [if_neg]
              clear a2 a3
              intro g4
              exact a1 ⟨by omega, by omega, g2, by omega, by omega⟩
            · split
              · rename_i g
                obtain ⟨⟨g1, g2, g3⟩, g4, g5⟩ := g
                rw [if_neg]
                clear a1 a3
                intro g6
                exact a2 ⟨by omega, by omega, ⟨g2, by omega, by omega⟩, g4, by omega, by omega⟩
              · split
                · rename_i g
                  obtain ⟨⟨⟨g1, g2, g3⟩, g4, g5⟩, g6, g7⟩ := g
                  rw [if_neg]
                  clear a1 a2
                  intro g8
                  exact a3 ⟨by omega, by omega, ⟨g2, by omega, by omega⟩, ⟨g4, by omega, by omega⟩, g6, by omega, by omega⟩
                · rfl
  rcases key with ⟨k1, k2, k3⟩ | ⟨c, w, u, k1, k2, k3, k4, k5⟩
  · rw [k1, k3]
    refine ⟨rfl, ?_, Iff.rfl⟩
    rw [if_neg (by simp only; omega)]
  · rw [k1, k2]
    refine ⟨rfl, ?_, ?_⟩
    · simp only
      rcases k5 with ⟨k5, k6⟩ | ⟨k5, k6⟩
      · rw [if_neg (by omega), k6]
      · rw [if_pos (by omega), k6]
    · simp only
      omega
theorem dec_link (s : ByteArray) (p : Nat) (h : p < s.size) :
    (Utf8.decode s p).2 = (chL (s.data.toList.drop p)).1 ∧ (if 65536 ≤ (Utf8.decode s p).1 then 2 else 1) = (chL (s.data.toList.drop p)).2 ∧ ((Utf8.decode s p).1 = 10 ↔ by8 (s.data.toList.drop p) 0 = 10) := by
  have hlen : (s.data.toList.drop p).length = s.size - p := by simp
  have hd : ∀ k, 0 < k → decide (k < (s.data.toList.drop p).length) = decide (p + k < s.size) := by
    intro k hk; rw [hlen, Bool.eq_iff_iff]; simp; omega
  have hc : chL (s.data.toList.drop p) = chN (s.get! (p + 0)).toNat (s.get! (p + 1)).toNat (s.get! (p + 2)).toNat (s.get! (p + 3)).toNat (decide (p + 1 < s.size)) (decide (p + 2 < s.size)) (decide (p + 3 < s.size)) := by
    unfold chL chN bet betN
    rw [hd 1 (by omega), hd 2 (by omega), hd 3 (by omega), by8_get, by8_get, by8_get, by8_get]
  rw [hc, decode_N, by8_get]
  exact dec_num _ _ _ _ _ _ _ (UInt8.toNat_lt _) (UInt8.toNat_lt _) (UInt8.toNat_lt _) (UInt8.toNat_lt _)
end Go.Proofs.Ytmonpnikdheokaa
