/-
  Reading values: what is written is read again; a part of it lacks bytes; what is read has one encoding. No program in sight.
-/
import Derived.Test.YtplhclmmmfpgeaaVals
namespace Go.Proofs.Ytplhclmmmfpgeaa
open Go Go.Proofs
set_option linter.unusedVariables false
set_option linter.unusedSimpArgs false

theorem boolR_enc (x : Bool) (t : List UInt8) : boolR ⟨encU (boolN x) ++ t, 0⟩ = (x, ⟨t, 0⟩) := by
  cases x
  · rw [show boolN false = 0 from rfl, encU_small (by omega)]; rfl
  · rw [show boolN true = 1 from rfl, encU_small (by omega)]; rfl
/-- What is written is read again. -/
theorem readV_enc {v : ValS} (h : v.Small) (t : List UInt8) : readV ⟨encV v ++ t, 0⟩ v.kind = (v, ⟨t, 0⟩) := by
  obtain ⟨ok, h1, h2, h3, h4, h5, h6, h7⟩ := h
  have hk := ok.k
  have hu := ok.u
  have hn := ok.n
  have hb := ok.b
  have hl := ok.l
  have hlb := ok.lb
  clear ok
  obtain ⟨k, u, n, b, l⟩ := v
  simp only at *
  rcases (by omega : k = 0 ∨ k = 1 ∨ k = 2 ∨ k = 3 ∨ k = 4 ∨ k = 5) with rfl | rfl | rfl | rfl | rfl | rfl
  · obtain rfl := h4 (by omega) (by omega)
    obtain rfl := h6 (by omega) (by omega)
    obtain rfl := h7 (by omega)
    unfold readV encV
    simp only [if_true]
    rw [uintR_enc hu]
  · obtain rfl := h3 (by omega)
    obtain rfl := h6 (by omega) (by omega)
    obtain rfl := h7 (by omega)
    unfold readV encV
    simp only [show ¬ (1 : Nat) = 0 by omega, if_false, if_true]
    rw [intR_enc hn.1 hn.2]
  · obtain rfl := h3 (by omega)
    obtain rfl := h6 (by omega) (by omega)
    obtain rfl := h7 (by omega)
    unfold readV encV
    simp only [show ¬ (2 : Nat) = 0 by omega, show ¬ (2 : Nat) = 1 by omega, if_false, if_true]
    rw [boolR_enc]
    rcases h5 rfl with rfl | rfl <;> rfl
  · obtain rfl := h3 (by omega)
    obtain rfl := h4 (by omega) (by omega)
    obtain rfl := h7 (by omega)
    unfold readV encV
    simp only [show ¬ (3 : Nat) = 0 by omega, show ¬ (3 : Nat) = 1 by omega, show ¬ (3 : Nat) = 2 by omega, true_or, if_false, if_true]
    rw [rawR_enc (by omega)]
  · obtain rfl := h3 (by omega)
    obtain rfl := h4 (by omega) (by omega)
    obtain rfl := h7 (by omega)
    unfold readV encV
    simp only [show ¬ (4 : Nat) = 0 by omega, show ¬ (4 : Nat) = 1 by omega, show ¬ (4 : Nat) = 2 by omega, or_true, if_false, if_true]
    rw [rawR_enc (by omega)]
  · obtain rfl := h3 (by omega)
    obtain rfl := h4 (by omega) (by omega)
    obtain rfl := h6 (by omega) (by omega)
    unfold readV encV
    simp only [show ¬ (5 : Nat) = 0 by omega, show ¬ (5 : Nat) = 1 by omega, show ¬ (5 : Nat) = 2 by omega, show ¬ ((5 : Nat) = 3 ∨ (5 : Nat) = 4) by omega, if_false, if_true]
    rw [intsR_enc (by omega) hlb]

/-! ### An error stays -/
theorem uintR_err {R : RdS} (h : R.e ≠ 0) : uintR R = (0, R) := by unfold uintR; rw [if_neg h]
theorem manyR_err {R : RdS} (h : R.e ≠ 0) (n : Nat) : manyR n R = ([], R) := by
  cases n with
  | zero => rfl
  | succ n => unfold manyR; rw [if_neg h]
theorem readV_err {R : RdS} (h : R.e ≠ 0) {k : Nat} (hk : k ≤ 5) : readV R k = (⟨k, 0, 0, [], []⟩, R) := by
  have hu := uintR_err h
  have hl : lenR R = (0, R) := by unfold lenR; rw [hu]; simp
  have hn : nextR R = (0, R) := by unfold nextR; rw [if_pos h]
  have hi : intR R = (0, R) := by unfold intR; rw [hu]; show (unzN 0, R) = (0, R); rw [show unzN 0 = 0 from by decide]
  have hb : boolR R = (false, R) := by unfold boolR; rw [hn]; rfl
  have hr : rawR R = ([], R) := by unfold rawR; rw [hl]; rw [if_neg h]
  have hs : intsR R = ([], R) := by unfold intsR; rw [hl]; simp only [manyR_err h]; rw [if_neg h]
  unfold readV
  rw [hu, hi, hb, hr, hs]
  split
  · rfl
  · split
    · rfl
    · split
      · rfl
      · split <;> rfl

/-! ### A part of what is written -/
theorem split_app {α : Type} {p t a b : List α} (h : p ++ t = a ++ b) (ht : t ≠ []) : (∃ t1, t1 ≠ [] ∧ p ++ t1 = a) ∨ (∃ q, p = a ++ q ∧ q ++ t = b) := by
  rcases List.append_eq_append_iff.1 h with ⟨a', h1, h2⟩ | ⟨c', h1, h2⟩
  · by_cases ha : a' = []
    · subst ha
      right
      refine ⟨[], by simpa using h1.symm, by simpa using h2⟩
    · exact .inl ⟨a', ha, h1.symm⟩
  · exact .inr ⟨c', h1, h2.symm⟩
theorem rdU_more : ∀ (k m i n : Nat) (p t : List UInt8), m ≤ k → i ≤ 9 → m * 128 ^ i < 18446744073709551616 → p ++ t = encU m → t ≠ [] → rdU i n p = (0, ⟨[], 3⟩)
  | 0, m, i, n, p, t, hm, hi, hb, h, ht => by
    rw [encU_small (by omega)] at h
    cases p with
    | nil => rfl
    | cons c p => simp at h; exact absurd h.2.2 ht
  | k + 1, m, i, n, p, t, hm, hi, hb, h, ht => by
    by_cases hbig : 128 ≤ m
    · rw [encU_big hbig] at h
      cases p with
      | nil => rfl
      | cons c p =>
        simp only [List.cons_append, List.cons.injEq] at h
        obtain ⟨hc, h⟩ := h
        have hcn : c.toNat = m % 128 + 128 := by rw [hc, UInt8.toNat_ofNat']; omega
        have hi8 : i ≤ 8 := by
          refine Nat.le_of_not_lt fun h9 => ?_
          obtain rfl : i = 9 := by omega
          have : 128 * 128 ^ 9 ≤ m * 128 ^ 9 := Nat.mul_le_mul_right _ hbig
          omega
        unfold rdU
        rw [if_neg (by omega), if_neg (by omega)]
        have hd : m / 128 * 128 ^ (i + 1) ≤ m * 128 ^ i := by
          rw [Nat.pow_succ, Nat.mul_comm (128 ^ i) 128, ← Nat.mul_assoc]
          exact Nat.mul_le_mul_right _ (Nat.div_mul_le_self m 128)
        exact rdU_more k (m / 128) (i + 1) _ p t (by omega) (by omega) (by omega) h ht
    · rw [encU_small (by omega)] at h
      cases p with
      | nil => rfl
      | cons c p => simp at h; exact absurd h.2.2 ht
theorem uintR_more {m : Nat} (hm : m < 18446744073709551616) {p t : List UInt8} (h : p ++ t = encU m) (ht : t ≠ []) : uintR ⟨p, 0⟩ = (0, ⟨[], 3⟩) := by
  unfold uintR
  rw [if_pos rfl]
  exact rdU_more m m 0 0 p t (Nat.le_refl _) (by omega) (by simpa using hm) h ht
theorem lenR_more {m : Nat} (hm : m < 18446744073709551616) {p t : List UInt8} (h : p ++ t = encU m) (ht : t ≠ []) : lenR ⟨p, 0⟩ = (0, ⟨[], 3⟩) := by
  unfold lenR
  rw [uintR_more hm h ht]
  rfl
theorem lenR_less {m : Nat} (hm : m < 18446744073709551616) {q : List UInt8} (h : q.length < m) : lenR ⟨encU m ++ q, 0⟩ = (m, ⟨q, 3⟩) := by
  unfold lenR
  rw [uintR_enc hm]
  simp only
  rw [if_pos h]
  rfl
theorem rawR_more {b : List UInt8} (hb : b.length < 18446744073709551616) {p t : List UInt8} (h : p ++ t = encR b) (ht : t ≠ []) : (rawR ⟨p, 0⟩).2.e = 3 := by
  unfold encR at h
  rcases split_app h ht with ⟨t1, h1, h2⟩ | ⟨q, h1, h2⟩
  · unfold rawR
    rw [lenR_more hb h2 h1]
    rfl
  · subst h1
    have hq : q.length < b.length := by
      have := congrArg List.length h2
      have := List.length_pos_iff.2 ht
      simp at *
      omega
    unfold rawR
    rw [lenR_less hb hq]
    rfl
theorem manyR_more : ∀ (l : List Int) (q t : List UInt8), (∀ n ∈ l, -9223372036854775808 ≤ n ∧ n ≤ 9223372036854775807) → q ++ t = l.flatMap encI → t ≠ [] → (manyR l.length ⟨q, 0⟩).2.e = 3
  | [], q, t, _, h, ht => by simp at h; exact absurd h.2 ht
  | x :: l, q, t, hb, h, ht => by
    rw [List.flatMap_cons] at h
    have hx := hb x (by simp)
    show (manyR (l.length + 1) ⟨q, 0⟩).2.e = 3
    unfold manyR
    rw [if_pos rfl]
    show (manyR l.length (intR ⟨q, 0⟩).2).2.e = 3
    rcases split_app h ht with ⟨t1, h1, h2⟩ | ⟨q', h1, h2⟩
    · have : intR ⟨q, 0⟩ = (0, ⟨[], 3⟩) := by
        unfold intR
        rw [uintR_more (zigN_lt hx.1 hx.2) h2 h1]
        rfl
      rw [this, manyR_err (by simp)]
    · subst h1
      rw [intR_enc hx.1 hx.2]
      exact manyR_more l q' t (fun n hn => hb n (by simp [hn])) h2 ht
theorem intsR_more {l : List Int} (hl : l.length < 18446744073709551616) (hb : ∀ n ∈ l, -9223372036854775808 ≤ n ∧ n ≤ 9223372036854775807) {p t : List UInt8} (h : p ++ t = encIs l) (ht : t ≠ []) : (intsR ⟨p, 0⟩).2.e = 3 := by
  unfold encIs at h
  unfold intsR
  rcases split_app h ht with ⟨t1, h1, h2⟩ | ⟨q, h1, h2⟩
  · rw [lenR_more hl h2 h1]
    rfl
  · subst h1
    by_cases hq : q.length < l.length
    · rw [lenR_less hl hq]
      simp only
      rw [manyR_err (by simp)]
    · have : lenR ⟨encU l.length ++ q, 0⟩ = (l.length, ⟨q, 0⟩) := by
        unfold lenR
        rw [uintR_enc hl]
        simp only
        rw [if_neg hq]
      rw [this]
      exact manyR_more l q t hb h2 ht
theorem readV_more {v : ValS} (hv : v.Ok) {p t : List UInt8} (h : p ++ t = encV v) (ht : t ≠ []) : (readV ⟨p, 0⟩ v.kind).2.e = 3 := by
  have hk := hv.k
  have hu := hv.u
  have hn := hv.n
  have hb := hv.b
  have hl := hv.l
  unfold encV at h
  unfold readV
  split
  · rename_i h0
    rw [if_pos h0] at h
    rw [uintR_more hu h ht]
  · rename_i h0
    rw [if_neg h0] at h
    split
    · rename_i h1
      rw [if_pos h1] at h
      simp only [intR]
      rw [uintR_more (zigN_lt hn.1 hn.2) h ht]
    · rename_i h1
      rw [if_neg h1] at h
      split
      · rename_i h2
        rw [if_pos h2, encU_small (by unfold boolN; split <;> omega)] at h
        cases p with
        | nil => rfl
        | cons c p => simp at h; exact absurd h.2.2 ht
      · rename_i h2
        rw [if_neg h2] at h
        split
        · rename_i h3
          rw [if_pos h3] at h
          exact rawR_more (by omega) h ht
        · rename_i h3
          rw [if_neg h3] at h
          exact intsR_more (by omega) hv.lb h ht

/-! ### One encoding -/
theorem rdU_canon : ∀ (cs : List UInt8) (i n m : Nat) (t : List UInt8), rdU i n cs = (m, ⟨t, 0⟩) → ∃ z, m = n + z * 128 ^ i ∧ cs = encU z ++ t ∧ (0 < i → 0 < z)
  | [], i, n, m, t, h => by simp [rdU] at h
  | c :: cs, i, n, m, t, h => by
    unfold rdU at h
    split at h
    · simp at h
    · rename_i hc
      have hc8 := c.toNat_lt
      split at h
      · rename_i hs
        simp only [Prod.mk.injEq, RdS.mk.injEq, and_true] at h
        obtain ⟨rfl, rfl⟩ := h
        refine ⟨c.toNat, rfl, ?_, by omega⟩
        rw [encU_small hs]
        simp
      · rename_i hs
        obtain ⟨z, h1, h2, h3⟩ := rdU_canon cs (i + 1) _ m t h
        have hz := h3 (by omega)
        refine ⟨(c.toNat - 128) + 128 * z, ?_, ?_, by omega⟩
        · rw [h1, Nat.pow_succ, Nat.add_mul, ← Nat.add_assoc]
          congr 1
          rw [Nat.mul_comm (128 ^ i) 128, ← Nat.mul_assoc, Nat.mul_comm z 128]
        · rw [encU_big (by omega), show ((c.toNat - 128) + 128 * z) / 128 = z by omega, show ((c.toNat - 128) + 128 * z) % 128 + 128 = c.toNat by omega, h2]
          simp
theorem uintR_canon {R : RdS} (h : (uintR R).2.e = 0) : R.e = 0 ∧ R.bs = encU (uintR R).1 ++ (uintR R).2.bs := by
  by_cases he : R.e = 0
  · refine ⟨he, ?_⟩
    unfold uintR at *
    rw [if_pos he] at *
    obtain ⟨m, ⟨t, e⟩, hr⟩ : ∃ m z, rdU 0 0 R.bs = (m, z) := ⟨_, _, rfl⟩
    rw [hr] at h ⊢
    simp only at h
    subst h
    obtain ⟨z, h1, h2, _⟩ := rdU_canon _ _ _ _ _ hr
    simp at h1
    subst h1
    exact h2
  · rw [uintR_err he] at h
    exact absurd h he
theorem zig_unz (z : Nat) : zigN (unzN z) = z := by
  unfold unzN zigN
  split <;> split <;> omega
theorem intR_canon {R : RdS} (h : (intR R).2.e = 0) : R.e = 0 ∧ R.bs = encI (intR R).1 ++ (intR R).2.bs := by
  have := uintR_canon (R := R) h
  unfold encI intR
  rw [zig_unz]
  exact this
theorem failR_e {R : RdS} {e : Nat} (h : (failR R e).e = 0) (he : e ≠ 0) : False := by
  unfold failR at h
  split at h
  · exact he h
  · rename_i h2; exact h2 h
theorem lenR_canon {R : RdS} (h : (lenR R).2.e = 0) : R.e = 0 ∧ R.bs = encU (lenR R).1 ++ (lenR R).2.bs ∧ (lenR R).1 ≤ (lenR R).2.bs.length := by
  unfold lenR at *
  simp only at *
  split at h
  · exact (failR_e h (by omega)).elim
  · rename_i h1
    rw [if_neg h1]
    have := uintR_canon h
    exact ⟨this.1, this.2, by omega⟩
theorem rawR_canon {R : RdS} (h : (rawR R).2.e = 0) : R.e = 0 ∧ R.bs = encR (rawR R).1 ++ (rawR R).2.bs := by
  unfold rawR at *
  split at h
  · rename_i h1
    obtain ⟨a, b, c⟩ := lenR_canon h1
    rw [if_pos h1]
    refine ⟨a, ?_⟩
    unfold encR
    rw [b, List.length_take, Nat.min_eq_left c, List.append_assoc, List.take_append_drop]
  · rename_i h1
    exact absurd h h1
theorem manyR_canon : ∀ (n : Nat) (R : RdS), (manyR n R).2.e = 0 → R.e = 0 ∧ (manyR n R).1.length = n ∧ R.bs = (manyR n R).1.flatMap encI ++ (manyR n R).2.bs
  | 0, R, h => by simpa [manyR] using h
  | n + 1, R, h => by
    unfold manyR at *
    split at h
    · rename_i he
      rw [if_pos he]
      obtain ⟨a, b, c⟩ := manyR_canon n _ h
      obtain ⟨d, f⟩ := intR_canon a
      refine ⟨he, by simp [b], ?_⟩
      simp only [List.flatMap_cons, List.append_assoc]
      rw [← c]
      exact f
    · rename_i he
      exact absurd h he
theorem intsR_canon {R : RdS} (h : (intsR R).2.e = 0) : R.e = 0 ∧ R.bs = encIs (intsR R).1 ++ (intsR R).2.bs := by
  unfold intsR at *
  simp only at *
  rw [if_pos h]
  obtain ⟨a, b, c⟩ := manyR_canon _ _ h
  obtain ⟨d, f, _⟩ := lenR_canon a
  refine ⟨d, ?_⟩
  unfold encIs
  rw [b, f, c, List.append_assoc]
theorem boolR_canon {R : RdS} (h : (boolR R).2.e = 0) : R.e = 0 ∧ R.bs = encU (boolN (boolR R).1) ++ (boolR R).2.bs := by
  by_cases he : R.e = 0
  · refine ⟨he, ?_⟩
    obtain ⟨bs, e⟩ := R
    simp only at he
    subst he
    cases bs with
    | nil => simp [boolR, nextR] at h
    | cons c cs =>
      have hn : nextR ⟨c :: cs, 0⟩ = (c, ⟨cs, 0⟩) := by unfold nextR; rw [if_neg (by simp)]
      unfold boolR at *
      rw [hn] at h ⊢
      simp only at h ⊢
      split at h
      · exact (failR_e h (by omega)).elim
      · rename_i h1
        rw [if_neg h1]
        simp only
        rcases (by omega : c.toNat = 0 ∨ c.toNat = 1) with h2 | h2
        · rw [h2, show boolN (decide ((0 : Nat) = 1)) = 0 from rfl, encU_small (by omega), show UInt8.ofNat 0 = c from by rw [← h2]; simp]
          rfl
        · rw [h2, show boolN (decide ((1 : Nat) = 1)) = 1 from rfl, encU_small (by omega), show UInt8.ofNat 1 = c from by rw [← h2]; simp]
          rfl
  · unfold boolR at h
    have hn : nextR R = (0, R) := by unfold nextR; rw [if_pos he]
    rw [hn] at h
    simp at h
    exact absurd h he
/-- What is read without an error has been written so. -/
theorem readV_canon {R : RdS} {k : Nat} (hk : k ≤ 5) (h : (readV R k).2.e = 0) : R.e = 0 ∧ R.bs = encV (readV R k).1 ++ (readV R k).2.bs := by
  rcases (by omega : k = 0 ∨ k = 1 ∨ k = 2 ∨ k = 3 ∨ k = 4 ∨ k = 5) with rfl | rfl | rfl | rfl | rfl | rfl
  · exact uintR_canon h
  · exact intR_canon h
  · obtain ⟨a, b⟩ := boolR_canon (R := R) h
    refine ⟨a, b.trans ?_⟩
    show _ = encU (boolN (decide ((if (boolR R).1 then (1 : Int) else 0) = 1))) ++ _
    cases (boolR R).1 <;> rfl
  · exact rawR_canon h
  · exact rawR_canon h
  · exact intsR_canon h
theorem manyR_lb : ∀ (n : Nat) (R : RdS), (manyR n R).1.length ≤ n ∧ ∀ x ∈ (manyR n R).1, -9223372036854775808 ≤ x ∧ x ≤ 9223372036854775807
  | 0, R => by simp [manyR]
  | n + 1, R => by
    unfold manyR
    split
    · have := manyR_lb n (intR R).2
      refine ⟨by simpa using this.1, fun x hx => ?_⟩
      rcases List.mem_cons.1 hx with rfl | hx
      · exact unzN_bound (uintR_lt R)
      · exact this.2 x hx
    · simp
theorem intR_len (R : RdS) : (intR R).2.bs.length ≤ R.bs.length := uintR_len R
theorem manyR_len : ∀ (n : Nat) (R : RdS), (manyR n R).2.bs.length ≤ R.bs.length
  | 0, R => Nat.le_refl _
  | n + 1, R => by
    unfold manyR
    split
    · exact Nat.le_trans (manyR_len n _) (intR_len R)
    · exact Nat.le_refl _
theorem nextR_len (R : RdS) : (nextR R).2.bs.length ≤ R.bs.length := by
  unfold nextR
  split
  · exact Nat.le_refl _
  · split <;> rename_i h <;> simp [h]
/-- What is read is within bounds. -/
theorem readV_ok {R : RdS} (hb : R.bs.length ≤ 1000000) {k : Nat} (hk : k ≤ 5) : (readV R k).1.Ok ∧ (readV R k).1.kind = k ∧ (readV R k).2.bs.length ≤ R.bs.length := by
  have hl := lenR_len R
  rcases (by omega : k = 0 ∨ k = 1 ∨ k = 2 ∨ k = 3 ∨ k = 4 ∨ k = 5) with rfl | rfl | rfl | rfl | rfl | rfl
  · exact ⟨⟨by simp [readV], uintR_lt R, by simp [readV], by simp [readV], by simp [readV], by simp [readV]⟩, rfl, uintR_len R⟩
  · exact ⟨⟨by simp [readV], by simp [readV], unzN_bound (uintR_lt R), by simp [readV], by simp [readV], by simp [readV]⟩, rfl, uintR_len R⟩
  · refine ⟨⟨by simp [readV], by simp [readV], ?_, by simp [readV], by simp [readV], by simp [readV]⟩, rfl, ?_⟩
    · show -9223372036854775808 ≤ (if (boolR R).1 then (1 : Int) else 0) ∧ (if (boolR R).1 then (1 : Int) else 0) ≤ 9223372036854775807
      split <;> omega
    · show (boolR R).2.bs.length ≤ _
      have := nextR_len R
      unfold boolR
      simp only
      split
      · rw [failR_bs]; exact this
      · exact this
  · have := rawR_len R
    refine ⟨⟨by simp [readV], by simp [readV], by simp [readV], ?_, by simp [readV], by simp [readV]⟩, rfl, ?_⟩
    · show (rawR R).1.length ≤ _
      omega
    · show (rawR R).2.bs.length ≤ _
      unfold rawR
      split
      · simp; omega
      · exact hl
  · have := rawR_len R
    refine ⟨⟨by simp [readV], by simp [readV], by simp [readV], ?_, by simp [readV], by simp [readV]⟩, rfl, ?_⟩
    · show (rawR R).1.length ≤ _
      omega
    · show (rawR R).2.bs.length ≤ _
      unfold rawR
      split
      · simp; omega
      · exact hl
  · have h1 := manyR_lb (lenR R).1 (lenR R).2
    have h2 := manyR_len (lenR R).1 (lenR R).2
    refine ⟨⟨by simp [readV], by simp [readV], by simp [readV], by simp [readV], ?_, ?_⟩, rfl, ?_⟩
    · show (intsR R).1.length ≤ _
      unfold intsR
      simp only
      split
      · rename_i h3
        have h4 := manyR_canon _ _ h3
        have h5 := lenR_canon h4.1
        omega
      · simp
    · show ∀ x ∈ (intsR R).1, _
      unfold intsR
      simp only
      split
      · exact h1.2
      · simp
    · show (intsR R).2.bs.length ≤ _
      unfold intsR
      simp only
      omega
end Go.Proofs.Ytplhclmmmfpgeaa
