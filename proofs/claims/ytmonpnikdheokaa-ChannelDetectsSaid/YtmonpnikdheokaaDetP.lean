/-
  The plain law of ChannelDetects: a changed byte behind the length is seen.
-/
import Derived.Test.YtmonpnikdheokaaRdEnc
import Derived.Test.YtmonpnikdheokaaHashInj
namespace Go.Proofs.Ytmonpnikdheokaa
open Go Go.Proofs
set_option linter.unusedVariables false

/-- What is read to the end as one number is the number's only form. -/
theorem rdU_uniq : ∀ (cs : List UInt8) (i n m : Nat), rdU i n cs = (m, ⟨[], 0⟩) → ∃ q, m = n + q * 128 ^ i ∧ cs = encU q ∧ (0 < i → 0 < q)
  | [], i, n, m, h => by simp [rdU] at h
  | c :: cs, i, n, m, h => by
    unfold rdU at h
    split at h
    · simp at h
    · rename_i hb
      split at h
      · rename_i hc
        simp only [Prod.mk.injEq, RdS.mk.injEq, and_true] at h
        obtain ⟨hm, rfl⟩ := h
        refine ⟨c.toNat, hm.symm, ?_, fun hi => ?_⟩
        · rw [encU_small hc, UInt8.ofNat_toNat]
        · have : ¬ (0 < i ∧ c.toNat = 0) := fun h => hb (.inr h)
          omega
      · rename_i hc
        obtain ⟨q, hm, hcs, hq⟩ := rdU_uniq cs (i + 1) _ m h
        have hq := hq (by omega)
        have hlt := c.toNat_lt
        refine ⟨q * 128 + (c.toNat - 128), ?_, ?_, fun _ => by omega⟩
        · rw [hm, Nat.pow_succ, Nat.add_mul, Nat.mul_assoc q 128, Nat.mul_comm 128 (128 ^ i)]
          omega
        · rw [encU_big (by omega), hcs]
          have h1 : (q * 128 + (c.toNat - 128)) % 128 + 128 = c.toNat := by omega
          have h2 : (q * 128 + (c.toNat - 128)) / 128 = q := by omega
          rw [h1, h2, UInt8.ofNat_toNat]
theorem uintR_uniq {cs : List UInt8} {m : Nat} (h : uintR ⟨cs, 0⟩ = (m, ⟨[], 0⟩)) : cs = encU m := by
  have h' : rdU 0 0 cs = (m, ⟨[], 0⟩) := by simpa [uintR] using h
  obtain ⟨q, hm, hcs, _⟩ := rdU_uniq cs 0 0 m h'
  have : m = q := by omega
  rw [this]; exact hcs
theorem endR_ok {R : RdS} (h : endR R = 0) : R = ⟨[], 0⟩ := by
  obtain ⟨bs, e⟩ := R
  unfold endR at h
  simp only at h
  split at h
  · omega
  · rename_i hn
    subst h
    have : bs = [] := by
      cases bs with
      | nil => rfl
      | cons _ _ => exact absurd ⟨rfl, by simp⟩ hn
    rw [this]

/-- A byte behind the length is changed: the end is not met, or the sum does not fit. -/
theorem detects (lab core : List UInt8) (h : Nat) (hh : (h : Int) = bytesI lab core) (h64 : h < 18446744073709551616) (hl : core.length ≤ 1000000)
    (k : Nat) (hk0 : (encU core.length).length ≤ k) (hk1 : k < (encR core ++ encU h).length) (c : UInt8) (hc : (encR core ++ encU h)[k]? ≠ some c) :
    ∃ (core' : List UInt8) (R1 R2 : RdS) (s : Nat), rawR ⟨(encR core ++ encU h).set k c, 0⟩ = (core', R1) ∧ uintR R1 = (s, R2) ∧ core'.length = core.length ∧ (endR R2 = 0 → (s : Int) ≠ bytesI lab core') := by
  obtain ⟨j, rfl⟩ : ∃ j, k = (encU core.length).length + j := ⟨k - (encU core.length).length, by omega⟩
  have hx : encR core ++ encU h = encU core.length ++ (core ++ encU h) := by unfold encR; rw [List.append_assoc]
  rw [hx] at hk1 hc ⊢
  rw [List.getElem?_append_right (by omega), Nat.add_sub_cancel_left] at hc
  rw [List.length_append] at hk1
  rw [List.set_append_right _ _ (by omega), Nat.add_sub_cancel_left]
  by_cases hj : j < core.length
  · rw [List.getElem?_append_left hj] at hc
    rw [List.set_append_left _ _ hj]
    have hr := rawR_enc (bs := core.set j c) (by rw [List.length_set]; omega) (encU h)
    unfold encR at hr
    rw [List.length_set, List.append_assoc] at hr
    have hu := uintR_enc h64 []
    rw [List.append_nil] at hu
    refine ⟨_, _, _, _, hr, hu, by rw [List.length_set], fun _ => ?_⟩
    rw [hh]
    intro he
    have := (bytesI_group lab core (core.set j c) (j / 8) (by rw [List.length_set]) (fun i hi => by rw [List.getElem?_set_ne (fun e => hi (by rw [e]))])).1 he
    apply hc
    rw [this, List.getElem?_set_self hj]
  · have hj' : core.length ≤ j := by omega
    rw [List.getElem?_append_right hj'] at hc
    rw [List.set_append_right _ _ hj']
    have hr := rawR_enc (bs := core) (by omega) ((encU h).set (j - core.length) c)
    unfold encR at hr
    rw [List.append_assoc] at hr
    refine ⟨_, _, (uintR ⟨(encU h).set (j - core.length) c, 0⟩).2, (uintR ⟨(encU h).set (j - core.length) c, 0⟩).1, hr, rfl, rfl, fun he hs => ?_⟩
    rw [← hh] at hs
    have hs' : (uintR ⟨(encU h).set (j - core.length) c, 0⟩).1 = h := by omega
    have hfin : uintR ⟨(encU h).set (j - core.length) c, 0⟩ = (h, ⟨[], 0⟩) := Prod.ext hs' (endR_ok he)
    have hset := uintR_uniq hfin
    apply hc
    rw [← hset, List.getElem?_set_self]
    rw [List.length_append] at hk1
    omega
end Go.Proofs.Ytmonpnikdheokaa
