/-
  The contract of the reference's Compose, whatever the lists.
-/
import Derived.Test.YtpncjgcdiomloaaEdRc
namespace Go.Proofs.Ytpncjgcdiomloaa
open Go Go.Proofs
open Go.RowKit
set_option linter.unusedVariables false
set_option linter.unusedSimpArgs false

set_option maxRecDepth 100000 in
set_option maxHeartbeats 4000000 in
theorem rCompose_any (s : ByteArray) (aa : Option Addr) (ca : Nat) (es : List Ed) (ab : Option Addr) (cb : Nat) (fs : List Ed) (w : World) (hs : s.size ≤ 1000) (hx : EdsAt w aa ca es) (hx' : EdsAt w ab cb fs)
    (hb : ∀ e ∈ es, e.x.length ≤ 1000) (hb' : ∀ e ∈ fs, e.x.length ≤ 1000)
    (hu : validL s.data.toList.length es = 0 → validL (applyL s.data.toList 0 es).length fs = 0 → (applyL (applyL s.data.toList 0 es) 0 fs).length ≤ 900) :
    Calls Try.prog 31 #[.string s, .slice aa es.length ca, .slice ab fs.length cb] w fun e w' => ∃ v, e = .returned (.tuple #[v, .int .i64 (compE s.data.toList es fs)]) ∧ OwnEds w' w.heap.size v (compO s.data.toList es fs) ∧ Below w.heap.size w w' := by
  obtain ⟨l, hl⟩ : ∃ l, s.data.toList = l := ⟨_, rfl⟩
  have hsl : s.size = l.length := by rw [← hl]; rfl
  rw [hl] at hu ⊢
  by_cases hv : validL l.length es = 0
  · by_cases hv' : validL (applyL l 0 es).length fs = 0
    · have hc : compE l es fs = if 64 < (normL l (compP l es fs)).length then 4 else 0 := by unfold compE; rw [if_neg (by simp [hv]), if_neg (by simp [hv'])]
      have h64 : ∀ {n : Nat} {es : List Ed}, validL n es = 0 → es.length ≤ 64 := fun {n es} h => by unfold validL at h; split at h <;> omega
      have := rcompose_ok s aa ca es ab cb fs w hs hx hx' (by rw [hl]; exact valid_snd hv) (by rw [hl]; exact valid_snd hv') (h64 hv) (h64 hv') hb hb' (by rw [hl]; exact hu hv hv')
      rw [hl, ← comp_norm (valid_snd hv) (valid_snd hv')] at this
      refine this.mono ?_
      rintro e w' ⟨v, rfl, ho, hbl⟩
      refine ⟨v, by rw [hc], ?_, hbl⟩
      unfold compO
      rw [hc]
      by_cases hN : 64 < (normL l (compP l es fs)).length
      · rw [if_pos hN] at ho ⊢; rw [if_neg (by omega)]; exact ho
      · rw [if_neg hN] at ho ⊢; rw [if_pos rfl]; exact ho
    · have hc : compE l es fs = validL (applyL l 0 es).length fs := by unfold compE; rw [if_neg (by simp [hv]), if_pos hv']
      have ho : compO l es fs = [] := by unfold compO; rw [hc, if_neg hv']
      have hTl : (applyL l 0 es).length ≤ 200000 := by
        have h64 : es.length ≤ 64 := by unfold validL at hv; split at hv <;> omega
        have := apply_le (B := 1000) (valid_snd hv) hb; omega
      rw [hc, ho]
      have k1 := fun W (hW : Below w.heap.size w W) => rApply_any s aa ca es W (by omega) (hx.below hW) (by rw [hl, applyX_ok hv]; omega)
      rw [hl, applyX_ok hv, hsl, hv] at k1
      have k2 := fun W (hW : Below w.heap.size w W) => rApply_any (strB (applyL l 0 es)) ab cb fs W (by rw [strB_size]; omega) (hx'.below hW) (by rw [strB_list, applyX_bad hv']; simp)
      rw [strB_list, strB_size, applyX_bad hv'] at k2
      have K1 := Lib.hid k1
      have K2 := Lib.hid k2
      obtain ⟨E, hE⟩ : ∃ E, validL (applyL l 0 es).length fs = E := ⟨_, rfl⟩
      rw [hE] at K2 hv' ⊢
      have hne : (E != 0) = true := by simpa using hv'
      have hne' : (E == 0) = false := by simpa using hv'
      clear k1 k2 hx hx' hv hv' hb hb' hc ho hE hTl hu
      generalize strB (applyL l 0 es) = T at *
      go_enter Try.func31, Try.ntmps31
      go_wp2_with fail
      refine (K1.out w (Below.refl _ _)).mono ?_
      rintro e w1 ⟨rfl, hb1⟩
      go_wp2_with fail
      refine (K2.out w1 hb1).mono ?_
      rintro e w2 ⟨rfl, hb2⟩
      have hB2 := Below.step hb1 hb2
      go_wp2_with fail
      go_ret2
      exact ⟨_, rfl, OwnEds.nil _ _, hB2⟩
  · have hc : compE l es fs = validL l.length es := by unfold compE; rw [if_pos hv]
    have ho : compO l es fs = [] := by unfold compO; rw [hc, if_neg hv]
    rw [hc, ho]
    have k1 := rApply_any s aa ca es w (by omega) hx (by rw [hl, applyX_bad hv]; simp)
    rw [hl, applyX_bad hv, hsl] at k1
    have K1 := Lib.hid k1
    obtain ⟨E, hE⟩ : ∃ E, validL l.length es = E := ⟨_, rfl⟩
    rw [hE] at K1 hv ⊢
    have hne : (E != 0) = true := by simpa using hv
    have hne' : (E == 0) = false := by simpa using hv
    clear k1 hx hx' hv hb hb' hc ho hE hu
    go_enter Try.func31, Try.ntmps31
    go_wp2_with fail
    refine K1.out.mono ?_
    rintro e w1 ⟨rfl, hb1⟩
    go_wp2_with fail
    go_ret2
    exact ⟨_, rfl, OwnEds.nil _ _, hb1⟩
end Go.Proofs.Ytpncjgcdiomloaa
