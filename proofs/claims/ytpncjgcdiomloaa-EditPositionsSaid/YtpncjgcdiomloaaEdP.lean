/-
  Contract: the documented examples of the law's package.
-/
import Derived.Test.YtpncjgcdiomloaaEdL
import Derived.Test.YtpncjgcdiomloaaEdG
import Derived.Test.YtpncjgcdiomloaaEdH
namespace Go.Proofs.Ytpncjgcdiomloaa
open Go Go.Proofs
open Go.RowKit
set_option linter.unusedVariables false
set_option linter.unusedSimpArgs false

def exL : List Ed := [⟨1, 2, [120, 121]⟩, ⟨3, 3, [122]⟩]
theorem eds_new {w : World} {es : List Ed} {cs : Array Value} (h : cs.toList = edCs es) (hl : es.length ≤ 9223372036854775807) :
    EdsAt (w.alloc (.cells cs 39)) (some ⟨w.heap.size, 0, none⟩) es.length es := by
  have := row_new (w := w) (cs := edCs es) (e := 39) (n := es.length) (size := 3) (edCs_len es) hl
  rw [← h] at this
  unfold EdsAt
  rw [← h]
  exact this
theorem ex_apply : applyX [97, 98, 99, 100] exL = [97, 120, 121, 99, 122, 100] := by decide
theorem ex_valid : validL 4 exL = 0 := by decide
theorem ex_inv : ∃ x y, invX [97, 98, 99, 100] exL = [x, ⟨4, 5, y⟩] := ⟨_, _, rfl⟩
theorem ex_diff : ∃ y, diffL [97, 97] [97] = [⟨1, 2, y⟩] := ⟨_, rfl⟩
theorem ex_map1 : mapX exL 3 true = 5 := by decide
theorem ex_map2 : mapX exL 3 false = 4 := by decide
theorem ex_edm : ∀ e ∈ exL, EdM e := by
  intro e he
  unfold exL at he
  simp only [List.mem_cons, List.not_mem_nil, or_false] at he
  unfold EdM
  rcases he with rfl | rfl <;> simp
set_option maxRecDepth 100000 in
set_option maxHeartbeats 4000000 in
theorem lives_any (w : World) : Calls Try.prog 17 #[] w fun e w' => e = .returned (.bool true) ∧ Below w.heap.size w w' := by
  obtain ⟨w1, hw1⟩ : ∃ w1, w1 = w.alloc (.cells #[.int .i64 1, .int .i64 2, .string ⟨#[120, 121]⟩, .int .i64 3, .int .i64 3, .string ⟨#[122]⟩] 39) := ⟨_, rfl⟩
  have hB1 : Below w.heap.size w w1 := by rw [hw1]; exact (Below.refl _ w).alloc (Nat.le_refl _) _
  have hE : EdsAt w1 (some ⟨w.heap.size, 0, none⟩) exL.length exL := by rw [hw1]; exact eds_new (es := exL) rfl (by decide)
  have HE := Lib.hid hE
  have HW := Lib.hid hw1
  have ka := Apply_any ⟨#[97, 98, 99, 100]⟩ (some ⟨w.heap.size, 0, none⟩) 2 exL w1 (by decide) hE (by decide)
  have e0 : (⟨#[97, 98, 99, 100]⟩ : ByteArray).data.toList = [97, 98, 99, 100] := rfl
  have e1 : ((⟨#[97, 98, 99, 100]⟩ : ByteArray).size : Int) = 4 := rfl
  rw [e0, ex_apply, e1, ex_valid, show strB [97, 120, 121, 99, 122, 100] = ⟨#[97, 120, 121, 99, 122, 100]⟩ from rfl] at ka
  have KA := Lib.hid ka
  have ki := fun W hW => Invert_any ⟨#[97, 98, 99, 100]⟩ (some ⟨w.heap.size, 0, none⟩) 2 exL W (by decide) (hE.below hW) (by intro e he; exact (ex_edm e he).2.2.2.2)
  rw [e0, e1, ex_valid] at ki
  have KI := Lib.hid ki
  have KD := Lib.hid fun W => Diff_any ⟨#[97, 97]⟩ ⟨#[97]⟩ W (by decide) (by decide)
  have km := fun W hW b => Map_any (some ⟨w.heap.size, 0, none⟩) 2 exL 3 b W (hE.below hW) (by decide) ex_edm
  have KM := Lib.hid km
  have hel : exL.length = 2 := rfl
  rw [hel] at KA KI KM
  clear hw1 ka ki km hE e0 e1 hel
  go_enter Try.func17, Try.ntmps17
  go_wp2_with fail
  rw [← HW.out]
  refine KA.out.mono ?_
  rintro e w2 ⟨rfl, hb2⟩
  go_wp2_with fail
  refine (KI.out w2 hb2).mono ?_
  rintro e w3 ⟨v, rfl, ho3, hb3⟩
  obtain ⟨x, y, hxy⟩ := ex_inv
  have hb13 := Below.step hb2 hb3
  rw [hxy] at ho3
  obtain ⟨ai, ci, rfl, hi⟩ := ho3.at
  obtain ⟨bi, oi, rfl⟩ := hi.addr (by simp)
  have HI := Lib.hid hi
  clear hxy ho3 hi
  go_wp2_with fail
  refine (KD.out w3).mono ?_
  rintro e w4 ⟨v, rfl, ho4, hb4⟩
  obtain ⟨z, hz⟩ := ex_diff
  have hb14 := Below.step hb13 hb4
  rw [hz] at ho4
  obtain ⟨ad, cd, rfl, hd⟩ := ho4.at
  obtain ⟨bd, od, rfl⟩ := hd.addr (by simp)
  have hi4 := HI.out.below hb4
  have c1 := (hi4.cells (k := 1) (e := ⟨4, 5, y⟩) rfl).1
  have c2 := (hd.cells (k := 0) (e := ⟨1, 2, z⟩) rfl).1
  simp only at c1 c2
  rw [Nat.zero_mul, Nat.add_zero] at c2
  have l1 : 1 < ci := hi4.le
  have l2 : 0 < cd := hd.le
  have km1 := KM.out w4 hb14 true
  rw [ex_map1] at km1
  have KM1 := Lib.hid km1
  have HD := Lib.hid hd
  clear km1 hi4 hd
  go_wp2_with fail
  refine KM1.out.mono ?_
  rintro e w5 ⟨rfl, hb5⟩
  have km2 := KM.out w5 (Below.step hb14 hb5) false
  rw [ex_map2] at km2
  have c2' := Below.kept hb5 (Nat.le_refl _) c2
  go_wp2_with fail
  refine km2.mono ?_
  rintro e w6 ⟨rfl, hb6⟩
  have c2'' := Below.kept hb6 (Nat.le_refl _) c2'
  clear km2
  go_wp2_with fail
  go_ret
  exact ⟨rfl, (Below.step hB1 (Below.step (Below.step hb14 hb5) hb6))⟩
end Go.Proofs.Ytpncjgcdiomloaa
