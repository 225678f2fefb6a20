/-
  The walks of the laws PositionUnits, PositionOffset, PositionAt.
-/
import Derived.Test.YtclamcaanoieiaaPosH
import Derived.Deep.RegionHeld3
namespace Go.Proofs.Ytclamcaanoieiaa
open Go Go.Proofs
open Go.RowKit
set_option linter.unusedVariables false
set_option linter.unusedSimpArgs false

def textB (xs : List Int) : ByteArray := ⟨(textL xs).toArray⟩
theorem textB_list (xs : List Int) : (textB xs).data.toList = textL xs := by unfold textB; simp
theorem textB_size (xs : List Int) : (textB xs).size ≤ 96 := by
  have := text_len xs
  show (textL xs).toArray.size ≤ _
  simpa using this
theorem text_b (a : Option Addr) (c : Nat) (xs : List Int) (w : World) (hx : SliceAt w a c (xs.map intV)) (hb : ∀ n ∈ xs, -9223372036854775808 ≤ n ∧ n ≤ 9223372036854775807) :
    Calls Try.prog 13 #[.slice a xs.length c] w fun e w' => e = .returned (.string (textB xs)) ∧ Below w.heap.size w w' := text_any a c xs w hx hb
/-- The two texts of a law, in one slice. -/
def textT (s : ByteArray) (m : Nat) (xs : List Int) (i : Nat) : ByteArray := if i = 0 then s.extract 0 m else textB xs
theorem textT_size (s : ByteArray) (m : Nat) (xs : List Int) (i : Nat) (hm : m ≤ 96) : (textT s m xs i).size ≤ 96 := by
  unfold textT
  split
  · have := size_extract0 s m; omega
  · exact textB_size xs
theorem all_two {w W : World} {s : ByteArray} {m : Nat} {xs : List Int} {t : TypeId} (h : W = w.alloc (.cells #[.string (s.extract 0 m), .string (textB xs)] t)) :
    (∀ i, i < 2 → W.cell? ⟨w.heap.size, i, none⟩ = some (.string (textT s m xs i))) ∧ Below w.heap.size w W := by
  refine ⟨fun i hi => ?_, by rw [h]; exact (Below.refl _ w).alloc (Nat.le_refl _) _⟩
  rw [h, cell_of_row _ w.heap.size i _ _ (0, 0) (heap_alloc_new w _)]
  rcases (by omega : i = 0 ∨ i = 1) with rfl | rfl <;> rfl

set_option maxRecDepth 100000 in
set_option maxHeartbeats 4000000 in
theorem positionUnits_walk (s : ByteArray) (a : Option Addr) (c : Nat) (xs : List Int) (w : World) (hs : s.size ≤ 9223372036854775807) (hx : SliceAt w a c (xs.map intV)) (hxb : ∀ n ∈ xs, -9223372036854775808 ≤ n ∧ n ≤ 9223372036854775807) :
    Calls Try.prog 3 #[.string s, .slice a xs.length c] w fun e w' => e = .returned (.bool true) ∧ Below w.heap.size w w' := by
  have hts := textT_size s 60 xs
  have HTS := Lib.hid hts
  clear hts
  go_enter Try.func3, Try.ntmps3
  go_wp2_with fail
  refine (short_any s 60 w hs (by decide)).mono ?_
  rintro e w0 ⟨rfl, rfl⟩
  go_wp2_with fail
  refine (text_b a c xs w hx hxb).mono ?_
  rintro e w1 ⟨rfl, hb1⟩
  go_wp2_with fail
  obtain ⟨w2, hw2⟩ : ∃ x, x = w1.alloc (.cells #[.string (s.extract 0 60), .string (textB xs)] 9) := ⟨_, rfl⟩
  rw [← hw2]
  obtain ⟨hcell, hb2⟩ := all_two hw2
  have hB2 := Below.step hb1 hb2
  have HC := Lib.hid hcell
  clear hcell hw2 hb1 hb2
  generalize w1.heap.size = g at *
  go_loopw [6] (fun iv wr => ∃ i : Nat, i ≤ 2 ∧ iv = .int .i64 i ∧ Below w2.heap.size w2 wr) (fun iv _ => 2 - (intOf iv).toNat)
  case atStart => exact ⟨0, by omega, rfl, Below.refl _ _⟩
  case round =>
    obtain ⟨i, hi, rfl, hB⟩ := hrel
    by_cases hlt : i < 2
    · have c0 := Below.kept hB (Nat.le_refl _) (HC.out i hlt)
      have htsz := HTS.out i (by omega)
      generalize textT s 60 xs i = t at *
      have hnn : ((unitsL t.data.toList : Int) != (unitsL t.data.toList : Int)) = false := by simp
      obtain ⟨S, hS⟩ : ∃ S : World → Prop, S = fun W => Below wr.heap.size wr W ∧ W.cell? ⟨g, i, none⟩ = some (.string t) := ⟨_, rfl⟩
      have hSk : ∀ W W', S W → Below W.heap.size W W' → S W' := by
        intro W W' h hb
        rw [hS] at h ⊢
        exact ⟨Below.step h.1 hb, Below.kept hb (Nat.le_refl _) h.2⟩
      have k1 : ∀ W, S W → Calls Try.prog 14 #[.string t] W fun e w' => e = .returned (.int .i64 (unitsL t.data.toList)) ∧ S w' := by
        intro W hW
        exact (units_any t W (by omega)).mono fun e w' ⟨h1, h2⟩ => ⟨h1, hSk _ _ hW h2⟩
      have k2 : ∀ W, S W → Calls Try.prog 15 #[.string t] W fun e w' => e = .returned (.int .i64 (unitsL t.data.toList)) ∧ S w' := by
        intro W hW
        exact (runits_any t W (by omega)).mono fun e w' ⟨h1, h2⟩ => ⟨h1, by rw [← h2]; exact hW⟩
      obtain ⟨Z, hZ⟩ : ∃ Z : List Int, Z = (linesL t.data.toList).map Int.ofNat := ⟨_, rfl⟩
      have k3 : ∀ W, S W → Calls Try.prog 17 #[.string t] W fun e w' => ∃ a c, e = .returned (.slice a Z.length c) ∧ SliceAt w' a c (Z.map intV) ∧ S w' ∧ Below W.heap.size W w' := by
        intro W hW
        refine (lines_any t W (by omega)).mono ?_
        rintro e w' ⟨v, rfl, h1, h2⟩
        rw [natV_int] at h1
        obtain ⟨a1, c1, rfl, hs1⟩ := ownsRow_sliceMap h1
        rw [hZ]
        exact ⟨a1, c1, rfl, hs1, hSk _ _ hW h2, h2⟩
      have k4 : ∀ W, S W → Calls Try.prog 18 #[.string t] W fun e w' => ∃ a c, e = .returned (.slice a Z.length c) ∧ SliceAt w' a c (Z.map intV) ∧ S w' ∧ Below W.heap.size W w' := by
        intro W hW
        refine (rlines_any t W (by omega)).mono ?_
        rintro e w' ⟨v, rfl, h1, h2⟩
        rw [natV_int] at h1
        obtain ⟨a1, c1, rfl, hs1⟩ := ownsRow_sliceMap h1
        rw [hZ]
        exact ⟨a1, c1, rfl, hs1, hSk _ _ hW h2, h2⟩
      have k5 : ∀ W a1 c1 a2 c2, S W → SliceAt W a1 c1 (Z.map intV) → SliceAt W a2 c2 (Z.map intV) → Calls Try.prog 16 #[.slice a1 Z.length c1, .slice a2 Z.length c2] W fun e w' => e = .returned (.bool true) ∧ S w' := by
        intro W a1 c1 a2 c2 hW h1 h2
        exact (sameInts_any a1 a2 c1 c2 Z Z W h1 h2).mono fun e w' ⟨g1, g2⟩ => ⟨by rw [g1]; simp, hSk _ _ hW g2⟩
      have HS0 : Hid (S wr.drew) := by
        unfold Hid; rw [hS]; exact ⟨Below.drew (Below.refl _ _), c0⟩
      have HS1 : Hid (∀ W, S W → Below wr.heap.size wr W) := fun W h => by rw [hS] at h; exact h.1
      have HS2 : ∀ W, S W → W.cell? ⟨g, i, none⟩ = some (.string t) := fun W h => by rw [hS] at h; exact h.2
      have K1 := Lib.hid k1
      have K2 := Lib.hid k2
      have K3 := Lib.hid k3
      have K4 := Lib.hid k4
      have K5 := Lib.hid k5
      clear k1 k2 k3 k4 k5 hSk hZ
      subst hS
      go_wp2_with fail
      go_region_held3 (fun W => Below wr.heap.size wr W ∧ W.cell? ⟨g, i, none⟩ = some (.string t)) (first | assumption | exact HS0.out)
        (first | (go_at_call 14; (with_reducible refine (K1.out _ (by assumption)).mono ?_); rintro e w' ⟨rfl, hbb⟩) | (go_at_call 15; (with_reducible refine (K2.out _ (by assumption)).mono ?_); rintro e w' ⟨rfl, hbb⟩) | (go_at_call 17; (with_reducible refine (K3.out _ (by assumption)).mono ?_); rintro e w' ⟨a3, c3, rfl, hs3, hbb, hb3⟩) | (go_at_call 18; (with_reducible refine (K4.out _ (by assumption)).mono ?_); rintro e w' ⟨a4, c4, rfl, hs4, hbb, hb4⟩; have hs3 := hs3.below hb4) | (go_at_call 16; (with_reducible refine (K5.out _ _ _ _ _ (by assumption) hs3 hs4).mono ?_); rintro e w' ⟨rfl, hbb⟩))
      go_wp2
      go_roundw
      case rel => exact ⟨i + 1, by omega, by go_num, Below.trans hB (Below.mono (And.left (b := _ = _) (by assumption)) hB.size)⟩
      case measure => simp [intOf]; omega
    · obtain rfl : i = 2 := by omega
      go_wp2_with fail
      refine (lives_any wr).mono ?_
      rintro e w3 ⟨rfl, hb3⟩
      go_wp2_with fail
      go_ret
      exact ⟨rfl, Below.step (Below.step hB2 hB) hb3⟩

set_option maxRecDepth 100000 in
set_option maxHeartbeats 4000000 in
theorem positionAt_walk (s : ByteArray) (a : Option Addr) (c : Nat) (xs : List Int) (off : Int) (w : World) (hs : s.size ≤ 9223372036854775807) (hx : SliceAt w a c (xs.map intV)) (hxb : ∀ n ∈ xs, -9223372036854775808 ≤ n ∧ n ≤ 9223372036854775807) (ho : -9223372036854775808 ≤ off ∧ off ≤ 9223372036854775807) :
    Calls Try.prog 5 #[.string s, .slice a xs.length c, .int .i64 off] w fun e w' => e = .returned (.bool true) ∧ Below w.heap.size w w' := by
  have hts := textT_size s 60 xs
  have HTS := Lib.hid hts
  clear hts
  go_enter Try.func5, Try.ntmps5
  go_wp2_with fail
  refine (short_any s 60 w hs (by decide)).mono ?_
  rintro e w0 ⟨rfl, rfl⟩
  go_wp2_with fail
  refine (text_b a c xs w hx hxb).mono ?_
  rintro e w1 ⟨rfl, hb1⟩
  go_wp2_with fail
  obtain ⟨w2, hw2⟩ : ∃ x, x = w1.alloc (.cells #[.string (s.extract 0 60), .string (textB xs)] 9) := ⟨_, rfl⟩
  rw [← hw2]
  obtain ⟨hcell, hb2⟩ := all_two hw2
  have hB2 := Below.step hb1 hb2
  have HC := Lib.hid hcell
  clear hcell hw2 hb1 hb2
  generalize w1.heap.size = g at *
  go_loopw [8] (fun iv wr => ∃ i : Nat, i ≤ 2 ∧ iv = .int .i64 i ∧ Below w2.heap.size w2 wr) (fun iv _ => 2 - (intOf iv).toNat)
  case atStart => exact ⟨0, by omega, rfl, Below.refl _ _⟩
  case round =>
    obtain ⟨i, hi, rfl, hB⟩ := hrel
    by_cases hlt : i < 2
    · have c0 := HC.out i hlt
      have htsz := HTS.out i (by omega)
      have di : decide ((i : Int) < 2) = true := decide_eq_true (by omega)
      generalize textT s 60 xs i = t at *
      go_wp2_with fail
      go_loopw [9, 10] (fun kv jv wq => ∃ (j : Nat) (k : Int), j ≤ 2 ∧ jv = .int .i64 j ∧ kv = .int .i64 k ∧ -9223372036854775808 ≤ k ∧ k ≤ 9223372036854775807 ∧ Below w2.heap.size w2 wq) (fun _ jv _ => 2 - (intOf jv).toNat)
      case atStart => exact ⟨0, off, by omega, rfl, rfl, ho.1, ho.2, hB⟩
      case round =>
        obtain ⟨j, k, hj, rfl, rfl, hk1, hk2, hBq⟩ := hrel
        by_cases hjl : j < 2
        · have c1 := Below.kept hBq (Nat.le_refl _) c0
          have ka := fun W => at_any t k W (by omega) hk1 hk2
          have kb := fun W => rat_any t k W (by omega) hk1 hk2
          generalize atC t.data.toList k = r at *
          obtain ⟨⟨r1, r2⟩, r3⟩ := r
          unfold posV at ka kb
          have KA := Lib.hid ka
          have KB := Lib.hid kb
          clear ka kb
          have hn1 : ((r3 : Int) != (r3 : Int)) = false := by simp
          have hn2 : ((r1 : Int) == (r1 : Int)) = true := by simp
          have hn3 : ((r2 : Int) == (r2 : Int)) = true := by simp
          go_wp2_with fail
          refine (KA.out wr).mono ?_
          rintro e w3 ⟨rfl, hb3⟩
          have c2 := Below.kept hb3 (Nat.le_refl _) c1
          have c2a : ∀ ob, (w3.alloc ob).cell? ⟨g, i, none⟩ = some (.string t) := fun ob => Below.kept ((Below.refl _ w3).alloc (Nat.le_refl _) ob) (Nat.le_refl _) c2
          go_wp2_with fail
          obtain ⟨v3, hv3⟩ : ∃ x, x = w3.alloc (.cells #[.int .i64 r1, .int .i64 r2] 32) := ⟨_, rfl⟩
          obtain ⟨p0, p1, pb⟩ := pos_new hv3
          have c3 := Below.kept pb (Nat.le_refl _) c2
          have hB3 := Below.step hb3 pb
          rw [← hv3]
          clear hv3 pb hb3 c2a
          refine (KB.out v3).mono ?_
          rintro e w4 ⟨rfl, hb4⟩
          have c4 := Below.kept hb4 (Nat.le_refl _) c3
          have p0 := Below.kept hb4 (Nat.le_refl _) p0
          have p1 := Below.kept hb4 (Nat.le_refl _) p1
          have c4a : ∀ ob, (w4.alloc ob).cell? ⟨g, i, none⟩ = some (.string t) := fun ob => Below.kept ((Below.refl _ w4).alloc (Nat.le_refl _) ob) (Nat.le_refl _) c4
          have p0a : ∀ ob, (w4.alloc ob).cell? ⟨w3.heap.size, 0, none⟩ = some (.int .i64 r1) := fun ob => Below.kept ((Below.refl _ w4).alloc (Nat.le_refl _) ob) (Nat.le_refl _) p0
          have p1a : ∀ ob, (w4.alloc ob).cell? ⟨w3.heap.size, 1, none⟩ = some (.int .i64 r2) := fun ob => Below.kept ((Below.refl _ w4).alloc (Nat.le_refl _) ob) (Nat.le_refl _) p1
          have hB4 : Below wr.heap.size wr (w4.alloc (.cells #[.int .i64 r1, .int .i64 r2] 32)) := Below.step (Below.step hB3 hb4) ((Below.refl _ w4).alloc (Nat.le_refl _) _)
          have hBf := hBq.trans (hB4.mono hBq.size)
          have hts1 : (1 : Int) ≤ (t.size : Int) + 1 := by omega
          have hk3 := aroundI_lo off ((t.size : Int) + 1) (by omega)
          have hk4 := aroundI_hi off ((t.size : Int) + 1) (by omega)
          have KR := Lib.hid (around_any off ((t.size : Int) + 1) (w4.alloc (.cells #[.int .i64 r1, .int .i64 r2] 32)) (by omega) (by omega) ho.1 ho.2)
          generalize aroundI off ((t.size : Int) + 1) = k2 at *
          go_wp2_with fail
          refine KR.out.mono ?_
          rintro e w5 ⟨rfl, rfl⟩
          go_wp2_with fail
          go_roundw
          case rel => first | exact ⟨j + 1, k2, by omega, by go_num, rfl, by omega, by omega, hBf⟩ | ((repeat apply Exists.intro); refine ⟨?_, rfl⟩; exact ⟨j + 1, k2, by omega, by go_num, rfl, by omega, by omega, hBf⟩)
          case measure => simp [intOf]; omega
        · obtain rfl : j = 2 := by omega
          go_wp2_with fail
          go_roundw
          case rel => first | exact ⟨i + 1, by omega, by go_num, hBq⟩ | ((repeat apply Exists.intro); refine ⟨?_, rfl⟩; exact ⟨i + 1, by omega, by go_num, hBq⟩)
          case measure => simp [intOf]; omega
    · obtain rfl : i = 2 := by omega
      go_wp2_with fail
      refine (lives_any wr).mono ?_
      rintro e w3 ⟨rfl, hb3⟩
      go_wp2_with fail
      go_ret
      exact ⟨rfl, Below.step (Below.step hB2 hB) hb3⟩
end Go.Proofs.Ytclamcaanoieiaa
