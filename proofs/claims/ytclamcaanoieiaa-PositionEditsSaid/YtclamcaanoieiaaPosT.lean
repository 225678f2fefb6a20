/-
  The walk of the law PositionEdits.
-/
import Derived.Test.YtclamcaanoieiaaPosS
namespace Go.Proofs.Ytclamcaanoieiaa
open Go Go.Proofs
open Go.RowKit
set_option linter.unusedVariables false
set_option linter.unusedSimpArgs false

/-- One edit between two places. -/
theorem pbX_one {l : List UInt8} {a b c d : Int} {f t : Nat} (h1 : offC l a b = (f, 0)) (h2 : offC l c d = (t, 0)) (x : ByteArray) :
    pbX l [⟨a, b, c, d, x⟩] = if t < f then ([], 1) else ([⟨f, t, x⟩], 0) := by
  unfold pbX
  rw [if_neg (by simp), pbR_cons]
  unfold pbE pbB
  simp only [h1, h2]
  by_cases h : t < f
  · simp [h]
  · simp [h, pbR]
theorem bord_pos {l : List UInt8} {k : Nat} (hkm : k ∈ bordL l 0) (hls : l.length ≤ 1000) : ∃ ln un : Nat, atC l k = ((ln, un), 0) ∧ offC l ln un = (k, 0) ∧ ln ≤ 1001 ∧ un ≤ 1001 ∧ k ≤ l.length := by
  have hkl := bord_ge hkm
  have hoff := off_at hkm
  obtain ⟨P, hP⟩ : ∃ P, atC l k = P := ⟨_, rfl⟩
  have he0 : P.2 = 0 := by rw [← hP, atC_border hkm]
  rw [hP] at hoff
  obtain ⟨⟨ln, un⟩, e0⟩ := P
  simp only at hoff he0
  subst he0
  have hun := unitsL_le l
  have hr1 : ln ≤ 1001 ∧ un ≤ 1001 := by
    obtain ⟨h1, h2, h3, h4⟩ := at_off hoff
    rw [atC_border h3] at h4
    simp only [Int.toNat_natCast, Prod.mk.injEq, and_true] at h4
    have h5 := lineIx_lt l k
    have h6 := linesL_len l
    have h7 := unitsL_le ((l.take k).drop ((linesL l).getD (lineIx l k) 0))
    simp only [List.length_drop, List.length_take] at h7
    omega
  exact ⟨ln, un, hP, hoff, hr1.1, hr1.2, by omega⟩

set_option maxRecDepth 100000 in
set_option maxHeartbeats 8000000 in
theorem positionEdits_walk (a : Option Addr) (c : Nat) (xs : List Int) (a1 b1 : Int) (text : ByteArray) (w : World) (hx : SliceAt w a c (xs.map intV)) (hxb : ∀ n ∈ xs, -9223372036854775808 ≤ n ∧ n ≤ 9223372036854775807)
    (ha1 : -9223372036854775808 ≤ a1 ∧ a1 ≤ 9223372036854775807) (hb1 : -9223372036854775808 ≤ b1 ∧ b1 ≤ 9223372036854775807) (hts : text.size ≤ 9223372036854775807) :
    Calls Try.prog 10 #[.slice a xs.length c, .int .i64 a1, .int .i64 b1, .string text] w fun e w' => e = .returned (.bool true) ∧ Below w.heap.size w w' := by
  have htl := textB_list xs
  have htsz := textB_size xs
  have HTX := Lib.hid (text_b a c xs w hx hxb)
  have hrl := textB_size xs
  have KSH := Lib.hid fun W => short_any text 10 W hts (by decide)
  have htx : (text.extract 0 10).size ≤ 10 := by simp [ByteArray.size_extract]; omega
  generalize text.extract 0 10 = tx at *
  clear htl hts
  generalize textB xs = t at *
  obtain ⟨l, hl⟩ : ∃ l, t.data.toList = l := ⟨_, rfl⟩
  have hls : l.length = t.size := by rw [← hl]; rfl
  have HTL := Lib.hid hl
  clear hx hxb hrl hl
  go_enter Try.func10, Try.ntmps10
  go_wp2_with fail
  refine HTX.out.mono ?_
  rintro e w1 ⟨rfl, hb1'⟩
  have kb := rborders_any t w1 (by omega)
  rw [HTL.out] at kb
  have KB := Lib.hid kb
  clear kb
  go_wp2_with fail
  refine KB.out.mono ?_
  rintro e w2 ⟨v2, rfl, hown2, hb2⟩
  obtain ⟨a2, c2, rfl, hs2⟩ := ownsRow_sliceMap hown2
  have hbl := bord_len l 0
  have k0 := aroundI_lo a1 ((bordL l 0).length : Int) (by omega)
  have k1 := aroundI_hi a1 ((bordL l 0).length : Int) (by omega)
  have m0 := aroundI_lo b1 ((bordL l 0).length : Int) (by omega)
  have m1 := aroundI_hi b1 ((bordL l 0).length : Int) (by omega)
  have KA := Lib.hid (around_any a1 ((bordL l 0).length : Int) w2 (by omega) (by omega) ha1.1 ha1.2)
  have KC := Lib.hid (around_any b1 ((bordL l 0).length : Int) w2 (by omega) (by omega) hb1.1 hb1.2)
  generalize aroundI a1 ((bordL l 0).length : Int) = i at *
  generalize aroundI b1 ((bordL l 0).length : Int) = j at *
  obtain ⟨i, rfl⟩ : ∃ z : Nat, i = z := ⟨i.toNat, by omega⟩
  obtain ⟨j, rfl⟩ : ∃ z : Nat, j = z := ⟨j.toNat, by omega⟩
  obtain ⟨p, hp⟩ : ∃ p : Nat, min (i : Int) (j : Int) = (p : Int) := ⟨min i j, by omega⟩
  obtain ⟨q, hq⟩ : ∃ q : Nat, max (i : Int) (j : Int) = (q : Int) := ⟨max i j, by omega⟩
  have hpq : p ≤ q := by omega
  have hqn : q < (bordL l 0).length := by omega
  have hpn : p < (bordL l 0).length := by omega
  obtain ⟨b2, off2, rfl⟩ := hs2.addr (by simp; omega)
  have f1 := hs2.natV hpn
  have f2 := hs2.natV hqn
  have hm1 := List.getElem_mem hpn
  have hm2 := List.getElem_mem hqn
  have hle : (bordL l 0)[p] ≤ (bordL l 0)[q] := by
    rcases Nat.lt_or_ge p q with h | h
    · exact Nat.le_of_lt (sorted_at (bord_sorted l 0) h hqn)
    · obtain rfl : p = q := by omega
      exact Nat.le_refl _
  generalize (bordL l 0)[p] = x at f1 hm1 hle
  generalize (bordL l 0)[q] = y at f2 hm2 hle
  obtain ⟨n, hn⟩ : ∃ n, (bordL l 0).length = n := ⟨_, rfl⟩
  rw [hn] at hqn hpn hbl
  obtain ⟨l1, u1, e1, o1, q1, q2, q3⟩ := bord_pos hm1 (by omega)
  obtain ⟨l2, u2, e2, o2, q4, q5, q6⟩ := bord_pos hm2 (by omega)
  have kt1 := at_any t (x : Int) w2 (by omega) (by omega) (by omega)
  rw [HTL.out, e1] at kt1
  have kt2 := fun W => at_any t (y : Int) W (by omega) (by omega) (by omega)
  rw [HTL.out, e2] at kt2
  unfold posV at kt1 kt2
  simp only at kt1 kt2
  have KT1 := Lib.hid kt1
  have KT2 := Lib.hid kt2
  have hB2 := Below.step hb1' hb2
  have r1 := pbX_one o1 o2 tx
  have r2 := pbX_one o2 o1 tx
  rw [if_neg (by omega)] at r1
  have R1 := Lib.hid r1
  have R2 := Lib.hid r2
  have HC := hs2.max
  have HL := hs2.le
  simp only [List.length_map] at HL
  rw [hn] at HL KA KC ⊢
  clear kt1 kt2 r1 r2 e1 e2 o1 o2 hm1 hm2 hs2 hown2 KB hb1' hb2 k0 k1 m0 m1 ha1 hb1
  have hc : (p = i ∧ q = j ∧ i < j) ∨ (p = j ∧ q = i ∧ j < i) ∨ (p = i ∧ q = i ∧ j = i) := by omega
  clear hp hq
  rcases hc with ⟨rfl, rfl, hij⟩ | ⟨rfl, rfl, hij⟩ | ⟨rfl, hqe, hij⟩
  rotate_left 2
  · subst hqe
    subst hij
    have hyx : y = x := by
      rw [f1] at f2
      simp at f2
      omega
    subst hyx
    go_wp2_with fail
    refine KA.out.mono ?_
    rintro e w9 ⟨rfl, rfl⟩
    go_wp2_with fail
    refine KC.out.mono ?_
    rintro e w9 ⟨rfl, rfl⟩
    go_wp2_with fail
    refine KT1.out.mono ?_
    rintro e w3 ⟨rfl, hb3⟩
    have hB3 := Below.step hB2 hb3
    obtain ⟨w4, hw4⟩ : ∃ y, y = w3.alloc (.cells #[.int .i64 l1, .int .i64 u1] 32) := ⟨_, rfl⟩
    obtain ⟨p0, p1, hb4⟩ := pos_new hw4
    have hB4 := Below.step hB3 hb4
    have HW4 := Lib.hid hw4
    clear hw4 hb3 hb4 f1 f2
    generalize hg3 : w3.heap.size = g3 at *
    go_wp2_with fail
    rw [← HW4.out]
    refine (KT2.out w4).mono ?_
    rintro e w5 ⟨rfl, hb5⟩
    have p0 := Below.kept hb5 (Nat.le_refl _) p0
    have p1 := Below.kept hb5 (Nat.le_refl _) p1
    have hB5 := Below.step hB4 hb5
    obtain ⟨w6, hw6⟩ : ∃ y, y = w5.alloc (.cells #[.int .i64 l2, .int .i64 u2] 32) := ⟨_, rfl⟩
    obtain ⟨p2, p3, hb6⟩ := pos_new hw6
    have p0 := Below.kept hb6 (Nat.le_refl _) p0
    have p1 := Below.kept hb6 (Nat.le_refl _) p1
    have hB6 := Below.step hB5 hb6
    have HW6 := Lib.hid hw6
    clear hw6 hb5 hb6
    generalize hg5 : w5.heap.size = g5 at *
    go_wp2_with fail
    rw [← HW6.out]
    refine (KSH.out w6).mono ?_
    rintro e w9 ⟨rfl, rfl⟩
    obtain ⟨w7, hw7⟩ : ∃ y, y = w6.alloc (.cells #[.int .i64 l1, .int .i64 u1, .int .i64 l2, .int .i64 u2, .string tx] 45) := ⟨_, rfl⟩
    have hr7 : RecAt pedC 5 w7 (some ⟨w6.heap.size, 0, none⟩) 1 [⟨l1, u1, l2, u2, tx⟩] := by
      rw [hw7]
      exact row_new (cs := pedC ⟨l1, u1, l2, u2, tx⟩) (n := 1) (size := 5) rfl (by decide)
    have hb7 : Below w6.heap.size w6 w7 := by rw [hw7]; exact (Below.refl _ w6).alloc (Nat.le_refl _) _
    have K7 := pbytes_any t (some ⟨w6.heap.size, 0, none⟩) 1 [⟨l1, u1, l2, u2, tx⟩] w7 (by omega) hr7 (by
      intro e he
      simp only [List.mem_singleton] at he
      subst he
      refine ⟨⟨?_, ?_⟩, ⟨?_, ?_⟩, ⟨?_, ?_⟩, ⟨?_, ?_⟩, ?_⟩ <;> dsimp only <;> omega)
    rw [HTL.out, R1.out] at K7
    have K7 := Lib.hid K7
    have p0 := Below.kept hb7 (Nat.le_refl _) p0
    have p1 := Below.kept hb7 (Nat.le_refl _) p1
    have p2 := Below.kept hb7 (Nat.le_refl _) p2
    have p3 := Below.kept hb7 (Nat.le_refl _) p3
    have hB7 := Below.step hB6 hb7
    have HW7 := Lib.hid hw7
    clear hw7 hb7 hr7
    generalize hg6 : w6.heap.size = g6 at *
    go_wp2_with fail
    rw [← HW7.out]
    refine K7.out.mono ?_
    rintro e w8 ⟨v8, rfl, ho8, hb8⟩
    obtain ⟨a8, c8, rfl, hr8⟩ := ho8.at
    have p0 := Below.kept hb8 (Nat.le_refl _) p0
    have p1 := Below.kept hb8 (Nat.le_refl _) p1
    have p2 := Below.kept hb8 (Nat.le_refl _) p2
    have p3 := Below.kept hb8 (Nat.le_refl _) p3
    have hB8 := Below.step hB7 hb8
    have HR8 := Lib.hid hr8
    have h8l := RecAt.le hr8
    have h8c := RecAt.cap_le hr8
    clear hr8 ho8 hb8 K7
    obtain ⟨w10, hw10⟩ : ∃ y, y = w8.alloc (.cells #[.int .i64 l2, .int .i64 u2, .int .i64 l1, .int .i64 u1, .string tx] 45) := ⟨_, rfl⟩
    have hr10 : RecAt pedC 5 w10 (some ⟨w8.heap.size, 0, none⟩) 1 [⟨l2, u2, l1, u1, tx⟩] := by
      rw [hw10]
      exact row_new (cs := pedC ⟨l2, u2, l1, u1, tx⟩) (n := 1) (size := 5) rfl (by decide)
    have hb10 : Below w8.heap.size w8 w10 := by rw [hw10]; exact (Below.refl _ w8).alloc (Nat.le_refl _) _
    have K10 := pbytes_any t (some ⟨w8.heap.size, 0, none⟩) 1 [⟨l2, u2, l1, u1, tx⟩] w10 (by omega) hr10 (by
      intro e he
      simp only [List.mem_singleton] at he
      subst he
      refine ⟨⟨?_, ?_⟩, ⟨?_, ?_⟩, ⟨?_, ?_⟩, ⟨?_, ?_⟩, ?_⟩ <;> dsimp only <;> omega)
    rw [HTL.out, R2.out] at K10
    have K10 := Lib.hid K10
    have HR8 := Lib.hid (HR8.out.below hb10)
    have hB10 := Below.step hB8 hb10
    have HW10 := Lib.hid hw10
    clear hw10 hb10 hr10
    generalize hg8 : w8.heap.size = g8 at *
    simp only [List.length_singleton] at h8l
    by_cases hxy : y < y
    · exact absurd hxy (Nat.lt_irrefl _)
    · have d1 : decide ((y : Int) < (y : Int)) = false := decide_eq_false (by omega)
      have d1' : decide (y < y) = false := decide_eq_false hxy
      rw [if_neg hxy] at K10
      go_wp2_with fail
      rw [← HW10.out]
      refine K10.out.mono ?_
      rintro e w11 ⟨v11, rfl, ho11, hb11⟩
      obtain ⟨a11, c11, rfl, hr11⟩ := ho11.at
      have HR11 := Lib.hid (HR8.out.below hb11)
      have hB11 := Below.step hB10 hb11
      clear HR8 ho11 hr11 hb11
      go_wp2_with fail
      refine (sameEdits_any a8 (some ⟨w11.heap.size, 0, none⟩) c8 1 [⟨y, y, tx⟩] (w11.alloc (.cells #[.int .i64 y, .int .i64 y, .string tx] 52)) (HR11.out.below ((Below.refl _ w11).alloc (Nat.le_refl _) _)) (row_new (cs := bedC ⟨y, y, tx⟩) (n := 1) (size := 3) rfl (by decide))).mono ?_
      rintro e w12 ⟨rfl, hb12⟩
      have hB12 := Below.step (Below.step hB11 ((Below.refl _ w11).alloc (Nat.le_refl _) _)) hb12
      go_wp2_with fail
      refine (lives_any w12).mono ?_
      rintro e w13 ⟨rfl, hb13⟩
      go_wp2_with fail
      go_ret
      exact ⟨rfl, Below.step hB12 hb13⟩
  all_goals
    go_wp2_with fail
    refine KA.out.mono ?_
    rintro e w9 ⟨rfl, rfl⟩
    go_wp2_with fail
    refine KC.out.mono ?_
    rintro e w9 ⟨rfl, rfl⟩
    go_wp2_with fail
    refine KT1.out.mono ?_
    rintro e w3 ⟨rfl, hb3⟩
    have hB3 := Below.step hB2 hb3
    obtain ⟨w4, hw4⟩ : ∃ x, x = w3.alloc (.cells #[.int .i64 l1, .int .i64 u1] 32) := ⟨_, rfl⟩
    obtain ⟨p0, p1, hb4⟩ := pos_new hw4
    have hB4 := Below.step hB3 hb4
    have HW4 := Lib.hid hw4
    clear hw4 hb3 hb4 f1 f2
    generalize hg3 : w3.heap.size = g3 at *
    go_wp2_with fail
    rw [← HW4.out]
    refine (KT2.out w4).mono ?_
    rintro e w5 ⟨rfl, hb5⟩
    have p0 := Below.kept hb5 (Nat.le_refl _) p0
    have p1 := Below.kept hb5 (Nat.le_refl _) p1
    have hB5 := Below.step hB4 hb5
    obtain ⟨w6, hw6⟩ : ∃ x, x = w5.alloc (.cells #[.int .i64 l2, .int .i64 u2] 32) := ⟨_, rfl⟩
    obtain ⟨p2, p3, hb6⟩ := pos_new hw6
    have p0 := Below.kept hb6 (Nat.le_refl _) p0
    have p1 := Below.kept hb6 (Nat.le_refl _) p1
    have hB6 := Below.step hB5 hb6
    have HW6 := Lib.hid hw6
    clear hw6 hb5 hb6
    generalize hg5 : w5.heap.size = g5 at *
    go_wp2_with fail
    rw [← HW6.out]
    refine (KSH.out w6).mono ?_
    rintro e w9 ⟨rfl, rfl⟩
    obtain ⟨w7, hw7⟩ : ∃ x, x = w6.alloc (.cells #[.int .i64 l1, .int .i64 u1, .int .i64 l2, .int .i64 u2, .string tx] 45) := ⟨_, rfl⟩
    have hr7 : RecAt pedC 5 w7 (some ⟨w6.heap.size, 0, none⟩) 1 [⟨l1, u1, l2, u2, tx⟩] := by
      rw [hw7]
      exact row_new (cs := pedC ⟨l1, u1, l2, u2, tx⟩) (n := 1) (size := 5) rfl (by decide)
    have hb7 : Below w6.heap.size w6 w7 := by rw [hw7]; exact (Below.refl _ w6).alloc (Nat.le_refl _) _
    have K7 := pbytes_any t (some ⟨w6.heap.size, 0, none⟩) 1 [⟨l1, u1, l2, u2, tx⟩] w7 (by omega) hr7 (by
      intro e he
      simp only [List.mem_singleton] at he
      subst he
      refine ⟨⟨?_, ?_⟩, ⟨?_, ?_⟩, ⟨?_, ?_⟩, ⟨?_, ?_⟩, ?_⟩ <;> dsimp only <;> omega)
    rw [HTL.out, R1.out] at K7
    have K7 := Lib.hid K7
    have p0 := Below.kept hb7 (Nat.le_refl _) p0
    have p1 := Below.kept hb7 (Nat.le_refl _) p1
    have p2 := Below.kept hb7 (Nat.le_refl _) p2
    have p3 := Below.kept hb7 (Nat.le_refl _) p3
    have hB7 := Below.step hB6 hb7
    have HW7 := Lib.hid hw7
    clear hw7 hb7 hr7
    generalize hg6 : w6.heap.size = g6 at *
    go_wp2_with fail
    rw [← HW7.out]
    refine K7.out.mono ?_
    rintro e w8 ⟨v8, rfl, ho8, hb8⟩
    obtain ⟨a8, c8, rfl, hr8⟩ := ho8.at
    have p0 := Below.kept hb8 (Nat.le_refl _) p0
    have p1 := Below.kept hb8 (Nat.le_refl _) p1
    have p2 := Below.kept hb8 (Nat.le_refl _) p2
    have p3 := Below.kept hb8 (Nat.le_refl _) p3
    have hB8 := Below.step hB7 hb8
    have HR8 := Lib.hid hr8
    have h8l := RecAt.le hr8
    have h8c := RecAt.cap_le hr8
    clear hr8 ho8 hb8 K7
    obtain ⟨w10, hw10⟩ : ∃ x, x = w8.alloc (.cells #[.int .i64 l2, .int .i64 u2, .int .i64 l1, .int .i64 u1, .string tx] 45) := ⟨_, rfl⟩
    have hr10 : RecAt pedC 5 w10 (some ⟨w8.heap.size, 0, none⟩) 1 [⟨l2, u2, l1, u1, tx⟩] := by
      rw [hw10]
      exact row_new (cs := pedC ⟨l2, u2, l1, u1, tx⟩) (n := 1) (size := 5) rfl (by decide)
    have hb10 : Below w8.heap.size w8 w10 := by rw [hw10]; exact (Below.refl _ w8).alloc (Nat.le_refl _) _
    have K10 := pbytes_any t (some ⟨w8.heap.size, 0, none⟩) 1 [⟨l2, u2, l1, u1, tx⟩] w10 (by omega) hr10 (by
      intro e he
      simp only [List.mem_singleton] at he
      subst he
      refine ⟨⟨?_, ?_⟩, ⟨?_, ?_⟩, ⟨?_, ?_⟩, ⟨?_, ?_⟩, ?_⟩ <;> dsimp only <;> omega)
    rw [HTL.out, R2.out] at K10
    have K10 := Lib.hid K10
    have HR8 := Lib.hid (HR8.out.below hb10)
    have hB10 := Below.step hB8 hb10
    have HW10 := Lib.hid hw10
    clear hw10 hb10 hr10
    generalize hg8 : w8.heap.size = g8 at *
    simp only [List.length_singleton] at h8l
    by_cases hxy : x < y
    · have d1 : decide ((x : Int) < (y : Int)) = true := decide_eq_true (by omega)
      have d1' : decide (x < y) = true := decide_eq_true hxy
      rw [if_pos hxy] at K10
      go_wp2_with fail
      rw [← HW10.out]
      refine K10.out.mono ?_
      rintro e w11 ⟨v11, rfl, ho11, hb11⟩
      obtain ⟨a11, c11, rfl, hr11⟩ := ho11.at
      have HR11 := Lib.hid (HR8.out.below hb11)
      have hB11 := Below.step hB10 hb11
      clear HR8 ho11 hr11 hb11
      go_wp2_with fail
      refine (sameEdits_any a8 (some ⟨w11.heap.size, 0, none⟩) c8 1 [⟨x, y, tx⟩] (w11.alloc (.cells #[.int .i64 x, .int .i64 y, .string tx] 52)) (HR11.out.below ((Below.refl _ w11).alloc (Nat.le_refl _) _)) (row_new (cs := bedC ⟨x, y, tx⟩) (n := 1) (size := 3) rfl (by decide))).mono ?_
      rintro e w12 ⟨rfl, hb12⟩
      have hB12 := Below.step (Below.step hB11 ((Below.refl _ w11).alloc (Nat.le_refl _) _)) hb12
      go_wp2_with fail
      refine (lives_any w12).mono ?_
      rintro e w13 ⟨rfl, hb13⟩
      go_wp2_with fail
      go_ret
      exact ⟨rfl, Below.step hB12 hb13⟩
    · have d1 : decide ((x : Int) < (y : Int)) = false := decide_eq_false (by omega)
      have d1' : decide (x < y) = false := decide_eq_false hxy
      rw [if_neg hxy] at K10
      go_wp2_with fail
      rw [← HW10.out]
      refine K10.out.mono ?_
      rintro e w11 ⟨v11, rfl, ho11, hb11⟩
      obtain ⟨a11, c11, rfl, hr11⟩ := ho11.at
      have HR11 := Lib.hid (HR8.out.below hb11)
      have hB11 := Below.step hB10 hb11
      clear HR8 ho11 hr11 hb11
      go_wp2_with fail
      refine (sameEdits_any a8 (some ⟨w11.heap.size, 0, none⟩) c8 1 [⟨x, y, tx⟩] (w11.alloc (.cells #[.int .i64 x, .int .i64 y, .string tx] 52)) (HR11.out.below ((Below.refl _ w11).alloc (Nat.le_refl _) _)) (row_new (cs := bedC ⟨x, y, tx⟩) (n := 1) (size := 3) rfl (by decide))).mono ?_
      rintro e w12 ⟨rfl, hb12⟩
      have hB12 := Below.step (Below.step hB11 ((Below.refl _ w11).alloc (Nat.le_refl _) _)) hb12
      go_wp2_with fail
      refine (lives_any w12).mono ?_
      rintro e w13 ⟨rfl, hb13⟩
      go_wp2_with fail
      go_ret
      exact ⟨rfl, Below.step hB12 hb13⟩
end Go.Proofs.Ytclamcaanoieiaa
