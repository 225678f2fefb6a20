/-
  The walks of the laws PositionOrder, PositionOffset.
-/
import Derived.Test.YtclamcaanoieiaaPosI
namespace Go.Proofs.Ytclamcaanoieiaa
open Go Go.Proofs
open Go.RowKit
set_option linter.unusedVariables false
set_option linter.unusedSimpArgs false

theorem kept_alloc {w : World} {p : Addr} {v : Value} (h : w.cell? p = some v) : ∀ ob, (w.alloc ob).cell? p = some v :=
  fun ob => Below.kept ((Below.refl _ w).alloc (Nat.le_refl _) ob) (Nat.le_refl _) h
theorem dec_nat {a b : Nat} (h : a < b) : decide ((a : Int) < (b : Int)) = true ∧ decide (a < b) = true := ⟨decide_eq_true (by omega), decide_eq_true h⟩
theorem dec_nat' {a b : Nat} (h : ¬ a < b) : decide ((a : Int) < (b : Int)) = false ∧ decide (a < b) = false := ⟨decide_eq_false (by omega), decide_eq_false h⟩
theorem eq_nat {a b : Nat} (h : a = b) : ((a : Int) == (b : Int)) = true := by subst h; simp
theorem eq_nat' {a b : Nat} (h : a ≠ b) : ((a : Int) == (b : Int)) = false := by simp; omega

set_option maxRecDepth 100000 in
set_option maxHeartbeats 8000000 in
theorem positionOrder_walk (s : ByteArray) (a : Option Addr) (c : Nat) (xs : List Int) (a1 b1 : Int) (w : World) (hs : s.size ≤ 9223372036854775807) (hx : SliceAt w a c (xs.map intV)) (hxb : ∀ n ∈ xs, -9223372036854775808 ≤ n ∧ n ≤ 9223372036854775807) (ha1 : -9223372036854775808 ≤ a1 ∧ a1 ≤ 9223372036854775807) (hb1 : -9223372036854775808 ≤ b1 ∧ b1 ≤ 9223372036854775807) :
    Calls Try.prog 7 #[.string s, .slice a xs.length c, .int .i64 a1, .int .i64 b1] w fun e w' => e = .returned (.bool true) ∧ Below w.heap.size w w' := by
  have hts := textT_size s 40 xs
  have HTS := Lib.hid hts
  clear hts
  go_enter Try.func7, Try.ntmps7
  go_wp2_with fail
  refine (short_any s 40 w hs (by decide)).mono ?_
  rintro e w0 ⟨rfl, rfl⟩
  go_wp2_with fail
  refine (text_b a c xs w hx hxb).mono ?_
  rintro e w1 ⟨rfl, hb1⟩
  go_wp2_with fail
  obtain ⟨w2, hw2⟩ : ∃ x, x = w1.alloc (.cells #[.string (s.extract 0 40), .string (textB xs)] 9) := ⟨_, rfl⟩
  rw [← hw2]
  obtain ⟨hcell, hb2⟩ := all_two hw2
  have hB2 := Below.step hb1 hb2
  have HC := Lib.hid hcell
  clear hcell hw2 hb1 hb2
  generalize w1.heap.size = g at *
  go_loopw [10] (fun iv wr => ∃ i : Nat, i ≤ 2 ∧ iv = .int .i64 i ∧ Below w2.heap.size w2 wr) (fun iv _ => 2 - (intOf iv).toNat)
  case atStart => exact ⟨0, by omega, rfl, Below.refl _ _⟩
  case round =>
    obtain ⟨i, hi, rfl, hB⟩ := hrel
    by_cases hlt : i < 2
    · have c0 := Below.kept hB (Nat.le_refl _) (HC.out i hlt)
      have htsz := HTS.out i (by omega)
      have di : decide ((i : Int) < 2) = true := decide_eq_true (by omega)
      generalize textT s 40 xs i = t at *
      obtain ⟨B, hBd⟩ : ∃ B, bordL t.data.toList 0 = B := ⟨_, rfl⟩
      have hbl := bord_len t.data.toList 0
      have htl : t.data.toList.length = t.size := rfl
      have hrb := rborders_any t wr (by omega)
      rw [hBd] at hrb hbl
      have k0 := aroundI_lo a1 (B.length : Int) (by omega)
      have k1 := aroundI_hi a1 (B.length : Int) (by omega)
      have k2 := aroundI_lo b1 (B.length : Int) (by omega)
      have k3 := aroundI_hi b1 (B.length : Int) (by omega)
      have r1 := fun W => around_any a1 (B.length : Int) W (by omega) (by omega) ha1.1 ha1.2
      have r2 := fun W => around_any b1 (B.length : Int) W (by omega) (by omega) hb1.1 hb1.2
      generalize aroundI a1 (B.length : Int) = m1 at *
      generalize aroundI b1 (B.length : Int) = m2 at *
      obtain ⟨n1, rfl⟩ : ∃ n : Nat, m1 = n := ⟨m1.toNat, by omega⟩
      obtain ⟨n2, rfl⟩ : ∃ n : Nat, m2 = n := ⟨m2.toNat, by omega⟩
      have hn1 : n1 < B.length := by omega
      have hn2 : n2 < B.length := by omega
      obtain ⟨x, hxd⟩ : ∃ x, B[n1] = x := ⟨_, rfl⟩
      obtain ⟨y, hyd⟩ : ∃ y, B[n2] = y := ⟨_, rfl⟩
      have hxm : x ∈ bordL t.data.toList 0 := by rw [hBd, ← hxd]; exact List.getElem_mem _
      have hym : y ∈ bordL t.data.toList 0 := by rw [hBd, ← hyd]; exact List.getElem_mem _
      have hxg := bord_ge hxm
      have hyg := bord_ge hym
      have f1 := fun W => at_any t (x : Int) W (by omega) (by omega) (by omega)
      have f2 := fun W => at_any t (y : Int) W (by omega) (by omega) (by omega)
      have o1 := (atC_ok (l := t.data.toList) (off := (x : Int))).2 ⟨by omega, by simpa using hxm⟩
      have o2 := (atC_ok (l := t.data.toList) (off := (y : Int))).2 ⟨by omega, by simpa using hym⟩
      have l1 := fun h : x < y => at_lt hxm hym h
      have l2 := fun h : y < x => at_lt hym hxm h
      have l3 : x = y → (atC t.data.toList (x : Int)).1 = (atC t.data.toList (y : Int)).1 := fun h => by rw [h]
      generalize atC t.data.toList (x : Int) = u1 at *
      generalize atC t.data.toList (y : Int) = u2 at *
      obtain ⟨⟨p1, p2⟩, p3⟩ := u1
      obtain ⟨⟨q1, q2⟩, q3⟩ := u2
      simp only at o1 o2 l1 l2 l3
      subst o1 o2
      unfold posV at f1 f2
      simp only at f1 f2
      have hcase : (p1 < q1 ∧ x < y) ∨ (p1 = q1 ∧ p2 < q2 ∧ x < y) ∨ (p1 = q1 ∧ p2 = q2 ∧ x = y) ∨ (q1 < p1 ∧ y < x) ∨ (p1 = q1 ∧ q2 < p2 ∧ y < x) := by
        rcases Nat.lt_trichotomy x y with h | h | h
        · rcases l1 h with h' | h'
          · exact .inl ⟨h', h⟩
          · exact .inr (.inl ⟨h'.1, h'.2, h⟩)
        · have := l3 h
          simp only [Prod.mk.injEq] at this
          exact .inr (.inr (.inl ⟨this.1, this.2, h⟩))
        · rcases l2 h with h' | h'
          · exact .inr (.inr (.inr (.inl ⟨h', h⟩)))
          · exact .inr (.inr (.inr (.inr ⟨h'.1.symm, h'.2, h⟩)))
      have HRB := Lib.hid hrb
      have R1 := Lib.hid r1
      have R2 := Lib.hid r2
      have F1 := Lib.hid f1
      have F2 := Lib.hid f2
      have HX := Lib.hid hxd
      have HY := Lib.hid hyd
      have HCA := Lib.hid hcase
      clear hrb r1 r2 f1 f2 hxd hyd hBd hxm hym l1 l2 l3 hcase k0 k1 k2 k3 htl
      go_wp2_with fail
      refine HRB.out.mono ?_
      rintro e w3 ⟨v, rfl, hown3, hb3⟩
      obtain ⟨ba, bc, rfl, hs3⟩ := ownsRow_sliceMap hown3
      obtain ⟨bb, boff, rfl⟩ := hs3.addr (by simp; omega)
      have e1 := hs3.natV hn1
      have e2 := hs3.natV hn2
      rw [HX.out] at e1
      rw [HY.out] at e2
      have c3 := Below.kept hb3 (Nat.le_refl _) c0
      clear hown3 hs3
      go_wp2_with fail
      refine (R1.out w3).mono ?_
      rintro e w4 ⟨rfl, rfl⟩
      go_wp2_with fail
      refine (R2.out w3).mono ?_
      rintro e w4 ⟨rfl, rfl⟩
      go_wp2_with fail
      refine (F1.out w3).mono ?_
      rintro e w4 ⟨rfl, hb4⟩
      have c4 := Below.kept hb4 (Nat.le_refl _) c3
      have c4a := kept_alloc c4
      go_wp2_with fail
      obtain ⟨v4, hv4⟩ : ∃ x, x = w4.alloc (.cells #[.int .i64 p1, .int .i64 p2] 32) := ⟨_, rfl⟩
      obtain ⟨g0, g1, gb⟩ := pos_new hv4
      have hB4 := Below.step (Below.step hb3 hb4) gb
      rw [← hv4]
      clear hv4 gb hb4 hb3 c4a c4 c3 e1 e2
      refine (F2.out v4).mono ?_
      rintro e w5 ⟨rfl, hb5⟩
      have hB5 := hB.trans ((Below.step hB4 hb5).mono hB.size)
      have p0 := kept_alloc (Below.kept hb5 (Nat.le_refl _) g0)
      have pp1 := kept_alloc (Below.kept hb5 (Nat.le_refl _) g1)
      obtain ⟨v5, hv5⟩ : ∃ x, x = w5.alloc (.cells #[.int .i64 q1, .int .i64 q2] 32) := ⟨_, rfl⟩
      obtain ⟨g50, g51, gb5⟩ := pos_new hv5
      have hB6 := hB5.trans (gb5.mono hB5.size)
      have hcase := HCA.out
      rw [hv5] at g50 g51 hB6
      clear hv5 gb5 hb5 hB4 g0 g1 v5 hB5
      rcases hcase with ⟨h1, h2⟩ | ⟨h1, h3, h2⟩ | ⟨h1, h3, h2⟩ | ⟨h1, h2⟩ | ⟨h1, h3, h2⟩
      · obtain ⟨x1, x2⟩ := dec_nat h1
        have x3 := eq_nat' (a := p1) (b := q1) (by omega)
        obtain ⟨x4, x5⟩ := dec_nat h2
        have x6 := eq_nat' (a := x) (b := y) (by omega)
        go_wp2_with fail
        go_roundw
        case rel => first | exact ⟨i + 1, by omega, by go_num, hB6⟩ | ((repeat apply Exists.intro); refine ⟨?_, rfl⟩; exact ⟨i + 1, by omega, by go_num, hB6⟩)
        case measure => simp [intOf]; omega
      · subst h1
        obtain ⟨x1, x2⟩ := dec_nat' (a := p1) (b := p1) (by omega)
        have x3 := eq_nat (a := p1) (b := p1) rfl
        obtain ⟨x4, x5⟩ := dec_nat h2
        have x6 := eq_nat' (a := x) (b := y) (by omega)
        obtain ⟨x7, x8⟩ := dec_nat h3
        have x9 := eq_nat' (a := p2) (b := q2) (by omega)
        go_wp2_with fail
        go_roundw
        case rel => first | exact ⟨i + 1, by omega, by go_num, hB6⟩ | ((repeat apply Exists.intro); refine ⟨?_, rfl⟩; exact ⟨i + 1, by omega, by go_num, hB6⟩)
        case measure => simp [intOf]; omega
      · subst h1 h2 h3
        obtain ⟨x1, x2⟩ := dec_nat' (a := p1) (b := p1) (by omega)
        have x3 := eq_nat (a := p1) (b := p1) rfl
        obtain ⟨x4, x5⟩ := dec_nat' (a := x) (b := x) (by omega)
        have x6 := eq_nat (a := x) (b := x) rfl
        obtain ⟨x7, x8⟩ := dec_nat' (a := p2) (b := p2) (by omega)
        have x9 := eq_nat (a := p2) (b := p2) rfl
        go_wp2_with fail
        go_roundw
        case rel => first | exact ⟨i + 1, by omega, by go_num, hB6⟩ | ((repeat apply Exists.intro); refine ⟨?_, rfl⟩; exact ⟨i + 1, by omega, by go_num, hB6⟩)
        case measure => simp [intOf]; omega
      · obtain ⟨x1, x2⟩ := dec_nat' (a := p1) (b := q1) (by omega)
        have x3 := eq_nat' (a := p1) (b := q1) (by omega)
        obtain ⟨x4, x5⟩ := dec_nat' (a := x) (b := y) (by omega)
        have x6 := eq_nat' (a := x) (b := y) (by omega)
        go_wp2_with fail
        go_roundw
        case rel => first | exact ⟨i + 1, by omega, by go_num, hB6⟩ | ((repeat apply Exists.intro); refine ⟨?_, rfl⟩; exact ⟨i + 1, by omega, by go_num, hB6⟩)
        case measure => simp [intOf]; omega
      · subst h1
        obtain ⟨x1, x2⟩ := dec_nat' (a := p1) (b := p1) (by omega)
        have x3 := eq_nat (a := p1) (b := p1) rfl
        obtain ⟨x4, x5⟩ := dec_nat' (a := x) (b := y) (by omega)
        have x6 := eq_nat' (a := x) (b := y) (by omega)
        obtain ⟨x7, x8⟩ := dec_nat' (a := p2) (b := q2) (by omega)
        have x9 := eq_nat' (a := p2) (b := q2) (by omega)
        go_wp2_with fail
        go_roundw
        case rel => first | exact ⟨i + 1, by omega, by go_num, hB6⟩ | ((repeat apply Exists.intro); refine ⟨?_, rfl⟩; exact ⟨i + 1, by omega, by go_num, hB6⟩)
        case measure => simp [intOf]; omega
    · obtain rfl : i = 2 := by omega
      go_wp2_with fail
      refine (lives_any wr).mono ?_
      rintro e w3 ⟨rfl, hb3⟩
      go_wp2_with fail
      go_ret
      exact ⟨rfl, Below.step (Below.step hB2 hB) hb3⟩

set_option maxRecDepth 100000 in
set_option maxHeartbeats 8000000 in
theorem positionOffset_walk (s : ByteArray) (a : Option Addr) (c : Nat) (xs : List Int) (line unit : Int) (w : World) (hs : s.size ≤ 9223372036854775807) (hx : SliceAt w a c (xs.map intV)) (hxb : ∀ n ∈ xs, -9223372036854775808 ≤ n ∧ n ≤ 9223372036854775807) (hl : -9223372036854775808 ≤ line ∧ line ≤ 9223372036854775807) (hu : -9223372036854775808 ≤ unit ∧ unit ≤ 9223372036854775807) :
    Calls Try.prog 4 #[.string s, .slice a xs.length c, .agg #[.int .i64 line, .int .i64 unit]] w fun e w' => e = .returned (.bool true) ∧ Below w.heap.size w w' := by
  have hts := textT_size s 60 xs
  have HTS := Lib.hid hts
  clear hts
  obtain ⟨w0, hw0⟩ : ∃ x, x = w.alloc (.cells #[.int .i64 line, .int .i64 unit] 32) := ⟨_, rfl⟩
  obtain ⟨b0, b1, hb0⟩ := pos_new hw0
  have hx0 := hx.below hb0
  have HW := Lib.hid hw0
  clear hw0
  go_enter Try.func4, Try.ntmps4
  go_wp2_with fail
  rw [← HW.out]
  refine (short_any s 60 w0 hs (by decide)).mono ?_
  rintro e w9 ⟨rfl, rfl⟩
  go_wp2_with fail
  refine (text_b a c xs w0 hx0 hxb).mono ?_
  rintro e w1 ⟨rfl, hb1⟩
  go_wp2_with fail
  obtain ⟨w2, hw2⟩ : ∃ x, x = w1.alloc (.cells #[.string (s.extract 0 60), .string (textB xs)] 9) := ⟨_, rfl⟩
  rw [← hw2]
  obtain ⟨hcell, hb2⟩ := all_two hw2
  have hB2 := Below.step (Below.step hb0 hb1) hb2
  have b0 := Below.kept hb2 (Nat.le_refl _) (Below.kept hb1 (Nat.le_refl _) b0)
  have b1 := Below.kept hb2 (Nat.le_refl _) (Below.kept hb1 (Nat.le_refl _) b1)
  have HC := Lib.hid hcell
  clear hcell hw2 hb1 hb2 hb0
  generalize w1.heap.size = g at *
  go_loopw [8] (fun iv wr => ∃ i : Nat, i ≤ 2 ∧ iv = .int .i64 i ∧ Below w2.heap.size w2 wr) (fun iv _ => 2 - (intOf iv).toNat)
  case atStart => exact ⟨0, by omega, rfl, Below.refl _ _⟩
  case round =>
    obtain ⟨i, hi, rfl, hB⟩ := hrel
    by_cases hlt : i < 2
    · have c0 := Below.kept hB (Nat.le_refl _) (HC.out i hlt)
      have d0 := Below.kept hB (Nat.le_refl _) b0
      have d1 := Below.kept hB (Nat.le_refl _) b1
      have htsz := HTS.out i (by omega)
      generalize textT s 60 xs i = t at *
      have ka := fun W => offset_any t line unit W (by omega) hl.1 hl.2 hu.1 hu.2
      have kb := fun W => roffset_any t line unit W (by omega) hl.1 hl.2 hu.1 hu.2
      generalize offC t.data.toList line unit = r at *
      obtain ⟨r1, r2⟩ := r
      simp only at ka kb
      have hnn : ((r1 : Int) != (r1 : Int)) = false := by simp
      have hnm : ((r2 : Int) != (r2 : Int)) = false := by simp
      obtain ⟨S, hS⟩ : ∃ S : World → Prop, S = fun W => Below wr.heap.size wr W ∧ W.cell? ⟨g, i, none⟩ = some (.string t) ∧ W.cell? ⟨w.heap.size, 0, none⟩ = some (.int .i64 line) ∧ W.cell? ⟨w.heap.size, 1, none⟩ = some (.int .i64 unit) := ⟨_, rfl⟩
      have hSk : ∀ W W', S W → Below W.heap.size W W' → S W' := by
        intro W W' h hb
        rw [hS] at h ⊢
        exact ⟨Below.step h.1 hb, Below.kept hb (Nat.le_refl _) h.2.1, Below.kept hb (Nat.le_refl _) h.2.2.1, Below.kept hb (Nat.le_refl _) h.2.2.2⟩
      have k1 : ∀ W, S W → Calls Try.prog 20 #[.string t, .agg #[.int .i64 line, .int .i64 unit]] W fun e w' => e = .returned (.tuple #[.int .i64 r1, .int .i64 r2]) ∧ S w' := by
        intro W hW
        exact (ka W).mono fun e w' ⟨h1, h2⟩ => ⟨h1, hSk _ _ hW h2⟩
      have k2 : ∀ W, S W → Calls Try.prog 21 #[.string t, .agg #[.int .i64 line, .int .i64 unit]] W fun e w' => e = .returned (.tuple #[.int .i64 r1, .int .i64 r2]) ∧ S w' := by
        intro W hW
        exact (kb W).mono fun e w' ⟨h1, h2⟩ => ⟨h1, hSk _ _ hW h2⟩
      have HS0 : Hid (S wr.drew) := by
        unfold Hid; rw [hS]; exact ⟨Below.drew (Below.refl _ _), c0, d0, d1⟩
      have HSD : Hid (∀ W, S W → S W.drew) := fun W h => hSk _ _ h (Below.drew (Below.refl _ _))
      have K1 := Lib.hid k1
      have K2 := Lib.hid k2
      clear k1 k2 hSk ka kb
      subst hS
      go_wp2_with fail
      go_region_held3 (fun W => Below wr.heap.size wr W ∧ W.cell? ⟨g, i, none⟩ = some (.string t) ∧ W.cell? ⟨w.heap.size, 0, none⟩ = some (.int .i64 line) ∧ W.cell? ⟨w.heap.size, 1, none⟩ = some (.int .i64 unit)) (first | assumption | exact HS0.out)
        (first | (go_at_call 20; (with_reducible refine (K1.out _ (by assumption)).mono ?_); rintro e w' ⟨rfl, hbb⟩) | (go_at_call 21; (with_reducible refine (K2.out _ (by assumption)).mono ?_); rintro e w' ⟨rfl, hbb⟩))
      go_wp2_with fail
      go_region_held3 (fun W => Below wr.heap.size wr W ∧ W.cell? ⟨g, i, none⟩ = some (.string t) ∧ W.cell? ⟨w.heap.size, 0, none⟩ = some (.int .i64 line) ∧ W.cell? ⟨w.heap.size, 1, none⟩ = some (.int .i64 unit)) (first | assumption | exact HSD.out _ (by assumption))
        (first | (go_at_call 20; (with_reducible refine (K1.out _ (by assumption)).mono ?_); rintro e w' ⟨rfl, hbb⟩) | (go_at_call 21; (with_reducible refine (K2.out _ (by assumption)).mono ?_); rintro e w' ⟨rfl, hbb⟩))
      go_wp2_with fail
      go_roundw
      case rel => exact ⟨i + 1, by omega, by go_num, Below.trans hB (Below.mono (And.left (b := _ ∧ _) (by assumption)) hB.size)⟩
      case measure => simp [intOf]; omega
    · obtain rfl : i = 2 := by omega
      go_wp2_with fail
      refine (lives_any wr).mono ?_
      rintro e w3 ⟨rfl, hb3⟩
      go_wp2_with fail
      go_ret
      exact ⟨rfl, Below.step (Below.step hB2 hB) hb3⟩
end Go.Proofs.Ytclamcaanoieiaa
