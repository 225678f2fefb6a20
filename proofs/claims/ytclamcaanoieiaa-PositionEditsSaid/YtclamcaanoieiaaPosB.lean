/-
  Contracts of the reference's Char, Units, Lines, Borders, Text; of Has.
-/
import Derived.Test.YtclamcaanoieiaaPosA
namespace Go.Proofs.Ytclamcaanoieiaa
open Go Go.Proofs
open Go.RowKit
set_option linter.unusedVariables false
set_option linter.unusedSimpArgs false

theorem second_any (c : Nat) (w : World) (h : c < 256) :
    Calls Try.prog 51 #[.int .u8 c] w fun e w' => e = .returned (.tuple #[.int .u8 (loN c), .int .u8 (hiN c)]) ∧ w = w' := by
  have hc : c = 224 ∨ c = 237 ∨ c = 240 ∨ c = 244 ∨ (c ≠ 224 ∧ c ≠ 237 ∧ c ≠ 240 ∧ c ≠ 244) := by omega
  rcases hc with rfl | rfl | rfl | rfl | ⟨h1, h2, h3, h4⟩
  · go_enter Try.func51, Try.ntmps51
    go_wp2_with fail
    go_ret2
    exact ⟨rfl, rfl⟩
  · go_enter Try.func51, Try.ntmps51
    go_wp2_with fail
    go_ret2
    exact ⟨rfl, rfl⟩
  · go_enter Try.func51, Try.ntmps51
    go_wp2_with fail
    go_ret2
    exact ⟨rfl, rfl⟩
  · go_enter Try.func51, Try.ntmps51
    go_wp2_with fail
    go_ret2
    exact ⟨rfl, rfl⟩
  · have e1 : ((c : Int) == 224) = false := by simp; omega
    have e2 : ((c : Int) == 237) = false := by simp; omega
    have e3 : ((c : Int) == 240) = false := by simp; omega
    have e4 : ((c : Int) == 244) = false := by simp; omega
    have hl : loN c = 128 := by unfold loN; rw [if_neg h1, if_neg h3]
    have hh : hiN c = 191 := by unfold hiN; rw [if_neg h2, if_neg h4]
    rw [hl, hh]
    clear h1 h2 h3 h4 hl hh
    go_enter Try.func51, Try.ntmps51
    go_wp2_with fail
    go_ret2
    exact ⟨rfl, rfl⟩
theorem between_any (s : ByteArray) (i lo hi : Nat) (w : World) (hs : s.size ≤ 1099511627776) (hi1 : i ≤ 1099511627786) (hlo : lo < 256) (hhi : hi < 256) :
    Calls Try.prog 52 #[.string s, .int .i64 i, .int .u8 lo, .int .u8 hi] w fun e w' => e = .returned (.bool (bet s.data.toList i lo hi)) ∧ w = w' := by
  have hsz : s.data.toList.length = s.size := rfl
  by_cases h : i < s.size
  · have d1 : decide ((i : Int) < (s.size : Int)) = true := decide_eq_true (by omega)
    have d1' : decide (i < s.size) = true := decide_eq_true h
    have hb : bet s.data.toList i lo hi = (decide (lo ≤ by8 s.data.toList i) && decide (by8 s.data.toList i ≤ hi)) := by unfold bet; rw [hsz, d1']; simp
    have hg := get_by s h
    have hg8 := by8_lt s.data.toList i
    generalize by8 s.data.toList i = b at *
    rw [hb]
    clear hb hsz
    by_cases h1 : lo ≤ b
    · have x1 : decide ((lo : Int) ≤ (b : Int)) = true := decide_eq_true (by omega)
      have x1' : decide (lo ≤ b) = true := decide_eq_true h1
      rw [x1']
      by_cases h2 : b ≤ hi
      · have x2 : decide ((b : Int) ≤ (hi : Int)) = true := decide_eq_true (by omega)
        have x2' : decide (b ≤ hi) = true := decide_eq_true h2
        rw [x2']
        go_enter Try.func52, Try.ntmps52
        go_wp2_with fail
        go_ret
        exact ⟨rfl, rfl⟩
      · have x2 : decide ((b : Int) ≤ (hi : Int)) = false := decide_eq_false (by omega)
        have x2' : decide (b ≤ hi) = false := decide_eq_false h2
        rw [x2']
        go_enter Try.func52, Try.ntmps52
        go_wp2_with fail
        go_ret
        exact ⟨rfl, rfl⟩
    · have x1 : decide ((lo : Int) ≤ (b : Int)) = false := decide_eq_false (by omega)
      have x1' : decide (lo ≤ b) = false := decide_eq_false h1
      rw [x1']
      go_enter Try.func52, Try.ntmps52
      go_wp2_with fail
      go_ret
      exact ⟨rfl, rfl⟩
  · have d1 : decide ((i : Int) < (s.size : Int)) = false := decide_eq_false (by omega)
    have d1' : decide (i < s.size) = false := decide_eq_false h
    have hb : bet s.data.toList i lo hi = false := by unfold bet; rw [hsz, d1']; simp
    rw [hb]
    go_enter Try.func52, Try.ntmps52
    go_wp2_with fail
    go_ret
    exact ⟨rfl, rfl⟩
theorem bet_drop (l : List UInt8) (p k lo hi : Nat) : bet (l.drop p) k lo hi = bet l (p + k) lo hi := by
  unfold bet
  rw [by8_drop]
  congr 1
  rw [Bool.eq_iff_iff, List.length_drop]
  simp
  omega
theorem char_any (s : ByteArray) (p : Nat) (w : World) (hs : s.size ≤ 1099511627776) (hp : p < s.size) :
    Calls Try.prog 38 #[.string s, .int .i64 p] w fun e w' => e = .returned (.tuple #[.int .i64 (chL (s.data.toList.drop p)).1, .int .i64 (chL (s.data.toList.drop p)).2]) ∧ w = w' := by
  have hg := get_by s hp
  have hc8 := by8_lt s.data.toList p
  have B1 := fun (i lo hi : Nat) (w : World) (h : i ≤ 1099511627786) (h1 : lo < 256) (h2 : hi < 256) => between_any s i lo hi w hs h h1 h2
  have hch : chL (s.data.toList.drop p) = chL (s.data.toList.drop p) := rfl
  conv at hch => rhs; unfold chL
  simp only [bet_drop, by8_drop, Nat.add_zero] at hch
  obtain ⟨f, hf⟩ : ∃ f, f = bet s.data.toList := ⟨_, rfl⟩
  rw [← hf] at hch B1
  generalize by8 s.data.toList p = c at *
  generalize chL (s.data.toList.drop p) = z at *
  have hlo : loN c < 256 := by unfold loN; repeat' split
                               all_goals omega
  have hhi : hiN c < 256 := by unfold hiN; repeat' split
                               all_goals omega
  have BB := Lib.hid B1
  have SC := Lib.hid (second_any c w hc8)
  generalize loN c = lo at *
  generalize hiN c = hi at *
  clear hf B1
  by_cases hA : 194 ≤ c ∧ c ≤ 223
  · have x1 : decide ((194 : Int) ≤ (c : Int)) = true := decide_eq_true (by omega)
    have x2 : decide ((c : Int) ≤ 223) = true := decide_eq_true (by omega)
    have x3 : decide ((224 : Int) ≤ (c : Int)) = false := decide_eq_false (by omega)
    have x4 : decide ((240 : Int) ≤ (c : Int)) = false := decide_eq_false (by omega)
    rcases hb : f (p + 1) 128 191 with _ | _
    · rw [if_neg (by rintro ⟨_, _, h⟩; rw [hb] at h; cases h), if_neg (by omega), if_neg (by omega)] at hch
      rw [hch]
      clear hA hch
      have HB := Lib.hid hb
      clear hb
      go_enter Try.func38, Try.ntmps38
      go_wp2_with fail
      refine SC.out.mono ?_
      rintro e w1 ⟨rfl, rfl⟩
      go_wp2_with fail
      refine (BB.out (p + 1) 128 191 w (by omega) (by omega) (by omega)).mono ?_
      rw [HB.out]
      rintro e w1 ⟨rfl, rfl⟩
      go_wp2_with fail
      go_ret2
      exact ⟨rfl, rfl⟩
    · rw [if_pos ⟨hA.1, hA.2, hb⟩] at hch
      rw [hch]
      clear hA hch
      have HB := Lib.hid hb
      clear hb
      go_enter Try.func38, Try.ntmps38
      go_wp2_with fail
      refine SC.out.mono ?_
      rintro e w1 ⟨rfl, rfl⟩
      go_wp2_with fail
      refine (BB.out (p + 1) 128 191 w (by omega) (by omega) (by omega)).mono ?_
      rw [HB.out]
      rintro e w1 ⟨rfl, rfl⟩
      go_wp2_with fail
      go_ret2
      exact ⟨rfl, rfl⟩
  · by_cases hB : 224 ≤ c ∧ c ≤ 239
    · have x1 : decide ((194 : Int) ≤ (c : Int)) = true := decide_eq_true (by omega)
      have x2 : decide ((c : Int) ≤ 223) = false := decide_eq_false (by omega)
      have x3 : decide ((224 : Int) ≤ (c : Int)) = true := decide_eq_true (by omega)
      have x5 : decide ((c : Int) ≤ 239) = true := decide_eq_true (by omega)
      have x4 : decide ((240 : Int) ≤ (c : Int)) = false := decide_eq_false (by omega)
      rw [if_neg (by omega)] at hch
      rcases hb : f (p + 1) lo hi with _ | _
      · rw [if_neg (by rintro ⟨_, _, h, _⟩; rw [hb] at h; cases h), if_neg (by omega)] at hch
        rw [hch]
        clear hA hB hch
        have HB := Lib.hid hb
        clear hb
        go_enter Try.func38, Try.ntmps38
        go_wp2_with fail
        refine SC.out.mono ?_
        rintro e w1 ⟨rfl, rfl⟩
        go_wp2_with fail
        refine (BB.out (p + 1) lo hi w (by omega) hlo hhi).mono ?_
        rw [HB.out]
        rintro e w1 ⟨rfl, rfl⟩
        go_wp2_with fail
        go_ret2
        exact ⟨rfl, rfl⟩
      · rcases hb2 : f (p + 2) 128 191 with _ | _
        · rw [if_neg (by rintro ⟨_, _, _, h⟩; rw [hb2] at h; cases h), if_neg (by omega)] at hch
          rw [hch]
          clear hA hB hch
          have HB := Lib.hid hb
          have HB2 := Lib.hid hb2
          clear hb hb2
          go_enter Try.func38, Try.ntmps38
          go_wp2_with fail
          refine SC.out.mono ?_
          rintro e w1 ⟨rfl, rfl⟩
          go_wp2_with fail
          refine (BB.out (p + 1) lo hi w (by omega) hlo hhi).mono ?_
          rw [HB.out]
          rintro e w1 ⟨rfl, rfl⟩
          go_wp2_with fail
          refine (BB.out (p + 2) 128 191 w (by omega) (by omega) (by omega)).mono ?_
          rw [HB2.out]
          rintro e w1 ⟨rfl, rfl⟩
          go_wp2_with fail
          go_ret2
          exact ⟨rfl, rfl⟩
        · rw [if_pos ⟨hB.1, hB.2, hb, hb2⟩] at hch
          rw [hch]
          clear hA hB hch
          have HB := Lib.hid hb
          have HB2 := Lib.hid hb2
          clear hb hb2
          go_enter Try.func38, Try.ntmps38
          go_wp2_with fail
          refine SC.out.mono ?_
          rintro e w1 ⟨rfl, rfl⟩
          go_wp2_with fail
          refine (BB.out (p + 1) lo hi w (by omega) hlo hhi).mono ?_
          rw [HB.out]
          rintro e w1 ⟨rfl, rfl⟩
          go_wp2_with fail
          refine (BB.out (p + 2) 128 191 w (by omega) (by omega) (by omega)).mono ?_
          rw [HB2.out]
          rintro e w1 ⟨rfl, rfl⟩
          go_wp2_with fail
          go_ret2
          exact ⟨rfl, rfl⟩
    · by_cases hC : 240 ≤ c ∧ c ≤ 244
      · have x1 : decide ((194 : Int) ≤ (c : Int)) = true := decide_eq_true (by omega)
        have x2 : decide ((c : Int) ≤ 223) = false := decide_eq_false (by omega)
        have x3 : decide ((224 : Int) ≤ (c : Int)) = true := decide_eq_true (by omega)
        have x5 : decide ((c : Int) ≤ 239) = false := decide_eq_false (by omega)
        have x4 : decide ((240 : Int) ≤ (c : Int)) = true := decide_eq_true (by omega)
        have x6 : decide ((c : Int) ≤ 244) = true := decide_eq_true (by omega)
        rw [if_neg (by omega), if_neg (by omega)] at hch
        rcases hb : f (p + 1) lo hi with _ | _
        · rw [if_neg (by rintro ⟨_, _, h, _⟩; rw [hb] at h; cases h)] at hch
          rw [hch]
          clear hA hB hC hch
          have HB := Lib.hid hb
          clear hb
          go_enter Try.func38, Try.ntmps38
          go_wp2_with fail
          refine SC.out.mono ?_
          rintro e w1 ⟨rfl, rfl⟩
          go_wp2_with fail
          refine (BB.out (p + 1) lo hi w (by omega) hlo hhi).mono ?_
          rw [HB.out]
          rintro e w1 ⟨rfl, rfl⟩
          go_wp2_with fail
          go_ret2
          exact ⟨rfl, rfl⟩
        · rcases hb2 : f (p + 2) 128 191 with _ | _
          · rw [if_neg (by rintro ⟨_, _, _, h, _⟩; rw [hb2] at h; cases h)] at hch
            rw [hch]
            clear hA hB hC hch
            have HB := Lib.hid hb
            have HB2 := Lib.hid hb2
            clear hb hb2
            go_enter Try.func38, Try.ntmps38
            go_wp2_with fail
            refine SC.out.mono ?_
            rintro e w1 ⟨rfl, rfl⟩
            go_wp2_with fail
            refine (BB.out (p + 1) lo hi w (by omega) hlo hhi).mono ?_
            rw [HB.out]
            rintro e w1 ⟨rfl, rfl⟩
            go_wp2_with fail
            refine (BB.out (p + 2) 128 191 w (by omega) (by omega) (by omega)).mono ?_
            rw [HB2.out]
            rintro e w1 ⟨rfl, rfl⟩
            go_wp2_with fail
            go_ret2
            exact ⟨rfl, rfl⟩
          · rcases hb3 : f (p + 3) 128 191 with _ | _
            · rw [if_neg (by rintro ⟨_, _, _, _, h⟩; rw [hb3] at h; cases h)] at hch
              rw [hch]
              clear hA hB hC hch
              have HB := Lib.hid hb
              have HB2 := Lib.hid hb2
              have HB3 := Lib.hid hb3
              clear hb hb2 hb3
              go_enter Try.func38, Try.ntmps38
              go_wp2_with fail
              refine SC.out.mono ?_
              rintro e w1 ⟨rfl, rfl⟩
              go_wp2_with fail
              refine (BB.out (p + 1) lo hi w (by omega) hlo hhi).mono ?_
              rw [HB.out]
              rintro e w1 ⟨rfl, rfl⟩
              go_wp2_with fail
              refine (BB.out (p + 2) 128 191 w (by omega) (by omega) (by omega)).mono ?_
              rw [HB2.out]
              rintro e w1 ⟨rfl, rfl⟩
              go_wp2_with fail
              refine (BB.out (p + 3) 128 191 w (by omega) (by omega) (by omega)).mono ?_
              rw [HB3.out]
              rintro e w1 ⟨rfl, rfl⟩
              go_wp2_with fail
              go_ret2
              exact ⟨rfl, rfl⟩
            · rw [if_pos ⟨hC.1, hC.2, hb, hb2, hb3⟩] at hch
              rw [hch]
              clear hA hB hC hch
              have HB := Lib.hid hb
              have HB2 := Lib.hid hb2
              have HB3 := Lib.hid hb3
              clear hb hb2 hb3
              go_enter Try.func38, Try.ntmps38
              go_wp2_with fail
              refine SC.out.mono ?_
              rintro e w1 ⟨rfl, rfl⟩
              go_wp2_with fail
              refine (BB.out (p + 1) lo hi w (by omega) hlo hhi).mono ?_
              rw [HB.out]
              rintro e w1 ⟨rfl, rfl⟩
              go_wp2_with fail
              refine (BB.out (p + 2) 128 191 w (by omega) (by omega) (by omega)).mono ?_
              rw [HB2.out]
              rintro e w1 ⟨rfl, rfl⟩
              go_wp2_with fail
              refine (BB.out (p + 3) 128 191 w (by omega) (by omega) (by omega)).mono ?_
              rw [HB3.out]
              rintro e w1 ⟨rfl, rfl⟩
              go_wp2_with fail
              go_ret2
              exact ⟨rfl, rfl⟩
      · rw [if_neg (by omega), if_neg (by omega), if_neg (by omega)] at hch
        rw [hch]
        clear hch
        by_cases hD : c < 194
        · have x1 : decide ((194 : Int) ≤ (c : Int)) = false := decide_eq_false (by omega)
          have x3 : decide ((224 : Int) ≤ (c : Int)) = false := decide_eq_false (by omega)
          have x4 : decide ((240 : Int) ≤ (c : Int)) = false := decide_eq_false (by omega)
          clear hA hB hC hD
          go_enter Try.func38, Try.ntmps38
          go_wp2_with fail
          refine SC.out.mono ?_
          rintro e w1 ⟨rfl, rfl⟩
          go_wp2_with fail
          go_ret2
          exact ⟨rfl, rfl⟩
        · have x1 : decide ((194 : Int) ≤ (c : Int)) = true := decide_eq_true (by omega)
          have x2 : decide ((c : Int) ≤ 223) = false := decide_eq_false (by omega)
          have x3 : decide ((224 : Int) ≤ (c : Int)) = true := decide_eq_true (by omega)
          have x5 : decide ((c : Int) ≤ 239) = false := decide_eq_false (by omega)
          have x4 : decide ((240 : Int) ≤ (c : Int)) = true := decide_eq_true (by omega)
          have x6 : decide ((c : Int) ≤ 244) = false := decide_eq_false (by omega)
          clear hA hB hC hD
          go_enter Try.func38, Try.ntmps38
          go_wp2_with fail
          refine SC.out.mono ?_
          rintro e w1 ⟨rfl, rfl⟩
          go_wp2_with fail
          go_ret2
          exact ⟨rfl, rfl⟩
end Go.Proofs.Ytclamcaanoieiaa
