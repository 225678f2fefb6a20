/-
  Contracts: lines, units and borders of a text, its characters, the generator of texts (package and reference).
-/
import Derived.Test.YtmonpnikdheokaaRefA
import Derived.Test.YtmonpnikdheokaaPosP
namespace Go.Proofs.Ytmonpnikdheokaa
open Go Go.Proofs
open Go.RowKit
set_option linter.unusedVariables false
set_option linter.unusedSimpArgs false


theorem units1_any (r : Nat) (w : World) (h : r ≤ 2147483647) :
    Calls Try.prog 110 #[.int .i32 r] w fun e w' => e = .returned (.int .i64 ((if 65536 ≤ r then 2 else 1 : Nat) : Int)) ∧ w = w' := by
  by_cases h : 65536 ≤ r
  · have d : decide ((65536 : Int) ≤ (r : Int)) = true := decide_eq_true (by omega)
    rw [if_pos h]
    go_enter Try.func110, Try.ntmps110
    go_wp2_with fail
    go_ret
    exact ⟨rfl, rfl⟩
  · have d : decide ((65536 : Int) ≤ (r : Int)) = false := decide_eq_false (by omega)
    rw [if_neg h]
    go_enter Try.func110, Try.ntmps110
    go_wp2_with fail
    go_ret
    exact ⟨rfl, rfl⟩
/-- What a round of a range over a string knows. -/
theorem next_at (P : Program) (w : World) (s : ByteArray) (pos : Nat) (h : pos < s.size) :
    ∃ r : Nat, r ≤ 2147483647 ∧ (if 65536 ≤ r then 2 else 1) = (chL (s.data.toList.drop pos)).2 ∧ (r = 10 ↔ by8 (s.data.toList.drop pos) 0 = 10) ∧
      ∀ ty, (Instr.next (.pointer (some ⟨w.heap.size, 0, none⟩)) true ty).run P (w.iter s pos) = .ok (.tuple #[.bool true, .int .i64 pos, .int .i32 r]) (w.iter s (pos + (chL (s.data.toList.drop pos)).1)) := by
  obtain ⟨d1, d2, d3⟩ := dec_link s pos h
  exact ⟨(Utf8.decode s pos).1, decode_le s pos, d2, d3, fun ty => by rw [← d1]; exact run_next_any w s pos ty h⟩
theorem drop_ne {l : List UInt8} {p : Nat} (h : p < l.length) : l.drop p ≠ [] := by
  intro e
  have := congrArg List.length e
  simp at this
  omega
theorem below_iter (w : World) (s : ByteArray) (p : Nat) : Below w.heap.size w (w.iter s p) := (Below.refl _ w).alloc (Nat.le_refl _) _
/-- Byte i of a string. -/
theorem get_by (s : ByteArray) {i : Nat} (h : i < s.size) : (s[i]'h).toNat = by8 s.data.toList i := by
  unfold by8
  rw [List.getD_eq_getElem?_getD, Array.getElem?_toList, Array.getElem?_eq_getElem h]
  rfl
def natV (n : Nat) : Value := .int .i64 n
theorem lines_step {l : List UInt8} {k : Nat} (h : k < l.length) : linesFrom (l.drop k) k = if by8 l k = 10 then (k + 1) :: linesFrom (l.drop (k + 1)) (k + 1) else linesFrom (l.drop (k + 1)) (k + 1) := by
  rw [List.drop_eq_getElem_cons h]
  have : l[k].toNat = by8 l k := by unfold by8; rw [List.getD_eq_getElem?_getD, List.getElem?_eq_getElem h]; rfl
  rw [linesFrom, this]
theorem linesL_len (l : List UInt8) : (linesL l).length ≤ l.length + 1 := by
  have : ∀ (l : List UInt8) (i : Nat), (linesFrom l i).length ≤ l.length := by
    intro l
    induction l with
    | nil => intro i; simp [linesFrom]
    | cons c cs ih => intro i; unfold linesFrom; have := ih (i + 1); split <;> simp <;> omega
  have := this l 0
  simp [linesL]
  omega
theorem lines_any (s : ByteArray) (w : World) (hs : s.size ≤ 1099511627776) :
    Calls Try.prog 109 #[.string s] w fun e w' => ∃ v, e = .returned v ∧ w'.ownsRow w.heap.size 3 1 v (linesL s.data.toList).length ((linesL s.data.toList).map natV) ∧ Below w.heap.size w w' := by
  obtain ⟨l, hl⟩ : ∃ l, s.data.toList = l := ⟨_, rfl⟩
  have hsz : l.length = s.size := by rw [← hl]; rfl
  have hby : ∀ i (h : i < s.size), (s[i]'h).toNat = by8 l i := by intro i h; rw [get_by s h, hl]
  have hll := linesL_len l
  rw [hl]
  have HBY := Lib.hid hby
  clear hby
  have hown : (w.alloc (.cells #[.int .i64 0] 3)).ownsRow w.heap.size 3 1 (.slice (some ⟨w.heap.size, 0, none⟩) 1 1) 1 [.int .i64 0] := World.ownsRow_lit w #[.int .i64 0] 1 (Nat.le_refl _) (by decide) rfl
  go_enter Try.func109, Try.ntmps109
  go_wp2_with fail
  go_loopw [3, 8] (fun v i wr => ∃ (k : Nat) (acc : List Nat), k ≤ l.length ∧ i = .int .i64 k ∧ acc.length ≤ k + 1 ∧ wr.ownsRow w.heap.size 3 1 v acc.length (acc.map natV) ∧ Below w.heap.size w wr ∧ Hid (acc ++ linesFrom (l.drop k) k = linesL l)) (fun _ i _ => l.length - (intOf i).toNat)
  case atStart => exact ⟨0, [0], by omega, rfl, by simp, hown, (Below.refl _ w).alloc (Nat.le_refl _) _, by unfold Hid linesL; simp⟩
  case round =>
    obtain ⟨k, acc, hk, rfl, hal, hr, hB, hE⟩ := hrel
    by_cases hkl : k < l.length
    · have hks : k < s.size := by omega
      have hst := lines_step hkl
      have hg := HBY.out k hks
      have hg8 := by8_lt l k
      by_cases hnl : by8 l k = 10
      · rw [if_pos hnl] at hst
        have hq : ((s[k].toNat : Int) == 10) = true := by rw [hg]; simp; omega
        have hE2 : Hid ((acc ++ [k + 1]) ++ linesFrom (l.drop (k + 1)) (k + 1) = linesL l) := by unfold Hid; rw [← hE.out, hst]; simp
        clear hst hE hg hnl
        go_wp2_with (at_builtin; refine wpList_append_src _ rfl _ _ 22 rfl elemI w.heap.size _ acc.length _ rfl (hr.alloc _) (some ⟨wr.heap.size, 0, none⟩) 1 1 [.int .i64 ((k : Int) + 1)] rfl (row_new (cs := [.int .i64 ((k : Int) + 1)]) (by simp) (by omega)) (by simp [Value.oneCell']) (by omega) (by omega) (by have := hB.size; simp; omega) ?_)
        intro v' w1 hown' hbel' hgrow
        clear hgrow
        go_wp2
        go_roundw
        case rel => exact ⟨k + 1, acc ++ [k + 1], by omega, by go_num, by simp; omega, by rw [List.length_append, List.map_append]; exact hown', (hB.alloc hB.size _).trans hbel', hE2⟩
        case measure => simp [intOf]; omega
      · rw [if_neg hnl] at hst
        have hq : ((s[k].toNat : Int) == 10) = false := by rw [hg]; simp; omega
        rw [hst] at hE
        clear hst hg hnl
        go_wp2
        go_roundw
        case rel => exact ⟨k + 1, acc, by omega, by go_num, by omega, hr, hB, hE⟩
        case measure => simp [intOf]; omega
    · have hall : acc = linesL l := by
        have := hE.out
        rw [List.drop_of_length_le (by omega)] at this
        simpa [linesFrom] using this
      have HA := Lib.hid hall
      clear hall hE
      go_wp2
      go_ret
      exact ⟨_, rfl, by rw [← HA.out]; exact hr, hB⟩

theorem second_any (c : Nat) (w : World) (h : c < 256) :
    Calls Try.prog 113 #[.int .u8 c] w fun e w' => e = .returned (.tuple #[.int .u8 (loN c), .int .u8 (hiN c)]) ∧ w = w' := by
  have hc : c = 224 ∨ c = 237 ∨ c = 240 ∨ c = 244 ∨ (c ≠ 224 ∧ c ≠ 237 ∧ c ≠ 240 ∧ c ≠ 244) := by omega
  rcases hc with rfl | rfl | rfl | rfl | ⟨h1, h2, h3, h4⟩
  · go_enter Try.func113, Try.ntmps113
    go_wp2_with fail
    go_ret2
    exact ⟨rfl, rfl⟩
  · go_enter Try.func113, Try.ntmps113
    go_wp2_with fail
    go_ret2
    exact ⟨rfl, rfl⟩
  · go_enter Try.func113, Try.ntmps113
    go_wp2_with fail
    go_ret2
    exact ⟨rfl, rfl⟩
  · go_enter Try.func113, Try.ntmps113
    go_wp2_with fail
    go_ret2
    exact ⟨rfl, rfl⟩
  · have e1 : ((c : Int) == 224) = false := by simp; omega
    have e2 : ((c : Int) == 237) = false := by simp; omega
    have e3 : ((c : Int) == 240) = false := by simp; omega
    have e4 : ((c : Int) == 244) = false := by simp; omega
    have hl : loN c = 128 := by unfold loN; rw [if_neg h1, if_neg h3]
    have hh : hiN c = 191 := by unfold hiN; rw [if_neg h2, if_neg h4]
    rw [hl, hh]
    clear h1 h2 h3 h4 hl hh
    go_enter Try.func113, Try.ntmps113
    go_wp2_with fail
    go_ret2
    exact ⟨rfl, rfl⟩
theorem between_any (s : ByteArray) (i lo hi : Nat) (w : World) (hs : s.size ≤ 1099511627776) (hi1 : i ≤ 1099511627786) (hlo : lo < 256) (hhi : hi < 256) :
    Calls Try.prog 114 #[.string s, .int .i64 i, .int .u8 lo, .int .u8 hi] w fun e w' => e = .returned (.bool (bet s.data.toList i lo hi)) ∧ w = w' := by
  have hsz : s.data.toList.length = s.size := rfl
  by_cases h : i < s.size
  · have d1 : decide ((i : Int) < (s.size : Int)) = true := decide_eq_true (by omega)
    have d1' : decide (i < s.size) = true := decide_eq_true h
    have hb : bet s.data.toList i lo hi = (decide (lo ≤ by8 s.data.toList i) && decide (by8 s.data.toList i ≤ hi)) := by unfold bet; rw [hsz, d1']; simp
    have hg := get_by s h
    have hg8 := by8_lt s.data.toList i
    generalize by8 s.data.toList i = b at *
    rw [hb]
    clear hb hsz
    by_cases h1 : lo ≤ b
    · have x1 : decide ((lo : Int) ≤ (b : Int)) = true := decide_eq_true (by omega)
      have x1' : decide (lo ≤ b) = true := decide_eq_true h1
      rw [x1']
      by_cases h2 : b ≤ hi
      · have x2 : decide ((b : Int) ≤ (hi : Int)) = true := decide_eq_true (by omega)
        have x2' : decide (b ≤ hi) = true := decide_eq_true h2
        rw [x2']
        go_enter Try.func114, Try.ntmps114
        go_wp2_with fail
        go_ret
        exact ⟨rfl, rfl⟩
      · have x2 : decide ((b : Int) ≤ (hi : Int)) = false := decide_eq_false (by omega)
        have x2' : decide (b ≤ hi) = false := decide_eq_false h2
        rw [x2']
        go_enter Try.func114, Try.ntmps114
        go_wp2_with fail
        go_ret
        exact ⟨rfl, rfl⟩
    · have x1 : decide ((lo : Int) ≤ (b : Int)) = false := decide_eq_false (by omega)
      have x1' : decide (lo ≤ b) = false := decide_eq_false h1
      rw [x1']
      go_enter Try.func114, Try.ntmps114
      go_wp2_with fail
      go_ret
      exact ⟨rfl, rfl⟩
  · have d1 : decide ((i : Int) < (s.size : Int)) = false := decide_eq_false (by omega)
    have d1' : decide (i < s.size) = false := decide_eq_false h
    have hb : bet s.data.toList i lo hi = false := by unfold bet; rw [hsz, d1']; simp
    rw [hb]
    go_enter Try.func114, Try.ntmps114
    go_wp2_with fail
    go_ret
    exact ⟨rfl, rfl⟩
theorem bet_drop (l : List UInt8) (p k lo hi : Nat) : bet (l.drop p) k lo hi = bet l (p + k) lo hi := by
  unfold bet
  rw [by8_drop]
  congr 1
  rw [Bool.eq_iff_iff, List.length_drop]
  simp
  omega
theorem char_any (s : ByteArray) (p : Nat) (w : World) (hs : s.size ≤ 1099511627776) (hp : p < s.size) :
    Calls Try.prog 108 #[.string s, .int .i64 p] w fun e w' => e = .returned (.tuple #[.int .i64 (chL (s.data.toList.drop p)).1, .int .i64 (chL (s.data.toList.drop p)).2]) ∧ w = w' := by
  have hg := get_by s hp
  have hc8 := by8_lt s.data.toList p
  have B1 := fun (i lo hi : Nat) (w : World) (h : i ≤ 1099511627786) (h1 : lo < 256) (h2 : hi < 256) => between_any s i lo hi w hs h h1 h2
  have hch : chL (s.data.toList.drop p) = chL (s.data.toList.drop p) := rfl
  conv at hch => rhs; unfold chL
  simp only [bet_drop, by8_drop, Nat.add_zero] at hch
  obtain ⟨f, hf⟩ : ∃ f, f = bet s.data.toList := ⟨_, rfl⟩
  rw [← hf] at hch B1
  generalize by8 s.data.toList p = c at *
  generalize chL (s.data.toList.drop p) = z at *
  have hlo : loN c < 256 := by unfold loN; repeat' split
                               all_goals omega
  have hhi : hiN c < 256 := by unfold hiN; repeat' split
                               all_goals omega
  have BB := Lib.hid B1
  have SC := Lib.hid (second_any c w hc8)
  generalize loN c = lo at *
  generalize hiN c = hi at *
  clear hf B1
  by_cases hA : 194 ≤ c ∧ c ≤ 223
  · have x1 : decide ((194 : Int) ≤ (c : Int)) = true := decide_eq_true (by omega)
    have x2 : decide ((c : Int) ≤ 223) = true := decide_eq_true (by omega)
    have x3 : decide ((224 : Int) ≤ (c : Int)) = false := decide_eq_false (by omega)
    have x4 : decide ((240 : Int) ≤ (c : Int)) = false := decide_eq_false (by omega)
    rcases hb : f (p + 1) 128 191 with _ | _
    · rw [if_neg (by rintro ⟨_, _, h⟩; rw [hb] at h; cases h), if_neg (by omega), if_neg (by omega)] at hch
      rw [hch]
      clear hA hch
      have HB := Lib.hid hb
      clear hb
      go_enter Try.func108, Try.ntmps108
      go_wp2_with fail
      refine SC.out.mono ?_
      rintro e w1 ⟨rfl, rfl⟩
      go_wp2_with fail
      refine (BB.out (p + 1) 128 191 w (by omega) (by omega) (by omega)).mono ?_
      rw [HB.out]
      rintro e w1 ⟨rfl, rfl⟩
      go_wp2_with fail
      go_ret2
      exact ⟨rfl, rfl⟩
    · rw [if_pos ⟨hA.1, hA.2, hb⟩] at hch
      rw [hch]
      clear hA hch
      have HB := Lib.hid hb
      clear hb
      go_enter Try.func108, Try.ntmps108
      go_wp2_with fail
      refine SC.out.mono ?_
      rintro e w1 ⟨rfl, rfl⟩
      go_wp2_with fail
      refine (BB.out (p + 1) 128 191 w (by omega) (by omega) (by omega)).mono ?_
      rw [HB.out]
      rintro e w1 ⟨rfl, rfl⟩
      go_wp2_with fail
      go_ret2
      exact ⟨rfl, rfl⟩
  · by_cases hB : 224 ≤ c ∧ c ≤ 239
    · have x1 : decide ((194 : Int) ≤ (c : Int)) = true := decide_eq_true (by omega)
      have x2 : decide ((c : Int) ≤ 223) = false := decide_eq_false (by omega)
      have x3 : decide ((224 : Int) ≤ (c : Int)) = true := decide_eq_true (by omega)
      have x5 : decide ((c : Int) ≤ 239) = true := decide_eq_true (by omega)
      have x4 : decide ((240 : Int) ≤ (c : Int)) = false := decide_eq_false (by omega)
      rw [if_neg (by omega)] at hch
      rcases hb : f (p + 1) lo hi with _ | _
      · rw [if_neg (by rintro ⟨_, _, h, _⟩; rw [hb] at h; cases h), if_neg (by omega)] at hch
        rw [hch]
        clear hA hB hch
        have HB := Lib.hid hb
        clear hb
        go_enter Try.func108, Try.ntmps108
        go_wp2_with fail
        refine SC.out.mono ?_
        rintro e w1 ⟨rfl, rfl⟩
        go_wp2_with fail
        refine (BB.out (p + 1) lo hi w (by omega) hlo hhi).mono ?_
        rw [HB.out]
        rintro e w1 ⟨rfl, rfl⟩
        go_wp2_with fail
        go_ret2
        exact ⟨rfl, rfl⟩
      · rcases hb2 : f (p + 2) 128 191 with _ | _
        · rw [if_neg (by rintro ⟨_, _, _, h⟩; rw [hb2] at h; cases h), if_neg (by omega)] at hch
          rw [hch]
          clear hA hB hch
          have HB := Lib.hid hb
          have HB2 := Lib.hid hb2
          clear hb hb2
          go_enter Try.func108, Try.ntmps108
          go_wp2_with fail
          refine SC.out.mono ?_
          rintro e w1 ⟨rfl, rfl⟩
          go_wp2_with fail
          refine (BB.out (p + 1) lo hi w (by omega) hlo hhi).mono ?_
          rw [HB.out]
          rintro e w1 ⟨rfl, rfl⟩
          go_wp2_with fail
          refine (BB.out (p + 2) 128 191 w (by omega) (by omega) (by omega)).mono ?_
          rw [HB2.out]
          rintro e w1 ⟨rfl, rfl⟩
          go_wp2_with fail
          go_ret2
          exact ⟨rfl, rfl⟩
        · rw [if_pos ⟨hB.1, hB.2, hb, hb2⟩] at hch
          rw [hch]
          clear hA hB hch
          have HB := Lib.hid hb
          have HB2 := Lib.hid hb2
          clear hb hb2
          go_enter Try.func108, Try.ntmps108
          go_wp2_with fail
          refine SC.out.mono ?_
          rintro e w1 ⟨rfl, rfl⟩
          go_wp2_with fail
          refine (BB.out (p + 1) lo hi w (by omega) hlo hhi).mono ?_
          rw [HB.out]
          rintro e w1 ⟨rfl, rfl⟩
          go_wp2_with fail
          refine (BB.out (p + 2) 128 191 w (by omega) (by omega) (by omega)).mono ?_
          rw [HB2.out]
          rintro e w1 ⟨rfl, rfl⟩
          go_wp2_with fail
          go_ret2
          exact ⟨rfl, rfl⟩
    · by_cases hC : 240 ≤ c ∧ c ≤ 244
      · have x1 : decide ((194 : Int) ≤ (c : Int)) = true := decide_eq_true (by omega)
        have x2 : decide ((c : Int) ≤ 223) = false := decide_eq_false (by omega)
        have x3 : decide ((224 : Int) ≤ (c : Int)) = true := decide_eq_true (by omega)
        have x5 : decide ((c : Int) ≤ 239) = false := decide_eq_false (by omega)
        have x4 : decide ((240 : Int) ≤ (c : Int)) = true := decide_eq_true (by omega)
        have x6 : decide ((c : Int) ≤ 244) = true := decide_eq_true (by omega)
        rw [if_neg (by omega), if_neg (by omega)] at hch
        rcases hb : f (p + 1) lo hi with _ | _
        · rw [if_neg (by rintro ⟨_, _, h, _⟩; rw [hb] at h; cases h)] at hch
          rw [hch]
          clear hA hB hC hch
          have HB := Lib.hid hb
          clear hb
          go_enter Try.func108, Try.ntmps108
          go_wp2_with fail
          refine SC.out.mono ?_
          rintro e w1 ⟨rfl, rfl⟩
          go_wp2_with fail
          refine (BB.out (p + 1) lo hi w (by omega) hlo hhi).mono ?_
          rw [HB.out]
          rintro e w1 ⟨rfl, rfl⟩
          go_wp2_with fail
          go_ret2
          exact ⟨rfl, rfl⟩
        · rcases hb2 : f (p + 2) 128 191 with _ | _
          · rw [if_neg (by rintro ⟨_, _, _, h, _⟩; rw [hb2] at h; cases h)] at hch
            rw [hch]
            clear hA hB hC hch
            have HB := Lib.hid hb
            have HB2 := Lib.hid hb2
            clear hb hb2
            go_enter Try.func108, Try.ntmps108
            go_wp2_with fail
            refine SC.out.mono ?_
            rintro e w1 ⟨rfl, rfl⟩
            go_wp2_with fail
            refine (BB.out (p + 1) lo hi w (by omega) hlo hhi).mono ?_
            rw [HB.out]
            rintro e w1 ⟨rfl, rfl⟩
            go_wp2_with fail
            refine (BB.out (p + 2) 128 191 w (by omega) (by omega) (by omega)).mono ?_
            rw [HB2.out]
            rintro e w1 ⟨rfl, rfl⟩
            go_wp2_with fail
            go_ret2
            exact ⟨rfl, rfl⟩
          · rcases hb3 : f (p + 3) 128 191 with _ | _
            · rw [if_neg (by rintro ⟨_, _, _, _, h⟩; rw [hb3] at h; cases h)] at hch
              rw [hch]
              clear hA hB hC hch
              have HB := Lib.hid hb
              have HB2 := Lib.hid hb2
              have HB3 := Lib.hid hb3
              clear hb hb2 hb3
              go_enter Try.func108, Try.ntmps108
              go_wp2_with fail
              refine SC.out.mono ?_
              rintro e w1 ⟨rfl, rfl⟩
              go_wp2_with fail
              refine (BB.out (p + 1) lo hi w (by omega) hlo hhi).mono ?_
              rw [HB.out]
              rintro e w1 ⟨rfl, rfl⟩
              go_wp2_with fail
              refine (BB.out (p + 2) 128 191 w (by omega) (by omega) (by omega)).mono ?_
              rw [HB2.out]
              rintro e w1 ⟨rfl, rfl⟩
              go_wp2_with fail
              refine (BB.out (p + 3) 128 191 w (by omega) (by omega) (by omega)).mono ?_
              rw [HB3.out]
              rintro e w1 ⟨rfl, rfl⟩
              go_wp2_with fail
              go_ret2
              exact ⟨rfl, rfl⟩
            · rw [if_pos ⟨hC.1, hC.2, hb, hb2, hb3⟩] at hch
              rw [hch]
              clear hA hB hC hch
              have HB := Lib.hid hb
              have HB2 := Lib.hid hb2
              have HB3 := Lib.hid hb3
              clear hb hb2 hb3
              go_enter Try.func108, Try.ntmps108
              go_wp2_with fail
              refine SC.out.mono ?_
              rintro e w1 ⟨rfl, rfl⟩
              go_wp2_with fail
              refine (BB.out (p + 1) lo hi w (by omega) hlo hhi).mono ?_
              rw [HB.out]
              rintro e w1 ⟨rfl, rfl⟩
              go_wp2_with fail
              refine (BB.out (p + 2) 128 191 w (by omega) (by omega) (by omega)).mono ?_
              rw [HB2.out]
              rintro e w1 ⟨rfl, rfl⟩
              go_wp2_with fail
              refine (BB.out (p + 3) 128 191 w (by omega) (by omega) (by omega)).mono ?_
              rw [HB3.out]
              rintro e w1 ⟨rfl, rfl⟩
              go_wp2_with fail
              go_ret2
              exact ⟨rfl, rfl⟩
      · rw [if_neg (by omega), if_neg (by omega), if_neg (by omega)] at hch
        rw [hch]
        clear hch
        by_cases hD : c < 194
        · have x1 : decide ((194 : Int) ≤ (c : Int)) = false := decide_eq_false (by omega)
          have x3 : decide ((224 : Int) ≤ (c : Int)) = false := decide_eq_false (by omega)
          have x4 : decide ((240 : Int) ≤ (c : Int)) = false := decide_eq_false (by omega)
          clear hA hB hC hD
          go_enter Try.func108, Try.ntmps108
          go_wp2_with fail
          refine SC.out.mono ?_
          rintro e w1 ⟨rfl, rfl⟩
          go_wp2_with fail
          go_ret2
          exact ⟨rfl, rfl⟩
        · have x1 : decide ((194 : Int) ≤ (c : Int)) = true := decide_eq_true (by omega)
          have x2 : decide ((c : Int) ≤ 223) = false := decide_eq_false (by omega)
          have x3 : decide ((224 : Int) ≤ (c : Int)) = true := decide_eq_true (by omega)
          have x5 : decide ((c : Int) ≤ 239) = false := decide_eq_false (by omega)
          have x4 : decide ((240 : Int) ≤ (c : Int)) = true := decide_eq_true (by omega)
          have x6 : decide ((c : Int) ≤ 244) = false := decide_eq_false (by omega)
          clear hA hB hC hD
          go_enter Try.func108, Try.ntmps108
          go_wp2_with fail
          refine SC.out.mono ?_
          rintro e w1 ⟨rfl, rfl⟩
          go_wp2_with fail
          go_ret2
          exact ⟨rfl, rfl⟩

theorem runits_any (s : ByteArray) (w : World) (hs : s.size ≤ 1099511627776) :
    Calls Try.prog 99 #[.string s] w fun e w' => e = .returned (.int .i64 (unitsL s.data.toList)) ∧ w = w' := by
  obtain ⟨l, hl⟩ : ∃ l, s.data.toList = l := ⟨_, rfl⟩
  have hsz : l.length = s.size := by rw [← hl]; rfl
  have hub := unitsL_le l
  rw [hl]
  go_enter Try.func99, Try.ntmps99
  go_wp2_with fail
  go_loop [3, 4] (fun n i => ∃ pos acc : Nat, i = .int .i64 pos ∧ n = .int .i64 acc ∧ pos ≤ s.size ∧ Hid (acc + unitsL (l.drop pos) = unitsL l)) (fun _ i => s.size - (intOf i).toNat)
  case atStart => exact ⟨0, 0, rfl, rfl, by omega, by unfold Hid; simp⟩
  case round =>
    obtain ⟨pos, acc, rfl, rfl, hp, hacc⟩ := hrel
    by_cases hlt : pos < s.size
    · have d1 : decide ((pos : Int) < (s.size : Int)) = true := decide_eq_true (by omega)
      have d1' : decide (pos < s.size) = true := decide_eq_true hlt
      have hne := drop_ne (l := l) (p := pos) (by omega)
      have hc1 := chL_pos (l.drop pos)
      have hc2 := chL_le hne
      have hc3 := chL_u2 (l.drop pos)
      have hdl : (l.drop pos).length = l.length - pos := List.length_drop
      have hun := unitsL_cons hne
      rw [List.drop_drop] at hun
      have hac := hacc.out
      have hch := char_any s pos w hs hlt
      rw [hl] at hch
      obtain ⟨cw, cu, hcc⟩ : ∃ cw cu, chL (l.drop pos) = (cw, cu) := ⟨_, _, rfl⟩
      rw [hcc] at hch hc1 hc2 hc3 hun
      simp only at hch hc1 hc2 hc3 hun
      have hb : acc ≤ 1099511627776 := by omega
      have hnew : Hid (acc + cu + unitsL (l.drop (pos + cw)) = unitsL l) := by unfold Hid; omega
      clear hun hac hcc hacc hne
      go_wp2_with fail
      refine hch.mono ?_
      rintro e w1 ⟨rfl, rfl⟩
      go_wp2_with fail
      go_round
      case rel => exact ⟨pos + cw, acc + cu, by go_num, by go_num, by omega, hnew⟩
      case measure => simp [intOf]; omega
    · have d1 : decide ((pos : Int) < (s.size : Int)) = false := decide_eq_false (by omega)
      have d1' : decide (pos < s.size) = false := decide_eq_false hlt
      have hend : acc = unitsL l := by
        have := hacc.out
        rw [List.drop_of_length_le (by omega), unitsL_nil] at this
        omega
      have HE := Lib.hid hend
      clear hend hacc
      go_wp2_with fail
      go_ret
      exact ⟨ret_int (by rw [HE.out]), rfl⟩
theorem rborders_any (s : ByteArray) (w : World) (hs : s.size ≤ 1099511627776) :
    Calls Try.prog 98 #[.string s] w fun e w' => ∃ v, e = .returned v ∧ w'.ownsRow w.heap.size 3 1 v (bordL s.data.toList 0).length ((bordL s.data.toList 0).map natV) ∧ Below w.heap.size w w' := by
  obtain ⟨l, hl⟩ : ∃ l, s.data.toList = l := ⟨_, rfl⟩
  have hsz : l.length = s.size := by rw [← hl]; rfl
  rw [hl]
  go_enter Try.func98, Try.ntmps98
  go_wp2_with fail
  go_loopw [3, 4] (fun v i wr => ∃ (k : Nat) (acc : List Nat), k ≤ l.length ∧ i = .int .i64 k ∧ acc.length ≤ k ∧ wr.ownsRow w.heap.size 3 1 v acc.length (acc.map natV) ∧ Below w.heap.size w wr ∧ Hid (acc ++ bordL (l.drop k) k = bordL l 0)) (fun _ i _ => l.length - (intOf i).toNat)
  case atStart => exact ⟨0, [], by omega, rfl, by simp, World.ownsRow_nil _ _ _ _, Below.refl _ w, by unfold Hid; simp⟩
  case round =>
    obtain ⟨k, acc, hk, rfl, hal, hr, hB, hE⟩ := hrel
    by_cases hkl : k < l.length
    · have hks : k < s.size := by omega
      have d1 : decide ((k : Int) < (s.size : Int)) = true := decide_eq_true (by omega)
      have d1' : decide (k < s.size) = true := decide_eq_true hks
      have hne := drop_ne (l := l) (p := k) hkl
      have hst := bordL_cons hne k
      have hc1 := chL_pos (l.drop k)
      have hc2 := chL_le hne
      have hdl : (l.drop k).length = l.length - k := List.length_drop
      have hch := fun w => char_any s k w hs hks
      rw [List.drop_drop] at hst
      rw [hl] at hch
      obtain ⟨cw, cu, hcc⟩ : ∃ cw cu, chL (l.drop k) = (cw, cu) := ⟨_, _, rfl⟩
      rw [hcc] at hst hc1 hc2
      simp only [hcc] at hst hc1 hc2 hch
      have hE2 : Hid ((acc ++ [k]) ++ bordL (l.drop (k + cw)) (k + cw) = bordL l 0) := by unfold Hid; rw [← hE.out, hst]; simp
      have HCH := Lib.hid hch
      clear hst hE hcc hne hch
      go_wp2_with (at_builtin; refine wpList_append_src _ rfl _ _ 22 rfl elemI w.heap.size _ acc.length _ rfl (hr.alloc _) (some ⟨wr.heap.size, 0, none⟩) 1 1 [.int .i64 (k : Int)] rfl (row_new (cs := [.int .i64 (k : Int)]) (by simp) (by omega)) (by simp [Value.oneCell']) (by omega) (by omega) (by have := hB.size; simp; omega) ?_)
      intro v' w1 hown' hbel' hgrow
      clear hgrow
      go_wp2_with fail
      refine (HCH.out w1).mono ?_
      rintro e w2 ⟨rfl, rfl⟩
      go_wp2_with fail
      go_roundw
      case rel => exact ⟨k + cw, acc ++ [k], by omega, by go_num, by simp; omega, by rw [List.length_append, List.map_append]; exact hown', (hB.alloc hB.size _).trans hbel', hE2⟩
      case measure => simp [intOf]; omega
    · have d1 : decide ((k : Int) < (s.size : Int)) = false := decide_eq_false (by omega)
      have d1' : decide (k < s.size) = false := decide_eq_false (by omega)
      have hall : acc ++ [s.size] = bordL l 0 := by
        have := hE.out
        rw [List.drop_of_length_le (by omega), bordL_nil] at this
        rw [← this, show k = s.size by omega]
      have HA := Lib.hid hall
      clear hall hE
      go_wp2_with (at_builtin; refine wpList_append_src _ rfl _ _ 22 rfl elemI w.heap.size _ acc.length _ rfl (hr.alloc _) (some ⟨wr.heap.size, 0, none⟩) 1 1 [.int .i64 (s.size : Int)] rfl (row_new (cs := [.int .i64 (s.size : Int)]) (by simp) (by omega)) (by simp [Value.oneCell']) (by omega) (by omega) (by have := hB.size; simp; omega) ?_)
      intro v' w1 hown' hbel' hgrow
      clear hgrow
      go_wp2
      go_ret
      exact ⟨_, rfl, by rw [← HA.out, List.length_append, List.map_append]; exact hown', (hB.alloc hB.size _).trans hbel'⟩
theorem hasI_any (a : Option Addr) (c : Nat) (xs : List Int) (n : Int) (w : World) (hx : SliceAt w a c (xs.map intV)) :
    Calls Try.prog 97 #[.slice a xs.length c, .int .i64 n] w fun e w' => e = .returned (.bool (decide (n ∈ xs))) ∧ w = w' := by
  have hxl := hx.len
  simp only [List.length_map] at hxl
  go_enter Try.func97, Try.ntmps97
  go_wp2_with fail
  go_loop [5] (fun i => ∃ k : Nat, k ≤ xs.length ∧ i = .int .i64 k ∧ Hid (n ∉ xs.take k)) (fun i => xs.length - (intOf i).toNat)
  case atStart => exact ⟨0, by omega, rfl, by unfold Hid; simp⟩
  case round =>
    obtain ⟨k, hk, rfl, hpre⟩ := hrel
    by_cases hkn : k < xs.length
    · obtain ⟨b, off, rfl⟩ := hx.addr (by simp; omega)
      have f1 := hx.intV hkn
      by_cases heq : xs[k] = n
      · have hne : (xs[k] == n) = true := by simp [heq]
        have hfin : decide (n ∈ xs) = true := by
          simp only [decide_eq_true_eq]; rw [← heq]; exact List.getElem_mem _
        have HF := Lib.hid hfin
        clear hfin heq
        go_wp2_with fail
        go_ret
        exact ⟨ret_bool HF.out.symm, rfl⟩
      · have hne : (xs[k] == n) = false := by simp [heq]
        have hpre2 : Hid (n ∉ xs.take (k + 1)) := by
          unfold Hid
          rw [List.take_succ_eq_append_getElem hkn, List.mem_append]
          rintro (h | h)
          · exact hpre.out h
          · simp at h; exact heq h.symm
        clear heq
        go_wp2_with fail
        go_round
        case rel => exact ⟨k + 1, by omega, by go_num, hpre2⟩
        case measure => simp [intOf]; omega
    · have hfin : decide (n ∈ xs) = false := by
        simp only [decide_eq_false_iff_not]
        have h := hpre.out
        rwa [List.take_of_length_le (by omega)] at h
      have HF := Lib.hid hfin
      clear hfin
      go_wp2_with fail
      go_ret
      exact ⟨ret_bool HF.out.symm, rfl⟩
def strV (l : List UInt8) : Value := .string ⟨l.toArray⟩
theorem parts_at (m : Nat) (h : m < 15) : (partsL.map strV)[m]? = some (strV (partsL.getD m [])) := by
  have hl : m < partsL.length := h
  rw [List.getElem?_map, List.getElem?_eq_getElem hl, List.getD_eq_getElem?_getD, List.getElem?_eq_getElem hl]
  rfl
theorem around_part (n : Int) : aroundI n 15 = (partAt n : Int) := by
  unfold aroundI partAt
  split <;> omega
theorem text_any (a : Option Addr) (c : Nat) (xs : List Int) (w : World) (hx : SliceAt w a c (xs.map intV)) (hb : ∀ n ∈ xs, -9223372036854775808 ≤ n ∧ n ≤ 9223372036854775807) :
    Calls Try.prog 58 #[.slice a xs.length c] w fun e w' => e = .returned (strV (textL xs)) ∧ Below w.heap.size w w' := by
  have hxl := hx.len
  simp only [List.length_map] at hxl
  obtain ⟨w1, hw1⟩ : ∃ w1, w1 = w.alloc (.cells #[.string ⟨#[97]⟩, .string ⟨#[98]⟩, .string ⟨#[32]⟩, .string ⟨#[10]⟩, .string ⟨#[10]⟩, .string ⟨#[195, 169]⟩, .string ⟨#[195, 159]⟩, .string ⟨#[226, 130, 172]⟩, .string ⟨#[232, 170, 158]⟩, .string ⟨#[240, 159, 152, 128]⟩, .string ⟨#[240, 157, 132, 158]⟩, .string ⟨#[120, 49]⟩, .string ⟨#[13, 10]⟩, .string ⟨#[40]⟩, .string ⟨#[34]⟩] 9) := ⟨_, rfl⟩
  have hcell : ∀ m, m < 15 → w1.cell? ⟨w.heap.size, m, none⟩ = some (strV (partsL.getD m [])) := by
    intro m hm
    rw [hw1, cell_of_row _ w.heap.size m _ _ (0, 0) (heap_alloc_new w _)]
    show ((partsL.map strV).toArray)[m]? = _
    rw [List.getElem?_toArray]
    exact parts_at m hm
  have hB : Below w.heap.size w w1 := by rw [hw1]; exact (Below.refl _ w).alloc (Nat.le_refl _) _
  have hx1 := hx.below hB
  have HW := Lib.hid hw1
  have HC := Lib.hid hcell
  have HB := Lib.hid hb
  clear hw1 hcell hb
  go_enter Try.func58, Try.ntmps58
  go_wp2_with fail
  rw [← HW.out]
  go_loop [4, 5] (fun sv i => ∃ (k : Nat) (t : ByteArray), k ≤ xs.length ∧ k ≤ 24 ∧ i = .int .i64 k ∧ sv = .string t ∧ t.size ≤ 4 * k ∧ Hid (t.data.toList = (xs.take k).flatMap fun n => partsL.getD (partAt n) [])) (fun _ i => xs.length - (intOf i).toNat)
  case atStart => exact ⟨0, ⟨#[]⟩, by omega, by omega, rfl, rfl, by decide, by unfold Hid; simp⟩
  case round =>
    obtain ⟨k, t, hk, hk24, rfl, rfl, htl, hT⟩ := hrel
    by_cases hkn : k < xs.length
    · by_cases h24 : k < 24
      · obtain ⟨b, off, rfl⟩ := hx.addr (by simp; omega)
        have f1 := hx1.intV hkn
        have hbk := HB.out xs[k] (List.getElem_mem _)
        have hpl := partAt_lt xs[k]
        have har := around_any xs[k] 15 w1 (by omega) (by omega) hbk.1 hbk.2
        rw [around_part] at har
        have hcl := HC.out (partAt xs[k]) hpl
        have hpm := (parts_whole _ (part_mem xs[k])).2
        have htk : xs.take (k + 1) = xs.take k ++ [xs[k]] := List.take_succ_eq_append_getElem hkn
        obtain ⟨q, hq⟩ : ∃ q, partsL.getD (partAt xs[k]) [] = q := ⟨_, rfl⟩
        have hT2 : Hid ((xs.take (k + 1)).flatMap (fun n => partsL.getD (partAt n) []) = t.data.toList ++ q) := by
          unfold Hid; rw [htk, List.flatMap_append, hT.out, List.flatMap_singleton, hq]
        rw [hq] at hcl hpm
        unfold strV at hcl
        generalize xs[k] = n at *
        generalize partAt n = m at *
        have HAR := Lib.hid har
        have hqs : (ByteArray.mk q.toArray).size = q.length := by show q.toArray.size = _; simp
        have hs2 : (t ++ ⟨q.toArray⟩).size ≤ 4 * (k + 1) := by rw [ByteArray.size_append]; omega
        have hd2 : Hid ((t ++ ⟨q.toArray⟩).data.toList = (xs.take (k + 1)).flatMap fun n => partsL.getD (partAt n) []) := by unfold Hid; rw [hT2.out]; simp [ByteArray.data_append]
        clear har htk hq hT
        go_wp2_with fail
        refine HAR.out.mono ?_
        rintro e w2 ⟨rfl, rfl⟩
        go_wp2_with fail
        go_round
        case rel => exact ⟨k + 1, t ++ ⟨q.toArray⟩, by omega, by omega, by go_num, rfl, hs2, hd2⟩
        case measure => simp [intOf]; omega
      · obtain rfl : k = 24 := by omega
        have hfin : t = ⟨(textL xs).toArray⟩ := by
          have := hT.out
          ext1
          unfold textL
          rw [← this]
        have HF := Lib.hid hfin
        clear hT hfin
        go_wp2_with fail
        go_ret
        exact ⟨by rw [HF.out]; rfl, hB⟩
    · have hfin : t = ⟨(textL xs).toArray⟩ := by
        have := hT.out
        rw [List.take_of_length_le (by omega)] at this
        ext1
        unfold textL
        rw [List.take_of_length_le (by omega), ← this]
      have d1 : decide ((k : Int) < (xs.length : Int)) = false := decide_eq_false (by omega)
      have d1' : decide (k < xs.length) = false := decide_eq_false hkn
      have HF := Lib.hid hfin
      clear hT hfin
      go_wp2_with fail
      go_ret
      exact ⟨by rw [HF.out]; rfl, hB⟩

theorem linesFrom_sorted (l : List UInt8) (i : Nat) : (linesFrom l i).Pairwise (· < ·) := by
  induction l generalizing i with
  | nil => simp [linesFrom]
  | cons c cs ih =>
    rw [linesFrom_cons]
    split
    · rw [List.pairwise_cons]
      refine ⟨fun x hx => ?_, ih _⟩
      have := linesFrom_gt hx
      omega
    · exact ih _
theorem linesL_sorted (l : List UInt8) : (linesL l).Pairwise (· < ·) := by
  unfold linesL
  rw [List.pairwise_cons]
  refine ⟨fun x hx => ?_, linesFrom_sorted _ _⟩
  have := linesFrom_gt hx
  omega
theorem sorted_at {L : List Nat} (h : L.Pairwise (· < ·)) {i j : Nat} (hij : i < j) (hj : j < L.length) : L[i]'(by omega) < L[j] :=
  List.pairwise_iff_getElem.1 h i j (by omega) hj hij
theorem count_part {L : List Nat} {x p : Nat} (hp : p ≤ L.length) (h1 : ∀ k (h : k < L.length), k < p → L[k] < x) (h2 : ∀ k (h : k < L.length), p ≤ k → x ≤ L[k]) : L.countP (fun y => decide (y < x)) = p := by
  have e : L = L.take p ++ L.drop p := (List.take_append_drop _ _).symm
  rw [e, List.countP_append]
  have c1 : (L.take p).countP (fun y => decide (y < x)) = (L.take p).length := by
    rw [List.countP_eq_length]
    intro y hy
    obtain ⟨k, hk, rfl⟩ := List.getElem_of_mem hy
    rw [List.length_take] at hk
    rw [List.getElem_take]
    exact decide_eq_true (h1 k (by omega) (by omega))
  have c2 : (L.drop p).countP (fun y => decide (y < x)) = 0 := by
    rw [List.countP_eq_zero]
    intro y hy
    obtain ⟨k, hk, rfl⟩ := List.getElem_of_mem hy
    rw [List.length_drop] at hk
    rw [List.getElem_drop]
    have := h2 (p + k) (by omega) (by omega)
    simp
    omega
  rw [c1, c2, List.length_take]
  omega
theorem SliceAt.natV {w : World} {cap b off : Nat} {zs : List Nat} (h : SliceAt w (some ⟨b, off, none⟩) cap (zs.map natV)) {i : Nat} (hi : i < zs.length) : w.cell? ⟨b, off + i, none⟩ = some (.int .i64 zs[i]) :=
  h.cell (by simp [hi]; rfl)
end Go.Proofs.Ytmonpnikdheokaa
