/-
  The walk of the law PositionRound.
-/
import Derived.Test.YtclamcaanoieiaaPosJ
namespace Go.Proofs.Ytclamcaanoieiaa
open Go Go.Proofs
open Go.RowKit
set_option linter.unusedVariables false
set_option linter.unusedSimpArgs false

theorem le_nat {a b : Nat} (h : a ≤ b) : decide ((a : Int) ≤ (b : Int)) = true ∧ decide (a ≤ b) = true := ⟨decide_eq_true (by omega), decide_eq_true h⟩
theorem le_nat' {a b : Nat} (h : ¬ a ≤ b) : decide ((a : Int) ≤ (b : Int)) = false ∧ decide (a ≤ b) = false := ⟨decide_eq_false (by omega), decide_eq_false h⟩

set_option maxRecDepth 100000 in
set_option maxHeartbeats 8000000 in
theorem positionRound_walk (s : ByteArray) (a : Option Addr) (c : Nat) (xs : List Int) (w : World) (hs : s.size ≤ 9223372036854775807) (hx : SliceAt w a c (xs.map intV)) (hxb : ∀ n ∈ xs, -9223372036854775808 ≤ n ∧ n ≤ 9223372036854775807) :
    Calls Try.prog 6 #[.string s, .slice a xs.length c] w fun e w' => e = .returned (.bool true) ∧ Below w.heap.size w w' := by
  have hts := textT_size s 40 xs
  have HTS := Lib.hid hts
  clear hts
  go_enter Try.func6, Try.ntmps6
  go_wp2_with fail
  refine (short_any s 40 w hs (by decide)).mono ?_
  rintro e w0 ⟨rfl, rfl⟩
  go_wp2_with fail
  refine (text_b a c xs w hx hxb).mono ?_
  rintro e w1 ⟨rfl, hb1⟩
  go_wp2_with fail
  obtain ⟨w2, hw2⟩ : ∃ x, x = w1.alloc (.cells #[.string (s.extract 0 40), .string (textB xs)] 9) := ⟨_, rfl⟩
  rw [← hw2]
  obtain ⟨hcell, hb2⟩ := all_two hw2
  have hB2 := Below.step hb1 hb2
  have HC := Lib.hid hcell
  clear hcell hw2 hb1 hb2
  generalize w1.heap.size = g at *
  go_loopw [6] (fun iv wr => ∃ i : Nat, i ≤ 2 ∧ iv = .int .i64 i ∧ Below w2.heap.size w2 wr) (fun iv _ => 2 - (intOf iv).toNat)
  case atStart => exact ⟨0, by omega, rfl, Below.refl _ _⟩
  case round =>
    obtain ⟨i, hi, rfl, hB⟩ := hrel
    by_cases hlt : i < 2
    · have c0 := Below.kept hB (Nat.le_refl _) (HC.out i hlt)
      have htsz := HTS.out i (by omega)
      have di : decide ((i : Int) < 2) = true := decide_eq_true (by omega)
      generalize textT s 40 xs i = t at *
      obtain ⟨l, hl⟩ : ∃ l, t.data.toList = l := ⟨_, rfl⟩
      have hll : l.length = t.size := by rw [← hl]; rfl
      have HL := Lib.hid hl
      clear hl
      go_wp2_with fail
      go_loopw [8, 9] (fun mv kv wq => ∃ k m : Nat, k ≤ t.size + 1 ∧ kv = .int .i64 k ∧ mv = .int .i64 m ∧ m ≤ k ∧ Hid (m = (bordL l 0).countP (fun x => decide (x < k))) ∧ Below w2.heap.size w2 wq) (fun _ kv _ => t.size + 1 - (intOf kv).toNat)
      case atStart => exact ⟨0, 0, by omega, rfl, rfl, by omega, by unfold Hid; rw [eq_comm, List.countP_eq_zero]; intro x _; simp, hB⟩
      case round =>
        obtain ⟨k, m, hk, rfl, rfl, hmk, HM, hBq⟩ := hrel
        by_cases hkl : k ≤ t.size
        · obtain ⟨e1, e2⟩ := le_nat hkl
          have ka := fun W => at_any t (k : Int) W (by omega) (by omega) (by omega)
          rw [HL.out] at ka
          have hstep := countP_step (bord_sorted l 0) k
          have hok := atC_ok (l := l) (off := (k : Int))
          simp only [Int.toNat_natCast] at hok
          by_cases hm : k ∈ bordL l 0
          · have hoa := off_at hm
            have ho0 := hok.2 ⟨by omega, hm⟩
            rw [if_pos hm, ← HM.out] at hstep
            generalize atC l (k : Int) = r at *
            obtain ⟨⟨r1, r2⟩, r3⟩ := r
            simp only at ho0 hoa
            subst ho0
            unfold posV at ka
            simp only at ka
            have hu := unitsL_le l
            have hr1 : r1 ≤ 1000 ∧ r2 ≤ 1000 := by
              obtain ⟨h1, h2, h3, h4⟩ := at_off hoa
              rw [atC_border h3] at h4
              simp only [Int.toNat_natCast, Prod.mk.injEq, and_true] at h4
              have h5 := lineIx_lt l k
              have h6 := linesL_len l
              have h7 := unitsL_le ((l.take k).drop ((linesL l).getD (lineIx l k) 0))
              simp only [List.length_drop, List.length_take] at h7
              omega
            have kb := fun W => offset_eq t (r1 : Int) (r2 : Int) W (by omega) (by omega) (by omega) (by omega) (by omega) (o := k) (e0 := 0) (by rw [HL.out]; exact hoa)
            have KA := Lib.hid ka
            have KB := Lib.hid kb
            have HST := Lib.hid hstep
            have hkk := eq_nat (a := k) (b := k) rfl
            have hkk2 : ((k : Int) != (k : Int)) = false := by simp
            clear ka kb hstep hok hm hoa HM
            go_wp2_with fail
            refine (KA.out wr).mono ?_
            rintro e w3 ⟨rfl, hb3⟩
            go_wp2_with fail
            obtain ⟨v3, hv3⟩ : ∃ x, x = w3.alloc (.cells #[.int .i64 r1, .int .i64 r2] 32) := ⟨_, rfl⟩
            obtain ⟨p0, p1, pb⟩ := pos_new hv3
            have hB3 := hBq.trans ((Below.step hb3 pb).mono hBq.size)
            rw [← hv3]
            clear hv3 pb hb3
            refine (KB.out v3).mono ?_
            rintro e w4 ⟨rfl, hb4⟩
            have hB4 := hB3.trans (hb4.mono hB3.size)
            go_wp2_with fail
            go_roundw
            case rel => first | exact ⟨k + 1, m + 1, by omega, by go_num, by go_num, by omega, by unfold Hid; rw [HST.out], hB4⟩ | ((repeat apply Exists.intro); refine ⟨?_, rfl⟩; exact ⟨k + 1, m + 1, by omega, by go_num, by go_num, by omega, by unfold Hid; rw [HST.out], hB4⟩)
            case measure => simp [intOf]; omega
          · have hn0 : (atC l (k : Int)).2 ≠ 0 := fun h => hm (hok.1 h).2
            rw [if_neg hm, ← HM.out] at hstep
            generalize atC l (k : Int) = r at *
            obtain ⟨⟨r1, r2⟩, r3⟩ := r
            simp only at hn0
            unfold posV at ka
            simp only at ka
            have hx0 : ((r3 : Int) != 0) = true := by simp; omega
            have KA := Lib.hid ka
            have HST := Lib.hid hstep
            clear ka hstep hok hm HM hn0
            go_wp2_with fail
            refine (KA.out wr).mono ?_
            rintro e w3 ⟨rfl, hb3⟩
            have hB3 : Below w2.heap.size w2 (w3.alloc (.cells #[.int .i64 r1, .int .i64 r2] 32)) := hBq.trans ((Below.step hb3 ((Below.refl _ w3).alloc (Nat.le_refl _) _)).mono hBq.size)
            go_wp2_with fail
            go_roundw
            case rel => first | exact ⟨k + 1, m, by omega, by go_num, by go_num, by omega, by unfold Hid; rw [HST.out]; rfl, hB3⟩ | ((repeat apply Exists.intro); refine ⟨?_, rfl⟩; exact ⟨k + 1, m, by omega, by go_num, by go_num, by omega, by unfold Hid; rw [HST.out]; rfl, hB3⟩)
            case measure => simp [intOf]; omega
        · obtain ⟨e1, e2⟩ := le_nat' hkl
          obtain rfl : k = t.size + 1 := by omega
          have hmB : m = (bordL l 0).length := by
            rw [HM.out, List.countP_eq_length]
            intro x hx
            have := bord_ge hx
            simp
            omega
          have hrb := fun W => rborders_any t W (by omega)
          have hli := fun W => lines_any t W (by omega)
          rw [HL.out, ← hmB] at hrb
          rw [HL.out] at hli
          have hlen := linesL_len l
          generalize linesL l = L at *
          have HRB := Lib.hid (hrb wr)
          have HLI := Lib.hid hli
          have hmm : ((m : Int) != (m : Int)) = false := by simp
          clear hrb hli HM hmB
          go_wp2_with fail
          refine HRB.out.mono ?_
          rintro e w3 ⟨v, rfl, hown3, hb3⟩
          obtain ⟨ba, bc, hv⟩ : ∃ ba bc, v = .slice ba m bc := by
            obtain ⟨a', c', h1, h2, _⟩ := ownsRow_slice hown3
            rw [← h2] at h1
            exact ⟨a', c', h1⟩
          subst hv
          have hB3 := hBq.trans (hb3.mono hBq.size)
          clear hown3 hb3 HRB
          go_wp2_with fail
          refine (HLI.out w3).mono ?_
          rintro e w4 ⟨v, rfl, hown4, hb4⟩
          obtain ⟨a4, c4, rfl, hs4⟩ := ownsRow_sliceMap hown4
          have hB4 := hB3.trans (hb4.mono hB3.size)
          clear hown4 hb4 hB3 hs4 HLI
          go_wp2_with fail
          go_loopw [15] (fun lv wq => ∃ j : Nat, j ≤ L.length ∧ lv = .int .i64 j ∧ Below w2.heap.size w2 wq) (fun lv _ => L.length - (intOf lv).toNat)
          case atStart => exact ⟨0, by omega, rfl, hB4⟩
          case round =>
            clear hB4
            obtain ⟨j, hj, rfl, hBl⟩ := hrel
            by_cases hjl : j < L.length
            · obtain ⟨e3, e4⟩ := dec_nat hjl
              by_cases hj30 : j < 30
              · have e5 : decide ((j : Int) < 30) = true := decide_eq_true (by omega)
                go_wp2_with fail
                go_loopw [16] (fun uv wq => ∃ u : Nat, u ≤ 90 ∧ uv = .int .i64 u ∧ Below w2.heap.size w2 wq) (fun uv _ => 90 - (intOf uv).toNat)
                case atStart => exact ⟨0, by omega, rfl, hBl⟩
                case round =>
                  clear hBl
                  obtain ⟨u, hu, rfl, hBu⟩ := hrel
                  by_cases hu90 : u < 90
                  · have e6 : decide ((u : Int) < 90) = true := decide_eq_true (by omega)
                    have ka := fun W => offset_any t (j : Int) (u : Int) W (by omega) (by omega) (by omega) (by omega) (by omega)
                    rw [HL.out] at ka
                    have hao := fun o => at_off (l := l) (line := (j : Int)) (unit := (u : Int)) (o := o)
                    generalize offC l (j : Int) (u : Int) = r at *
                    obtain ⟨r1, r2⟩ := r
                    simp only at ka
                    by_cases hr2 : r2 = 0
                    · subst hr2
                      obtain ⟨-, -, h3, h4⟩ := hao r1 rfl
                      have hg := bord_ge h3
                      simp only [Int.toNat_natCast] at h4
                      have kb := fun W => at_eq t (r1 : Int) W (by omega) (by omega) (by omega) (p := (j, u)) (e0 := 0) (by rw [HL.out]; exact h4)
                      unfold posV at kb
                      simp only at kb
                      have KA := Lib.hid ka
                      have KB := Lib.hid kb
                      have x1 := eq_nat (a := j) (b := j) rfl
                      have x2 := eq_nat (a := u) (b := u) rfl
                      clear ka kb hao h3 h4
                      obtain ⟨v3, hv3⟩ : ∃ x, x = wr.alloc (.cells #[.int .i64 j, .int .i64 u] 32) := ⟨_, rfl⟩
                      obtain ⟨p0, p1, pb⟩ := pos_new hv3
                      have HV := Lib.hid hv3
                      clear hv3
                      go_wp2_with fail
                      rw [← HV.out]
                      refine (KA.out v3).mono ?_
                      rintro e w5 ⟨rfl, hb5⟩
                      go_wp2_with fail
                      refine (KB.out w5).mono ?_
                      rintro e w6 ⟨rfl, hb6⟩
                      have hb36 := Below.step hb5 hb6
                      have q0 := Below.kept hb36 (Nat.le_refl _) p0
                      have q1 := Below.kept hb36 (Nat.le_refl _) p1
                      have q0a := kept_alloc q0
                      have q1a := kept_alloc q1
                      have hB6 : Below w2.heap.size w2 (w6.alloc (.cells #[.int .i64 j, .int .i64 u] 32)) := hBu.trans ((Below.step (Below.step pb hb36) ((Below.refl _ w6).alloc (Nat.le_refl _) _)).mono hBu.size)
                      clear hb5 hb6 hb36 pb p0 p1 HV
                      go_wp2_with fail
                      go_roundw
                      case rel => first | exact ⟨u + 1, by omega, by go_num, hB6⟩ | ((repeat apply Exists.intro); refine ⟨?_, rfl⟩; exact ⟨u + 1, by omega, by go_num, hB6⟩)
                      case measure => simp [intOf]; omega
                    · have hx0 : ((r2 : Int) != 0) = true := by simp; omega
                      have KA := Lib.hid ka
                      clear ka hao hr2
                      obtain ⟨v3, hv3⟩ : ∃ x, x = wr.alloc (.cells #[.int .i64 j, .int .i64 u] 32) := ⟨_, rfl⟩
                      obtain ⟨p0, p1, pb⟩ := pos_new hv3
                      have HV := Lib.hid hv3
                      clear hv3
                      go_wp2_with fail
                      rw [← HV.out]
                      refine (KA.out v3).mono ?_
                      rintro e w5 ⟨rfl, hb5⟩
                      have hB5 := hBu.trans ((Below.step pb hb5).mono hBu.size)
                      go_wp2_with fail
                      go_roundw
                      case rel => first | exact ⟨u + 1, by omega, by go_num, hB5⟩ | ((repeat apply Exists.intro); refine ⟨?_, rfl⟩; exact ⟨u + 1, by omega, by go_num, hB5⟩)
                      case measure => simp [intOf]; omega
                  · obtain rfl : u = 90 := by omega
                    go_wp2_with fail
                    go_roundw
                    case rel => first | exact ⟨j + 1, by omega, by go_num, hBu⟩ | ((repeat apply Exists.intro); refine ⟨?_, rfl⟩; exact ⟨j + 1, by omega, by go_num, hBu⟩)
                    case measure => simp [intOf]; omega
              · have e5 : decide ((j : Int) < 30) = false := decide_eq_false (by omega)
                go_wp2_with fail
                go_roundw
                case rel => first | exact ⟨i + 1, by omega, by go_num, hBl⟩ | ((repeat apply Exists.intro); refine ⟨?_, rfl⟩; exact ⟨i + 1, by omega, by go_num, hBl⟩)
                case measure => simp [intOf]; omega
            · obtain ⟨e3, e4⟩ := dec_nat' hjl
              go_wp2_with fail
              go_roundw
              case rel => first | exact ⟨i + 1, by omega, by go_num, hBl⟩ | ((repeat apply Exists.intro); refine ⟨?_, rfl⟩; exact ⟨i + 1, by omega, by go_num, hBl⟩)
              case measure => simp [intOf]; omega
    · obtain rfl : i = 2 := by omega
      go_wp2_with fail
      refine (lives_any wr).mono ?_
      rintro e w3 ⟨rfl, hb3⟩
      go_wp2_with fail
      go_ret
      exact ⟨rfl, Below.step (Below.step hB2 hB) hb3⟩
end Go.Proofs.Ytclamcaanoieiaa
