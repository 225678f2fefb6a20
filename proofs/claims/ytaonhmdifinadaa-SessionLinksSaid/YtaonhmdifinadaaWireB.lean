/-
  A reader in memory; the contracts of its methods.
-/
import Derived.Test.YtaonhmdifinadaaWireA
import Derived.Test.YtaonhmdifinadaaWireN
import Derived.Deep.LoopGhost
namespace Go.Proofs.Ytaonhmdifinadaa
open Go Go.Proofs
open Go.RowKit
set_option linter.unusedVariables false
set_option linter.unusedSimpArgs false

/-- A reader: object i, its struct in block b; its bytes lie in data that nobody writes. -/
def RdAt (w : World) (o : Nat → Nat) (i b : Nat) (R : RdS) : Prop := ∃ a c, Blk w o (10 * i) b [.slice a R.bs.length c, .int .i64 (R.e : Nat)] ∧ Dat w o 0 a c (R.bs.map byteV)
theorem RdAt.step {L : Nat → Prop} {w w' : World} {o o' : Nat → Nat} {i b : Nat} {R : RdS} (h : RdAt w o i b R) (hs : Step L w o w' o') (h0 : ¬ L 0) (hi : ∀ l, Own i l → ¬ L l) : RdAt w' o' i b R := by
  obtain ⟨a, c, h1, h2⟩ := h
  exact ⟨a, c, h1.step hs (hi _ (Own.at0 i)), h2.step hs h0⟩

theorem fail_any (i b : Nat) (R : RdS) (code : Nat) (w : World) (o : Nat → Nat) (hi : 1 ≤ i) (hR : RdAt w o i b R) :
    Calls Try.prog 113 #[.pointer (some ⟨b, 0, none⟩), .int .i64 code] w fun e w' => e = .returned (.tuple #[]) ∧ Step (Own i) w o w' o ∧ RdAt w' o i b (failR R code) := by
  obtain ⟨a, c, h1, h2⟩ := hR
  have c1 := h1.cell (j := 1) rfl
  have f1 := h1.frozen 1
  by_cases he : R.e = 0
  · have hz : ((R.e : Int) == 0) = true := by simpa using he
    have hs : Step (· = 10 * i) w o (w.setCell ⟨b, 1, none⟩ (.int .i64 code)) o := (Step.refl _ _ _).set (p := ⟨b, 1, none⟩) h1.lab _
    have H : Hid (RdAt (w.setCell ⟨b, 1, none⟩ (.int .i64 code)) o i b (failR R code)) := by
      unfold failR
      rw [if_pos he]
      exact ⟨a, c, h1.set 1 _, h2.step hs (by omega)⟩
    have HS := Lib.hid hs
    clear hs h1 h2 he
    go_enter Try.func113, Try.ntmps113
    go_wp2_with fail
    go_end0
    exact ⟨rfl, HS.out.mono fun l hl => by subst hl; exact Own.at0 i, H.out⟩
  · have hz : ((R.e : Int) == 0) = false := by simpa using he
    have H : Hid (RdAt w o i b (failR R code)) := by
      unfold failR
      rw [if_neg he]
      exact ⟨a, c, h1, h2⟩
    clear h1 h2 he
    go_enter Try.func113, Try.ntmps113
    go_wp2_with fail
    go_end0
    exact ⟨rfl, Step.refl _ _ _, H.out⟩
set_option maxHeartbeats 1000000 in
theorem wnext_any (i b : Nat) (R : RdS) (w : World) (o : Nat → Nat) (hi : 1 ≤ i) (hR : RdAt w o i b R) :
    Calls Try.prog 112 #[.pointer (some ⟨b, 0, none⟩)] w fun e w' => e = .returned (.int .u8 ((nextR R).1.toNat : Nat)) ∧ Step (Own i) w o w' o ∧ RdAt w' o i b (nextR R).2 := by
  have hR0 := hR
  obtain ⟨a, c, h1, h2⟩ := hR
  have c0 := h1.cell (j := 0) rfl
  have c1 := h1.cell (j := 1) rfl
  by_cases he : R.e = 0
  · have hz : ((R.e : Int) == 0) = true := by simpa using he
    have hz' : ((R.e : Int) != 0) = false := by simpa using he
    cases hbs : R.bs with
    | nil =>
      have hl : ((R.bs.length : Int) == 0) = true := by rw [hbs]; rfl
      have hn : nextR R = (0, ⟨[], 3⟩) := by unfold nextR; rw [if_neg (by omega), hbs]
      rw [hn]
      have hf : failR R 3 = ⟨[], 3⟩ := by unfold failR; rw [if_pos he, hbs]
      have HF := Lib.hid hf
      have HR := Lib.hid hR0
      clear h1 h2 hbs hn hf hR0 he
      go_enter Try.func112, Try.ntmps112
      go_wp2_with fail
      refine (fail_any i b R 3 w o hi HR.out).mono ?_
      rw [HF.out]
      rintro e w1 ⟨rfl, hs1, hR1⟩
      have c1' : w1.cell? ⟨b, 1, none⟩ = some (.int .i64 3) := by obtain ⟨_, _, h, _⟩ := hR1; exact h.cell rfl
      have HS1 := Lib.hid hs1
      have HR1 := Lib.hid hR1
      clear hs1 hR1 c0 c1
      go_wp2_with fail
      go_ret
      exact ⟨rfl, HS1.out, HR1.out⟩
    | cons x xs =>
      have hl : ((R.bs.length : Int) == 0) = false := by rw [hbs]; simp; omega
      have hn : nextR R = (x, ⟨xs, 0⟩) := by unfold nextR; rw [if_neg (by omega), hbs]
      rw [hn]
      obtain ⟨db, off, rfl⟩ := h2.slice.addr (by rw [hbs]; simp)
      have cx : w.cell? ⟨db, off, none⟩ = some (.int .u8 x.toNat) := by
        have := h2.slice.byteV (i := 0) (by rw [hbs]; simp)
        simpa [hbs] using this
      have hle := h2.slice.le
      have hmx := h2.slice.max
      have hxl : R.bs.length = xs.length + 1 := by rw [hbs]; rfl
      simp only [List.length_map] at hle
      rw [hxl] at c0 hl hle
      have f0 := h1.frozen 0
      have hs : ∀ v, Step (· = 10 * i) w o (w.setCell ⟨b, 0, none⟩ v) o := fun v => (Step.refl _ _ _).set (p := ⟨b, 0, none⟩) h1.lab _
      have HS := Lib.hid hs
      have H1 := Lib.hid h1
      have H2 := Lib.hid h2
      have HBS := Lib.hid hbs
      have HE := Lib.hid he
      clear hs h1 h2 hbs hn he hR0 hxl
      by_cases hc1 : c = 1
      · subst hc1
        have hx0 : xs.length = 0 := by omega
        have HX0 := Lib.hid hx0
        clear hx0
        go_enter Try.func112, Try.ntmps112
        go_wp2_with fail
        go_ret
        refine ⟨rfl, (HS.out _).mono fun l hl => by subst hl; exact Own.at0 i, some ⟨db, off, none⟩, 0, ?_, ?_⟩
        · have := H1.out.set 0 (.slice (some ⟨db, off, none⟩) 0 0)
          rw [HE.out] at this
          rw [HX0.out]
          exact this
        · rw [List.eq_nil_of_length_eq_zero HX0.out]
          exact ⟨⟨by simp, by omega, by simp, fun h => by simp at h⟩, fun h => by simp at h⟩
      · go_enter Try.func112, Try.ntmps112
        go_wp2_with fail
        go_ret
        refine ⟨rfl, (HS.out _).mono fun l hl => by subst hl; exact Own.at0 i, some ⟨db, off + 1, none⟩, c - 1, ?_, ?_⟩
        · have := H1.out.set 0 (.slice (some ⟨db, off + 1, none⟩) xs.length (c - 1))
          rw [HE.out] at this
          exact this
        · have h := (H2.out.step (HS.out (.slice (some ⟨db, off + 1, none⟩) xs.length (c - 1))) (by omega))
          rw [HBS.out] at h
          refine ⟨⟨by simp; omega, by omega, by simp, fun hp => ⟨db, off + 1, rfl, fun j v hj => ?_⟩⟩, fun hp b' off' he => ?_⟩
          · rw [Nat.add_assoc, Nat.add_comm 1 j]
            exact h.slice.cell (by simpa using hj)
          · simp at he
            rw [← he.1]
            exact h.2 (by simp) db off rfl
  · have hz : ((R.e : Int) == 0) = false := by simpa using he
    have hz' : ((R.e : Int) != 0) = true := by simpa using he
    have hn : nextR R = (0, R) := by unfold nextR; rw [if_pos he]
    rw [hn]
    have hf : failR R 3 = R := by unfold failR; rw [if_neg he]
    have HF := Lib.hid hf
    have HR := Lib.hid hR0
    cases hbs : R.bs with
    | nil =>
      have hl : ((R.bs.length : Int) == 0) = true := by rw [hbs]; rfl
      clear h1 h2 hbs hn hf hR0 he
      go_enter Try.func112, Try.ntmps112
      go_wp2_with fail
      refine (fail_any i b R 3 w o hi HR.out).mono ?_
      rw [HF.out]
      rintro e w1 ⟨rfl, hs1, hR1⟩
      have c1' : w1.cell? ⟨b, 1, none⟩ = some (.int .i64 R.e) := by obtain ⟨_, _, h, _⟩ := hR1; exact h.cell rfl
      have HS1 := Lib.hid hs1
      have HR1 := Lib.hid hR1
      clear hs1 hR1 c0 c1
      go_wp2_with fail
      go_ret
      exact ⟨rfl, HS1.out, HR1.out⟩
    | cons x xs =>
      have hl : ((R.bs.length : Int) == 0) = false := by rw [hbs]; simp; omega
      clear h1 h2 hbs hn hf hR0 he
      go_enter Try.func112, Try.ntmps112
      go_wp2_with fail
      go_ret
      exact ⟨rfl, Step.refl _ _ _, HR.out⟩

/-- What the loop of Uint has come to: it goes on with number n at place j, or it has failed. -/
inductive UState (R0 : RdS) : Nat → Nat → Int → RdS → Prop
  | more {j n : Nat} {R : RdS} : R.e = 0 → j ≤ 9 → n < 128 ^ j → rdU j n R.bs = uintR R0 → UState R0 (R.bs.length + 1) j n R
  | over {j : Nat} {z : Int} {R : RdS} : R.e ≠ 0 → j ≤ 10 → (0, R) = uintR R0 → UState R0 0 j z R
theorem UState.start (R : RdS) : ∃ g, g ≤ R.bs.length + 1 ∧ UState R g 0 0 R := by
  by_cases h : R.e = 0
  · exact ⟨_, Nat.le_refl _, .more h (by omega) (by decide) (by unfold uintR; rw [if_pos h])⟩
  · exact ⟨0, by omega, .over h (by omega) (by unfold uintR; rw [if_neg h])⟩
theorem andNot128 (c : UInt8) : bits BinOp.andNot IntKind.u8 (c.toNat : Int) 128 = ((c.toNat % 128 : Nat) : Int) := by
  have := c.toNat_lt
  rw [show (128 : Int) = ((128 : Nat) : Int) from rfl, u8_andNot_nat _ _ (by omega) (by omega)]
  congr 1
  exact Nat.and_two_pow_sub_one_eq_mod c.toNat 7
set_option maxHeartbeats 8000000 in
theorem ruint_any (i b : Nat) (R : RdS) (w : World) (o : Nat → Nat) (hi : 1 ≤ i) (hR : RdAt w o i b R) :
    Calls Try.prog 89 #[.pointer (some ⟨b, 0, none⟩)] w fun e w' => e = .returned (.int .u64 ((uintR R).1 : Nat)) ∧ Step (Own i) w o w' o ∧ RdAt w' o i b (uintR R).2 := by
  have HR := Lib.hid hR
  obtain ⟨g0, -, hU0⟩ := UState.start R
  have HU0 := Lib.hid hU0
  clear hR hU0
  go_enter Try.func89, Try.ntmps89
  go_wp2_with fail
  go_loopg [3, 4] g0 (fun g nv iv wr => ∃ (j : Nat) (z : Int) (R1 : RdS), j ≤ 10 ∧ nv = .int .u64 z ∧ iv = .int .i64 j ∧ Hid (UState R g j z R1) ∧ Hid (Step (Own i) w o wr o) ∧ Hid (RdAt wr o i b R1))
  case atStart => exact ⟨0, 0, R, by omega, rfl, rfl, HU0.out, Step.refl _ _ _, HR.out⟩
  case round =>
    clear HR HU0
    obtain ⟨j, z, R1, hj, rfl, rfl, HU, HS, HR⟩ := hrel
    have c1 : wr.cell? ⟨b, 1, none⟩ = some (.int .i64 R1.e) := by obtain ⟨_, _, h, _⟩ := HR.out; exact h.cell rfl
    rcases HU.out with @⟨_, n, _, he, hj9, hn, hrd⟩ | @⟨_, _, _, he, hj9, hrd⟩
    · have hz : ((R1.e : Int) == 0) = true := by simpa using he
      have HE := Lib.hid he
      have HRD := Lib.hid hrd
      have HNN := Lib.hid hn
      clear he hrd hn
      go_wp2_with fail
      refine (wnext_any i b R1 wr o hi HR.out).mono ?_
      cases hbs : R1.bs with
      | nil =>
        have hnx : nextR R1 = (0, ⟨[], 3⟩) := by unfold nextR; rw [if_neg (fun h => h HE.out), hbs]
        rw [hnx]
        rintro e w3 ⟨rfl, hs3, hR3⟩
        have HS3 := Lib.hid (HS.out.trans hs3)
        have HR3 := Lib.hid hR3
        have c3 : w3.cell? ⟨b, 1, none⟩ = some (.int .i64 3) := by obtain ⟨_, _, h, _⟩ := hR3; exact h.cell rfl
        have HO : Hid (∀ (k : Nat) (x : Int), k ≤ 10 → UState R 0 k x ⟨[], 3⟩) := fun k x hk => .over (by simp) hk (by have h := HRD.out; rw [hbs] at h; exact h)
        clear hs3 hR3 hbs hnx c1 HR HU HRD HS
        have hcl : j = 0 ∨ (0 < j ∧ j < 9) ∨ j = 9 := by omega
        rcases hcl with hcl | hcl | hcl
        · have f9 : ((j : Int) == 9) = false := by simp; omega
          have f0 : decide ((0 : Int) < (j : Int)) = false := decide_eq_false (by omega)
          go_wp2_with fail
          go_roundg 0
          case measure => omega
          case rel => exact ⟨j + 1, _, ⟨[], 3⟩, by omega, rfl, by go_num, HO.out _ _ (by omega), HS3.out, HR3.out⟩
        · have f9 : ((j : Int) == 9) = false := by simp; omega
          have f0 : decide ((0 : Int) < (j : Int)) = true := decide_eq_true (by omega)
          go_wp2_with fail
          refine (fail_any i b ⟨[], 3⟩ 2 w3 o hi HR3.out).mono ?_
          rw [show failR ⟨[], 3⟩ 2 = ⟨[], 3⟩ from rfl]
          rintro e w4 ⟨rfl, hs4, hR4⟩
          have HS4 := Lib.hid (HS3.out.trans hs4)
          have HR4 := Lib.hid hR4
          have c4 : w4.cell? ⟨b, 1, none⟩ = some (.int .i64 3) := by obtain ⟨_, _, h, _⟩ := hR4; exact h.cell rfl
          clear hs4 hR4 c3
          go_wp2_with fail
          go_roundg 0
          case measure => omega
          case rel => exact ⟨j + 1, _, ⟨[], 3⟩, by omega, rfl, by go_num, HO.out _ _ (by omega), HS4.out, HR4.out⟩
        · have f9 : ((j : Int) == 9) = true := by simp; omega
          have f0 : decide ((0 : Int) < (j : Int)) = true := decide_eq_true (by omega)
          go_wp2_with fail
          refine (fail_any i b ⟨[], 3⟩ 2 w3 o hi HR3.out).mono ?_
          rw [show failR ⟨[], 3⟩ 2 = ⟨[], 3⟩ from rfl]
          rintro e w4 ⟨rfl, hs4, hR4⟩
          have HS4 := Lib.hid (HS3.out.trans hs4)
          have HR4 := Lib.hid hR4
          have c4 : w4.cell? ⟨b, 1, none⟩ = some (.int .i64 3) := by obtain ⟨_, _, h, _⟩ := hR4; exact h.cell rfl
          clear hs4 hR4 c3
          go_wp2_with fail
          go_roundg 0
          case measure => omega
          case rel => exact ⟨j + 1, _, ⟨[], 3⟩, by omega, rfl, by go_num, HO.out _ _ (by omega), HS4.out, HR4.out⟩
      | cons c cs =>
        have hnx : nextR R1 = (c, ⟨cs, 0⟩) := by unfold nextR; rw [if_neg (fun h => h HE.out), hbs]
        rw [hnx]
        rintro e w3 ⟨rfl, hs3, hR3⟩
        have hc8 := c.toNat_lt
        have HS3 := Lib.hid (HS.out.trans hs3)
        have HR3 := Lib.hid hR3
        have c3 : w3.cell? ⟨b, 1, none⟩ = some (.int .i64 0) := by obtain ⟨_, _, h, _⟩ := hR3; exact h.cell rfl
        have hrd2 := HRD.out
        rw [hbs] at hrd2
        have HRD2 := Lib.hid hrd2
        have hlen : cs.length + 1 < R1.bs.length + 1 := by rw [hbs]; simp
        have HLEN := Lib.hid hlen
        have han := andNot128 c
        obtain ⟨cn, hcn⟩ : ∃ cn, c.toNat = cn := ⟨_, rfl⟩
        rw [hcn] at hc8 han ⊢
        have HCN := Lib.hid hcn
        clear hs3 hR3 hbs hnx c1 HR HU HRD HS hrd2 hlen hcn
        by_cases hbad : (j = 9 ∧ 1 < cn) ∨ (0 < j ∧ cn = 0)
        · have HO : Hid (∀ (k : Nat) (x : Int), k ≤ 10 → UState R 0 k x ⟨cs, 2⟩) := fun k x hk => .over (by simp) hk (by
            have h := HRD2.out
            unfold rdU at h
            rw [HCN.out, if_pos hbad] at h
            exact h)
          have hcl : (j = 9 ∧ 1 < cn ∧ cn < 128) ∨ (j = 9 ∧ 128 ≤ cn) ∨ ((0 < j ∧ j < 9) ∧ cn = 0) ∨ (j = 9 ∧ cn = 0) := by omega
          clear hbad
          rcases hcl with hcl | hcl | hcl | hcl
          · have f9 : ((j : Int) == 9) = true := by simp; omega
            have f0 : decide ((0 : Int) < (j : Int)) = true := decide_eq_true (by omega)
            have g1 : decide ((1 : Int) < (cn : Int)) = true := decide_eq_true (by omega)
            have g0 : ((cn : Int) == 0) = false := by simp; omega
            have gs : decide ((cn : Int) < 128) = true := decide_eq_true (by omega)
            go_wp2_with fail
            refine (fail_any i b ⟨cs, 0⟩ 2 w3 o hi HR3.out).mono ?_
            rw [show failR ⟨cs, 0⟩ 2 = ⟨cs, 2⟩ from rfl]
            rintro e w4 ⟨rfl, hs4, hR4⟩
            have HS4 := Lib.hid (HS3.out.trans hs4)
            have HR4 := Lib.hid hR4
            have c4 : w4.cell? ⟨b, 1, none⟩ = some (.int .i64 2) := by obtain ⟨_, _, h, _⟩ := hR4; exact h.cell rfl
            clear hs4 hR4 c3
            go_wp2_with fail
            go_roundg 0
            case measure => omega
            case rel => exact ⟨j + 1, _, ⟨cs, 2⟩, by omega, rfl, by go_num, HO.out _ _ (by omega), HS4.out, HR4.out⟩
          · have f9 : ((j : Int) == 9) = true := by simp; omega
            have f0 : decide ((0 : Int) < (j : Int)) = true := decide_eq_true (by omega)
            have g1 : decide ((1 : Int) < (cn : Int)) = true := decide_eq_true (by omega)
            have g0 : ((cn : Int) == 0) = false := by simp; omega
            have gs : decide ((cn : Int) < 128) = false := decide_eq_false (by omega)
            go_wp2_with fail
            refine (fail_any i b ⟨cs, 0⟩ 2 w3 o hi HR3.out).mono ?_
            rw [show failR ⟨cs, 0⟩ 2 = ⟨cs, 2⟩ from rfl]
            rintro e w4 ⟨rfl, hs4, hR4⟩
            have HS4 := Lib.hid (HS3.out.trans hs4)
            have HR4 := Lib.hid hR4
            have c4 : w4.cell? ⟨b, 1, none⟩ = some (.int .i64 2) := by obtain ⟨_, _, h, _⟩ := hR4; exact h.cell rfl
            clear hs4 hR4 c3
            go_wp2_with fail
            go_roundg 0
            case measure => omega
            case rel => exact ⟨j + 1, _, ⟨cs, 2⟩, by omega, rfl, by go_num, HO.out _ _ (by omega), HS4.out, HR4.out⟩
          · have f9 : ((j : Int) == 9) = false := by simp; omega
            have f0 : decide ((0 : Int) < (j : Int)) = true := decide_eq_true (by omega)
            have g1 : decide ((1 : Int) < (cn : Int)) = false := decide_eq_false (by omega)
            have g0 : ((cn : Int) == 0) = true := by simp; omega
            have gs : decide ((cn : Int) < 128) = true := decide_eq_true (by omega)
            go_wp2_with fail
            refine (fail_any i b ⟨cs, 0⟩ 2 w3 o hi HR3.out).mono ?_
            rw [show failR ⟨cs, 0⟩ 2 = ⟨cs, 2⟩ from rfl]
            rintro e w4 ⟨rfl, hs4, hR4⟩
            have HS4 := Lib.hid (HS3.out.trans hs4)
            have HR4 := Lib.hid hR4
            have c4 : w4.cell? ⟨b, 1, none⟩ = some (.int .i64 2) := by obtain ⟨_, _, h, _⟩ := hR4; exact h.cell rfl
            clear hs4 hR4 c3
            go_wp2_with fail
            go_roundg 0
            case measure => omega
            case rel => exact ⟨j + 1, _, ⟨cs, 2⟩, by omega, rfl, by go_num, HO.out _ _ (by omega), HS4.out, HR4.out⟩
          · have f9 : ((j : Int) == 9) = true := by simp; omega
            have f0 : decide ((0 : Int) < (j : Int)) = true := decide_eq_true (by omega)
            have g1 : decide ((1 : Int) < (cn : Int)) = false := decide_eq_false (by omega)
            have g0 : ((cn : Int) == 0) = true := by simp; omega
            have gs : decide ((cn : Int) < 128) = true := decide_eq_true (by omega)
            go_wp2_with fail
            refine (fail_any i b ⟨cs, 0⟩ 2 w3 o hi HR3.out).mono ?_
            rw [show failR ⟨cs, 0⟩ 2 = ⟨cs, 2⟩ from rfl]
            rintro e w4 ⟨rfl, hs4, hR4⟩
            have HS4 := Lib.hid (HS3.out.trans hs4)
            have HR4 := Lib.hid hR4
            have c4 : w4.cell? ⟨b, 1, none⟩ = some (.int .i64 2) := by obtain ⟨_, _, h, _⟩ := hR4; exact h.cell rfl
            clear hs4 hR4 c3
            go_wp2_with fail
            go_roundg 0
            case measure => omega
            case rel => exact ⟨j + 1, _, ⟨cs, 2⟩, by omega, rfl, by go_num, HO.out _ _ (by omega), HS4.out, HR4.out⟩
        · have hor := or_more (n := n) (i := j) (c := cn % 128) HNN.out hj9 (by omega) (by intro h; omega)
          have hrd3 := HRD2.out
          unfold rdU at hrd3
          rw [HCN.out, if_neg hbad] at hrd3
          have HRD3 := Lib.hid hrd3
          have HOR := Lib.hid hor
          have hcl : (j = 0 ∧ cn < 128) ∨ (j = 0 ∧ 128 ≤ cn) ∨ ((0 < j ∧ j < 9) ∧ 0 < cn ∧ cn < 128) ∨ ((0 < j ∧ j < 9) ∧ 128 ≤ cn) ∨ (j = 9 ∧ cn = 1) := by omega
          rw [show ((cn % 128 : Nat) : Int) = (cn : Int) % 128 from by omega] at HOR
          clear hbad hrd3 hor
          rcases hcl with hcl | hcl | hcl | hcl | hcl
          · have f9 : ((j : Int) == 9) = false := by simp; omega
            have f0 : decide ((0 : Int) < (j : Int)) = false := decide_eq_false (by omega)
            have gs : decide ((cn : Int) < 128) = true := decide_eq_true (by omega)
            have f0' : decide (0 < j) = false := decide_eq_false (by omega)
            have f0s : ¬ 0 < j := by omega
            have gs' : decide (cn < 128) = true := decide_eq_true (by omega)
            have HCL := Lib.hid hcl
            clear hcl
            go_wp2_with fail
            go_ret
            have e : (uintR R).1 = n + cn % 128 * 128 ^ j ∧ (uintR R).2 = ⟨cs, 0⟩ := by
              have hcl := HCL.out
              rw [← HRD3.out, if_pos (by omega), show cn % 128 = cn by omega]
              exact ⟨rfl, rfl⟩
            rw [e.1, e.2]
            exact ⟨ret_int HOR.out, HS3.out, HR3.out⟩
          · have f9 : ((j : Int) == 9) = false := by simp; omega
            have f0 : decide ((0 : Int) < (j : Int)) = false := decide_eq_false (by omega)
            have gs : decide ((cn : Int) < 128) = false := decide_eq_false (by omega)
            have f0' : decide (0 < j) = false := decide_eq_false (by omega)
            have f0s : ¬ 0 < j := by omega
            have gs' : decide (cn < 128) = false := decide_eq_false (by omega)
            have HCL := Lib.hid hcl
            clear hcl
            go_wp2_with fail
            go_roundg (cs.length + 1)
            case measure => exact HLEN.out
            case rel =>
              have hcl := HCL.out
              refine ⟨j + 1, _, ⟨cs, 0⟩, by omega, rfl, by go_num, ?_, HS3.out, HR3.out⟩
              rw [HOR.out]
              refine UState.more (R := ⟨cs, 0⟩) rfl (by omega) ?_ ?_
              · have h1 : cn % 128 * 128 ^ j ≤ 127 * 128 ^ j := Nat.mul_le_mul_right _ (by omega)
                have h2 := HNN.out
                rw [Nat.pow_succ]
                omega
              · have h := HRD3.out
                rw [if_neg (by omega)] at h
                rw [show cn % 128 = cn - 128 by omega]
                exact h
          · have f9 : ((j : Int) == 9) = false := by simp; omega
            have f0 : decide ((0 : Int) < (j : Int)) = true := decide_eq_true (by omega)
            have g0 : ((cn : Int) == 0) = false := by simp; omega
            have gs : decide ((cn : Int) < 128) = true := decide_eq_true (by omega)
            have f0' : decide (0 < j) = true := decide_eq_true (by omega)
            have f0s : 0 < j := by omega
            have gs' : decide (cn < 128) = true := decide_eq_true (by omega)
            have HCL := Lib.hid hcl
            clear hcl
            go_wp2_with fail
            go_ret
            have e : (uintR R).1 = n + cn % 128 * 128 ^ j ∧ (uintR R).2 = ⟨cs, 0⟩ := by
              have hcl := HCL.out
              rw [← HRD3.out, if_pos (by omega), show cn % 128 = cn by omega]
              exact ⟨rfl, rfl⟩
            rw [e.1, e.2]
            exact ⟨ret_int HOR.out, HS3.out, HR3.out⟩
          · have f9 : ((j : Int) == 9) = false := by simp; omega
            have f0 : decide ((0 : Int) < (j : Int)) = true := decide_eq_true (by omega)
            have g0 : ((cn : Int) == 0) = false := by simp; omega
            have gs : decide ((cn : Int) < 128) = false := decide_eq_false (by omega)
            have f0' : decide (0 < j) = true := decide_eq_true (by omega)
            have f0s : 0 < j := by omega
            have gs' : decide (cn < 128) = false := decide_eq_false (by omega)
            have HCL := Lib.hid hcl
            clear hcl
            go_wp2_with fail
            go_roundg (cs.length + 1)
            case measure => exact HLEN.out
            case rel =>
              have hcl := HCL.out
              refine ⟨j + 1, _, ⟨cs, 0⟩, by omega, rfl, by go_num, ?_, HS3.out, HR3.out⟩
              rw [HOR.out]
              refine UState.more (R := ⟨cs, 0⟩) rfl (by omega) ?_ ?_
              · have h1 : cn % 128 * 128 ^ j ≤ 127 * 128 ^ j := Nat.mul_le_mul_right _ (by omega)
                have h2 := HNN.out
                rw [Nat.pow_succ]
                omega
              · have h := HRD3.out
                rw [if_neg (by omega)] at h
                rw [show cn % 128 = cn - 128 by omega]
                exact h
          · have f9 : ((j : Int) == 9) = true := by simp; omega
            have f0 : decide ((0 : Int) < (j : Int)) = true := decide_eq_true (by omega)
            have g1 : decide ((1 : Int) < (cn : Int)) = false := decide_eq_false (by omega)
            have g0 : ((cn : Int) == 0) = false := by simp; omega
            have gs : decide ((cn : Int) < 128) = true := decide_eq_true (by omega)
            have f0' : decide (0 < j) = true := decide_eq_true (by omega)
            have f0s : 0 < j := by omega
            have g1' : decide (1 < cn) = false := decide_eq_false (by omega)
            have gs' : decide (cn < 128) = true := decide_eq_true (by omega)
            have HCL := Lib.hid hcl
            clear hcl
            go_wp2_with fail
            go_ret
            have e : (uintR R).1 = n + cn % 128 * 128 ^ j ∧ (uintR R).2 = ⟨cs, 0⟩ := by
              have hcl := HCL.out
              rw [← HRD3.out, if_pos (by omega), show cn % 128 = cn by omega]
              exact ⟨rfl, rfl⟩
            rw [e.1, e.2]
            exact ⟨ret_int HOR.out, HS3.out, HR3.out⟩
    · have hz : ((R1.e : Int) == 0) = false := by simpa using he
      have HRD := Lib.hid hrd
      clear he hrd
      go_wp2_with fail
      go_ret
      rw [← HRD.out]
      exact ⟨rfl, HS.out, HR.out⟩
end Go.Proofs.Ytaonhmdifinadaa
