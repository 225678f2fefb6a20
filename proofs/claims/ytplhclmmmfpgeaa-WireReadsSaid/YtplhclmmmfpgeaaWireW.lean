/-
  The reader of the reference model: Read. Printed by wip/mk_wirew.py.
-/
import Derived.Test.YtplhclmmmfpgeaaWireV
import Derived.Test.YtplhclmmmfpgeaaValR
namespace Go.Proofs.Ytplhclmmmfpgeaa
open Go Go.Proofs
open Go.RowKit
set_option linter.unusedVariables false
set_option linter.unusedSimpArgs false

set_option maxRecDepth 100000 in
set_option maxHeartbeats 8000000 in
theorem rfRead_any (i b kd : Nat) (R : RdS) (w : World) (o : Nat → Nat) (hi : 1 ≤ i) (hR : RdAt w o i b R) (hl : R.bs.length ≤ 1000) (hk : kd ≤ 5) :
    Calls Try.prog 24 #[.pointer (some ⟨b, 0, none⟩), .int .i64 kd] w fun e w' => ∃ x y, e = .returned (.agg #[.int .i64 kd, .int .u64 ((readV R kd).1.u : Nat), .int .i64 (readV R kd).1.n, x, y]) ∧ ∃ o', Step (Own i) w o w' o' ∧ (∃ Q', RdAt w' o' i b Q' ∧ Eqv Q' (readV R kd).2 ∧ Q'.bs.length ≤ R.bs.length) ∧ ValC w' o' (readV R kd).1 x y := by
  obtain ⟨lt, hlt1, hlt2, hft⟩ := fresh_lab w o i 0
  have s1 := step_new w o lt (.cells #[.int .i64 0, .int .u64 0, .int .i64 0, .slice none 0 0, .slice none 0 0] 47)
  obtain ⟨w1, hw1⟩ : ∃ w1, w1 = w.alloc (.cells #[.int .i64 0, .int .u64 0, .int .i64 0, .slice none 0 0, .slice none 0 0] 47) := ⟨_, rfl⟩
  rw [← hw1] at s1
  have B1 : Blk w1 (newLab w o lt) lt w.heap.size [.int .i64 0, .int .u64 0, .int .i64 0, .slice none 0 0, .slice none 0 0] := ⟨_, by rw [hw1]; exact heap_alloc_new _ _, newLab_new _ _ _ (Nat.le_refl _)⟩
  have s2 := step_new w1 (newLab w o lt) lt (.cells #[.int .i64 kd, .int .u64 0, .int .i64 0, .slice none 0 0, .slice none 0 0] 47)
  have B2 : Blk (w1.alloc (.cells #[.int .i64 kd, .int .u64 0, .int .i64 0, .slice none 0 0, .slice none 0 0] 47)) (newLab w1 (newLab w o lt) lt) lt w1.heap.size [.int .i64 kd, .int .u64 0, .int .i64 0, .slice none 0 0, .slice none 0 0] := ⟨_, heap_alloc_new _ _, newLab_new _ _ _ (Nat.le_refl _)⟩
  have B12 := B1.step s2 (fun h => h)
  obtain ⟨w2, hw2⟩ : ∃ w2, w2 = w1.alloc (.cells #[.int .i64 kd, .int .u64 0, .int .i64 0, .slice none 0 0, .slice none 0 0] 47) := ⟨_, rfl⟩
  rw [← hw2] at s2 B2 B12
  obtain ⟨o2, ho2⟩ : ∃ o2, o2 = newLab w1 (newLab w o lt) lt := ⟨_, rfl⟩
  rw [← ho2] at s2 B2 B12
  have hz : w1.heap.size = w.heap.size + 1 := by rw [hw1]; exact World.size_alloc _ _
  rw [hz] at B2
  have hs := s1.trans s2
  have HS2 := Lib.hid hs
  have HR2 := Lib.hid (hR.step hs (fun h => h) (fun _ _ h => h))
  have HB1 := Lib.hid B12
  have HB2 := Lib.hid B2
  have HE1 := Lib.hid hw1
  have HE2 := Lib.hid hw2
  have HFT := Lib.hid hft
  clear hR s1 s2 B1 B2 B12 hs hw1 hw2 ho2 hft hz
  have hc : kd = 0 ∨ kd = 1 ∨ kd = 2 ∨ kd = 3 ∨ kd = 4 ∨ kd = 5 := by omega
  rcases hc with hc | hc | hc | hc | hc | hc
  · have k0 : ((kd : Int) == 0) = true := by simp; omega
    have e1 : readV R kd = (⟨kd, (uintR R).1, 0, [], []⟩, (uintR R).2) := by unfold readV; rw [if_pos hc]
    rw [e1]
    clear hc e1
    go_enter Try.func24, Try.ntmps24
    go_wp2_with fail
    rw [← HE1.out, ← HE2.out]
    refine (rfUint_any i b R w2 o2 hi HR2.out hl).mono ?_
    rintro e w3 ⟨rfl, hs3, Q3, hr3, hev, hlq⟩
    have HB3 := Lib.hid (HB2.out.step hs3 (by unfold Own; omega))
    have HB4 := Lib.hid (HB1.out.step hs3 (by unfold Own; omega))
    clear HB1 HB2
    have f3 := HB3.out.frozen 1
    have c3 := HB3.out.cell (j := 1) rfl
    have HB5 := Lib.hid (HB3.out.set 1 (.int .u64 (((uintR R).1 : Nat) : Int)))
    have d0 := HB5.out.cell (j := 0) rfl
    have d1 := HB5.out.cell (j := 1) rfl
    have d2 := HB5.out.cell (j := 2) rfl
    have d3 := HB5.out.cell (j := 3) rfl
    have d4 := HB5.out.cell (j := 4) rfl
    have f4 := HB4.out.frozen
    have g0 := HB4.out.cell (j := 0) rfl
    have g1 := HB4.out.cell (j := 1) rfl
    have g2 := HB4.out.cell (j := 2) rfl
    have g3 := HB4.out.cell (j := 3) rfl
    have g4 := HB4.out.cell (j := 4) rfl
    go_wp2_with fail
    obtain ⟨W, hW⟩ : ∃ W, W = (((((w3.setCell ⟨w.heap.size + 1, 1, none⟩ (.int .u64 (((uintR R).1 : Nat) : Int))).setCell ⟨w.heap.size, 0, none⟩ (.int .i64 kd)).setCell ⟨w.heap.size, 1, none⟩ (.int .u64 (((uintR R).1 : Nat) : Int))).setCell ⟨w.heap.size, 2, none⟩ (.int .i64 0)).setCell ⟨w.heap.size, 3, none⟩ (.slice none 0 0)).setCell ⟨w.heap.size, 4, none⟩ (.slice none 0 0) := ⟨_, rfl⟩
    obtain ⟨r1, r2, r3, r4⟩ := read_close 1 _ _ _ _ _ _ HS2.out hs3 hr3 HB3.out HB4.out hlt1 hlt2 HFT.out W hW
    rw [← hW]
    obtain ⟨t, hg, -⟩ := r3
    refine bodyPost_ret (v := .agg #[.int .i64 kd, .int .u64 ((uintR R).1 : Nat), .int .i64 0, .slice none 0 0, .slice none 0 0]) (results_cell_row rfl _ _ _ t _ _ _ rfl hg rfl rfl rfl) rfl ⟨_, _, rfl, o2, r1, ⟨_, r2, hev, hlq⟩, ⟨none, 0, none, 0, rfl, rfl, Dat.nil byteV _ _ _, Dat.nil intV _ _ _⟩⟩
  · have k0 : ((kd : Int) == 0) = false := by simp; omega
    have k1 : ((kd : Int) == 1) = true := by simp; omega
    have e1 : readV R kd = (⟨kd, 0, (intR R).1, [], []⟩, (intR R).2) := by unfold readV; rw [if_neg (by omega), if_pos hc]
    rw [e1]
    clear hc e1
    go_enter Try.func24, Try.ntmps24
    go_wp2_with fail
    rw [← HE1.out, ← HE2.out]
    refine (rfInt_any i b R w2 o2 hi HR2.out hl).mono ?_
    rintro e w3 ⟨rfl, hs3, Q3, hr3, hev, hlq⟩
    have HB3 := Lib.hid (HB2.out.step hs3 (by unfold Own; omega))
    have HB4 := Lib.hid (HB1.out.step hs3 (by unfold Own; omega))
    clear HB1 HB2
    have f3 := HB3.out.frozen 2
    have c3 := HB3.out.cell (j := 2) rfl
    have HB5 := Lib.hid (HB3.out.set 2 (.int .i64 (intR R).1))
    have d0 := HB5.out.cell (j := 0) rfl
    have d1 := HB5.out.cell (j := 1) rfl
    have d2 := HB5.out.cell (j := 2) rfl
    have d3 := HB5.out.cell (j := 3) rfl
    have d4 := HB5.out.cell (j := 4) rfl
    have f4 := HB4.out.frozen
    have g0 := HB4.out.cell (j := 0) rfl
    have g1 := HB4.out.cell (j := 1) rfl
    have g2 := HB4.out.cell (j := 2) rfl
    have g3 := HB4.out.cell (j := 3) rfl
    have g4 := HB4.out.cell (j := 4) rfl
    go_wp2_with fail
    obtain ⟨W, hW⟩ : ∃ W, W = ((((((w3.setCell ⟨w.heap.size + 1, 2, none⟩ (.int .i64 (intR R).1)).setCell ⟨w.heap.size, 0, none⟩ (.int .i64 kd)).setCell ⟨w.heap.size, 1, none⟩ (.int .u64 0)).setCell ⟨w.heap.size, 2, none⟩ (.int .i64 (intR R).1)).setCell ⟨w.heap.size, 3, none⟩ (.slice none 0 0)).setCell ⟨w.heap.size, 4, none⟩ (.slice none 0 0)) := ⟨_, rfl⟩
    obtain ⟨r1, r2, r3, r4⟩ := read_close 2 _ _ _ _ _ _ HS2.out hs3 hr3 HB3.out HB4.out hlt1 hlt2 HFT.out W hW
    rw [← hW]
    obtain ⟨t, hg, -⟩ := r3
    refine bodyPost_ret (v := .agg #[.int .i64 kd, .int .u64 0, .int .i64 (intR R).1, .slice none 0 0, .slice none 0 0]) (results_cell_row rfl _ _ _ t _ _ _ rfl hg rfl rfl rfl) rfl ⟨_, _, rfl, o2, r1, ⟨_, r2, hev, hlq⟩, ⟨none, 0, none, 0, rfl, rfl, Dat.nil byteV _ _ _, Dat.nil intV _ _ _⟩⟩
  · have k0 : ((kd : Int) == 0) = false := by simp; omega
    have k1 : ((kd : Int) == 1) = false := by simp; omega
    have k2 : ((kd : Int) == 2) = true := by simp; omega
    have e1 : readV R kd = (⟨kd, 0, if (boolR R).1 then 1 else 0, [], []⟩, (boolR R).2) := by unfold readV; rw [if_neg (by omega), if_neg (by omega), if_pos hc]
    obtain ⟨bb, hbb⟩ : ∃ bb, bb = (boolR R).1 := ⟨_, rfl⟩
    rw [e1, ← hbb]
    have HBB := Lib.hid hbb
    clear hc e1 hbb
    go_enter Try.func24, Try.ntmps24
    go_wp2_with fail
    rw [← HE1.out, ← HE2.out]
    have hcb := rfBool_any i b R w2 o2 hi HR2.out hl
    rw [← HBB.out] at hcb
    clear HBB
    refine hcb.mono ?_
    rintro e w3 ⟨rfl, hs3, Q3, hr3, hev, hlq⟩
    rcases bb with _ | _
    · have HB3 := Lib.hid (HB2.out.step hs3 (by unfold Own; omega))
      have HB4 := Lib.hid (HB1.out.step hs3 (by unfold Own; omega))
      clear HB1 HB2
      have d0 := HB3.out.cell (j := 0) rfl
      have d1 := HB3.out.cell (j := 1) rfl
      have d2 := HB3.out.cell (j := 2) rfl
      have d3 := HB3.out.cell (j := 3) rfl
      have d4 := HB3.out.cell (j := 4) rfl
      have f4 := HB4.out.frozen
      have g0 := HB4.out.cell (j := 0) rfl
      have g1 := HB4.out.cell (j := 1) rfl
      have g2 := HB4.out.cell (j := 2) rfl
      have g3 := HB4.out.cell (j := 3) rfl
      have g4 := HB4.out.cell (j := 4) rfl
      try simp only [Bool.false_eq_true, if_false, if_true]
      go_wp2_with fail
      obtain ⟨W, hW⟩ : ∃ W, W = (((((w3.setCell ⟨w.heap.size, 0, none⟩ (.int .i64 kd)).setCell ⟨w.heap.size, 1, none⟩ (.int .u64 0)).setCell ⟨w.heap.size, 2, none⟩ (.int .i64 0)).setCell ⟨w.heap.size, 3, none⟩ (.slice none 0 0)).setCell ⟨w.heap.size, 4, none⟩ (.slice none 0 0)) := ⟨_, rfl⟩
      obtain ⟨r1, r2, r3, r4⟩ := read_close0 _ _ _ _ _ HS2.out hs3 hr3 HB4.out hlt1 hlt2 HFT.out W hW
      rw [← hW]
      obtain ⟨t, hg, -⟩ := r3
      refine bodyPost_ret (v := .agg #[.int .i64 kd, .int .u64 0, .int .i64 0, .slice none 0 0, .slice none 0 0]) (results_cell_row rfl _ _ _ t _ _ _ rfl hg rfl rfl rfl) rfl ⟨_, _, rfl, o2, r1, ⟨_, r2, hev, hlq⟩, ⟨none, 0, none, 0, rfl, rfl, Dat.nil byteV _ _ _, Dat.nil intV _ _ _⟩⟩
    · have HB3 := Lib.hid (HB2.out.step hs3 (by unfold Own; omega))
      have HB4 := Lib.hid (HB1.out.step hs3 (by unfold Own; omega))
      clear HB1 HB2
      have f3 := HB3.out.frozen 2
      have c3 := HB3.out.cell (j := 2) rfl
      have HB5 := Lib.hid (HB3.out.set 2 (.int .i64 1))
      have d0 := HB5.out.cell (j := 0) rfl
      have d1 := HB5.out.cell (j := 1) rfl
      have d2 := HB5.out.cell (j := 2) rfl
      have d3 := HB5.out.cell (j := 3) rfl
      have d4 := HB5.out.cell (j := 4) rfl
      have f4 := HB4.out.frozen
      have g0 := HB4.out.cell (j := 0) rfl
      have g1 := HB4.out.cell (j := 1) rfl
      have g2 := HB4.out.cell (j := 2) rfl
      have g3 := HB4.out.cell (j := 3) rfl
      have g4 := HB4.out.cell (j := 4) rfl
      try simp only [Bool.false_eq_true, if_false, if_true]
      go_wp2_with fail
      obtain ⟨W, hW⟩ : ∃ W, W = ((((((w3.setCell ⟨w.heap.size + 1, 2, none⟩ (.int .i64 1)).setCell ⟨w.heap.size, 0, none⟩ (.int .i64 kd)).setCell ⟨w.heap.size, 1, none⟩ (.int .u64 0)).setCell ⟨w.heap.size, 2, none⟩ (.int .i64 1)).setCell ⟨w.heap.size, 3, none⟩ (.slice none 0 0)).setCell ⟨w.heap.size, 4, none⟩ (.slice none 0 0)) := ⟨_, rfl⟩
      obtain ⟨r1, r2, r3, r4⟩ := read_close 2 _ _ _ _ _ _ HS2.out hs3 hr3 HB3.out HB4.out hlt1 hlt2 HFT.out W hW
      rw [← hW]
      obtain ⟨t, hg, -⟩ := r3
      refine bodyPost_ret (v := .agg #[.int .i64 kd, .int .u64 0, .int .i64 1, .slice none 0 0, .slice none 0 0]) (results_cell_row rfl _ _ _ t _ _ _ rfl hg rfl rfl rfl) rfl ⟨_, _, rfl, o2, r1, ⟨_, r2, hev, hlq⟩, ⟨none, 0, none, 0, rfl, rfl, Dat.nil byteV _ _ _, Dat.nil intV _ _ _⟩⟩
  · have k0 : ((kd : Int) == 0) = false := by simp; omega
    have k1 : ((kd : Int) == 1) = false := by simp; omega
    have k2 : ((kd : Int) == 2) = false := by simp; omega
    have k3 : ((kd : Int) == 3) = true := by simp; omega
    have e1 : readV R kd = (⟨kd, 0, 0, (rawR R).1, []⟩, (rawR R).2) := by unfold readV; rw [if_neg (by omega), if_neg (by omega), if_neg (by omega), if_pos (.inl hc)]
    rw [e1]
    clear hc e1
    go_enter Try.func24, Try.ntmps24
    go_wp2_with fail
    rw [← HE1.out, ← HE2.out]
    refine (rfRaw_any i b R w2 o2 hi HR2.out hl).mono ?_
    intro e w3 hh
    obtain ⟨a3, q3, rfl, hs3, ⟨Q3, hr3, hev, hlq⟩, hd3⟩ := hh.out
    clear hh
    obtain ⟨o3, ho3⟩ : ∃ o3, o3 = o2 := ⟨_, rfl⟩
    subst ho3
    have HB3 := Lib.hid (HB2.out.step hs3 (by unfold Own; omega))
    have HB4 := Lib.hid (HB1.out.step hs3 (by unfold Own; omega))
    clear HB1 HB2
    have f3 := HB3.out.frozen 3
    have c3 := HB3.out.cell (j := 3) rfl
    have HB5 := Lib.hid (HB3.out.set 3 (.slice a3 (rawR R).1.length q3))
    have d0 := HB5.out.cell (j := 0) rfl
    have d1 := HB5.out.cell (j := 1) rfl
    have d2 := HB5.out.cell (j := 2) rfl
    have d3 := HB5.out.cell (j := 3) rfl
    have d4 := HB5.out.cell (j := 4) rfl
    have f4 := HB4.out.frozen
    have g0 := HB4.out.cell (j := 0) rfl
    have g1 := HB4.out.cell (j := 1) rfl
    have g2 := HB4.out.cell (j := 2) rfl
    have g3 := HB4.out.cell (j := 3) rfl
    have g4 := HB4.out.cell (j := 4) rfl
    go_wp2_with fail
    obtain ⟨W, hW⟩ : ∃ W, W = ((((((w3.setCell ⟨w.heap.size + 1, 3, none⟩ (.slice a3 (rawR R).1.length q3)).setCell ⟨w.heap.size, 0, none⟩ (.int .i64 kd)).setCell ⟨w.heap.size, 1, none⟩ (.int .u64 0)).setCell ⟨w.heap.size, 2, none⟩ (.int .i64 0)).setCell ⟨w.heap.size, 3, none⟩ (.slice a3 (rawR R).1.length q3)).setCell ⟨w.heap.size, 4, none⟩ (.slice none 0 0)) := ⟨_, rfl⟩
    obtain ⟨r1, r2, r3, r4⟩ := read_close 3 _ _ _ _ _ _ HS2.out hs3 hr3 HB3.out HB4.out hlt1 hlt2 HFT.out W hW
    rw [← hW]
    obtain ⟨t, hg, -⟩ := r3
    refine bodyPost_ret (v := .agg #[.int .i64 kd, .int .u64 0, .int .i64 0, .slice a3 (rawR R).1.length q3, .slice none 0 0]) (results_cell_row rfl _ _ _ t _ _ _ rfl hg rfl rfl rfl) rfl ⟨_, _, rfl, o3, r1, ⟨_, r2, hev, hlq⟩, ⟨a3, q3, none, 0, rfl, rfl, (hd3.step r4 (by omega)), Dat.nil intV _ _ _⟩⟩
  · have k0 : ((kd : Int) == 0) = false := by simp; omega
    have k1 : ((kd : Int) == 1) = false := by simp; omega
    have k2 : ((kd : Int) == 2) = false := by simp; omega
    have k3 : ((kd : Int) == 3) = false := by simp; omega
    have k4 : ((kd : Int) == 4) = true := by simp; omega
    have e1 : readV R kd = (⟨kd, 0, 0, (rawR R).1, []⟩, (rawR R).2) := by unfold readV; rw [if_neg (by omega), if_neg (by omega), if_neg (by omega), if_pos (.inr hc)]
    rw [e1]
    clear hc e1
    go_enter Try.func24, Try.ntmps24
    go_wp2_with fail
    rw [← HE1.out, ← HE2.out]
    refine (rfRaw_any i b R w2 o2 hi HR2.out hl).mono ?_
    intro e w3 hh
    obtain ⟨a3, q3, rfl, hs3, ⟨Q3, hr3, hev, hlq⟩, hd3⟩ := hh.out
    clear hh
    obtain ⟨o3, ho3⟩ : ∃ o3, o3 = o2 := ⟨_, rfl⟩
    subst ho3
    have HB3 := Lib.hid (HB2.out.step hs3 (by unfold Own; omega))
    have HB4 := Lib.hid (HB1.out.step hs3 (by unfold Own; omega))
    clear HB1 HB2
    have f3 := HB3.out.frozen 3
    have c3 := HB3.out.cell (j := 3) rfl
    have HB5 := Lib.hid (HB3.out.set 3 (.slice a3 (rawR R).1.length q3))
    have d0 := HB5.out.cell (j := 0) rfl
    have d1 := HB5.out.cell (j := 1) rfl
    have d2 := HB5.out.cell (j := 2) rfl
    have d3 := HB5.out.cell (j := 3) rfl
    have d4 := HB5.out.cell (j := 4) rfl
    have f4 := HB4.out.frozen
    have g0 := HB4.out.cell (j := 0) rfl
    have g1 := HB4.out.cell (j := 1) rfl
    have g2 := HB4.out.cell (j := 2) rfl
    have g3 := HB4.out.cell (j := 3) rfl
    have g4 := HB4.out.cell (j := 4) rfl
    go_wp2_with fail
    obtain ⟨W, hW⟩ : ∃ W, W = ((((((w3.setCell ⟨w.heap.size + 1, 3, none⟩ (.slice a3 (rawR R).1.length q3)).setCell ⟨w.heap.size, 0, none⟩ (.int .i64 kd)).setCell ⟨w.heap.size, 1, none⟩ (.int .u64 0)).setCell ⟨w.heap.size, 2, none⟩ (.int .i64 0)).setCell ⟨w.heap.size, 3, none⟩ (.slice a3 (rawR R).1.length q3)).setCell ⟨w.heap.size, 4, none⟩ (.slice none 0 0)) := ⟨_, rfl⟩
    obtain ⟨r1, r2, r3, r4⟩ := read_close 3 _ _ _ _ _ _ HS2.out hs3 hr3 HB3.out HB4.out hlt1 hlt2 HFT.out W hW
    rw [← hW]
    obtain ⟨t, hg, -⟩ := r3
    refine bodyPost_ret (v := .agg #[.int .i64 kd, .int .u64 0, .int .i64 0, .slice a3 (rawR R).1.length q3, .slice none 0 0]) (results_cell_row rfl _ _ _ t _ _ _ rfl hg rfl rfl rfl) rfl ⟨_, _, rfl, o3, r1, ⟨_, r2, hev, hlq⟩, ⟨a3, q3, none, 0, rfl, rfl, (hd3.step r4 (by omega)), Dat.nil intV _ _ _⟩⟩
  · have k0 : ((kd : Int) == 0) = false := by simp; omega
    have k1 : ((kd : Int) == 1) = false := by simp; omega
    have k2 : ((kd : Int) == 2) = false := by simp; omega
    have k3 : ((kd : Int) == 3) = false := by simp; omega
    have k4 : ((kd : Int) == 4) = false := by simp; omega
    have k5 : ((kd : Int) == 5) = true := by simp; omega
    have e1 : readV R kd = (⟨kd, 0, 0, [], (intsR R).1⟩, (intsR R).2) := by unfold readV; rw [if_neg (by omega), if_neg (by omega), if_neg (by omega), if_neg (by omega)]
    rw [e1]
    clear hc e1
    go_enter Try.func24, Try.ntmps24
    go_wp2_with fail
    rw [← HE1.out, ← HE2.out]
    refine (rfInts0_any i b R w2 o2 hi HR2.out hl).mono ?_
    rintro e w3 ⟨a3, q3, rfl, o3, hs3, ⟨Q3, hr3, hev, hlq⟩, hd3⟩
    have HB3 := Lib.hid (HB2.out.step hs3 (by unfold Own; omega))
    have HB4 := Lib.hid (HB1.out.step hs3 (by unfold Own; omega))
    clear HB1 HB2
    have f3 := HB3.out.frozen 4
    have c3 := HB3.out.cell (j := 4) rfl
    have HB5 := Lib.hid (HB3.out.set 4 (.slice a3 (intsR R).1.length q3))
    have d0 := HB5.out.cell (j := 0) rfl
    have d1 := HB5.out.cell (j := 1) rfl
    have d2 := HB5.out.cell (j := 2) rfl
    have d3 := HB5.out.cell (j := 3) rfl
    have d4 := HB5.out.cell (j := 4) rfl
    have f4 := HB4.out.frozen
    have g0 := HB4.out.cell (j := 0) rfl
    have g1 := HB4.out.cell (j := 1) rfl
    have g2 := HB4.out.cell (j := 2) rfl
    have g3 := HB4.out.cell (j := 3) rfl
    have g4 := HB4.out.cell (j := 4) rfl
    go_wp2_with fail
    obtain ⟨W, hW⟩ : ∃ W, W = ((((((w3.setCell ⟨w.heap.size + 1, 4, none⟩ (.slice a3 (intsR R).1.length q3)).setCell ⟨w.heap.size, 0, none⟩ (.int .i64 kd)).setCell ⟨w.heap.size, 1, none⟩ (.int .u64 0)).setCell ⟨w.heap.size, 2, none⟩ (.int .i64 0)).setCell ⟨w.heap.size, 3, none⟩ (.slice none 0 0)).setCell ⟨w.heap.size, 4, none⟩ (.slice a3 (intsR R).1.length q3)) := ⟨_, rfl⟩
    obtain ⟨r1, r2, r3, r4⟩ := read_close 4 _ _ _ _ _ _ HS2.out hs3 hr3 HB3.out HB4.out hlt1 hlt2 HFT.out W hW
    rw [← hW]
    obtain ⟨t, hg, -⟩ := r3
    refine bodyPost_ret (v := .agg #[.int .i64 kd, .int .u64 0, .int .i64 0, .slice none 0 0, .slice a3 (intsR R).1.length q3]) (results_cell_row rfl _ _ _ t _ _ _ rfl hg rfl rfl rfl) rfl ⟨_, _, rfl, o3, r1, ⟨_, r2, hev, hlq⟩, ⟨none, 0, a3, q3, rfl, rfl, Dat.nil byteV _ _ _, (hd3.step r4 (by omega))⟩⟩

end Go.Proofs.Ytplhclmmmfpgeaa
