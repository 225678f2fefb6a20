/-
  Reading a value of any kind.
-/
import Derived.Test.YtplhclmmmfpgeaaVal
namespace Go.Proofs.Ytplhclmmmfpgeaa
open Go Go.Proofs
open Go.RowKit
set_option linter.unusedVariables false
set_option linter.unusedSimpArgs false

/-- Blocks with label lr become data that nobody writes any more. -/
def reLab (o : Nat → Nat) (lr : Nat) : Nat → Nat := fun k => if o k = lr then 0 else o k
theorem reLab_ne {o : Nat → Nat} {lr k l : Nat} (h : o k = l) (hl : l ≠ lr) : reLab o lr k = l := by unfold reLab; rw [if_neg (by omega)]; exact h
theorem reLab_at {o : Nat → Nat} {lr k : Nat} (h : o k = lr) : reLab o lr k = 0 := by unfold reLab; rw [if_pos h]
theorem Step.relabel {L : Nat → Prop} {w w' : World} {o o' : Nat → Nat} {lr : Nat} (h : Step L w o w' o') (hf : ∀ k, k < w.heap.size → o k ≠ lr) : Step L w o w' (reLab o' lr) :=
  Step.relab h fun k hk => reLab_ne rfl (by rw [h.lab k hk]; exact hf k hk)
theorem RdAt.relabel {w : World} {o : Nat → Nat} {i b lr : Nat} {R : RdS} (h : RdAt w o i b R) (h1 : 10 * i ≠ lr) (h0 : 0 ≠ lr) : RdAt w (reLab o lr) i b R := by
  obtain ⟨a, c, hb, hd⟩ := h
  refine ⟨a, c, hb.relab ((reLab_ne hb.lab h1).trans hb.lab.symm), hd.1, fun hp b' off he => reLab_ne (hd.2 hp b' off he) h0⟩
theorem RowL.relabel {w : World} {o : Nat → Nat} {lr : Nat} {e : TypeId} {a : Option Addr} {n n' c : Nat} {xs : List Value} (h : RowL w o lr e 1 (.slice a n c) n' xs) : Dat w (reLab o lr) 0 a c xs :=
  ⟨h.slice, fun hp b off he => by subst he; exact reLab_at (h.2 b rfl)⟩
theorem fresh_lab (w : World) (o : Nat → Nat) (i m : Nat) : ∃ lr, 10 * i + 10 ≤ lr ∧ m < lr ∧ ∀ k, k < w.heap.size → o k ≠ lr := by
  obtain ⟨q, hq⟩ := label_bound o w.heap.size
  exact ⟨max (max q (m + 1)) (10 * i + 10), by omega, by omega, fun k hk => by have := hq k hk; omega⟩
theorem rraw0_any (i b : Nat) (R : RdS) (w : World) (o : Nat → Nat) (hi : 1 ≤ i) (hR : RdAt w o i b R) (hl : R.bs.length ≤ 70368744177664) :
    Calls Try.prog 31 #[.pointer (some ⟨b, 0, none⟩)] w fun e w' => ∃ a c, e = .returned (.slice a (rawR R).1.length c) ∧ ∃ o', Step (Own i) w o w' o' ∧ RdAt w' o' i b (rawR R).2 ∧ Dat w' o' 0 a c ((rawR R).1.map byteV) := by
  obtain ⟨lr, h1, h2, hf⟩ := fresh_lab w o i 0
  refine (rraw_any i b lr R w o hi hR hl (by unfold Own; omega) (by omega)).mono ?_
  rintro e w' ⟨v, rfl, o', hs, hr, hv⟩
  obtain ⟨a, c, rfl⟩ := hv.form
  exact ⟨a, c, rfl, reLab o' lr, (hs.sub fun k hk h => h.elim id fun h => absurd h (hf k hk)).relabel hf, hr.relabel (by omega) (by omega), hv.relabel⟩
theorem rints0_any (i b : Nat) (R : RdS) (w : World) (o : Nat → Nat) (hi : 1 ≤ i) (hR : RdAt w o i b R) (hl : R.bs.length ≤ 8796093022208) :
    Calls Try.prog 33 #[.pointer (some ⟨b, 0, none⟩)] w fun e w' => ∃ a c, e = .returned (.slice a (intsR R).1.length c) ∧ ∃ o', Step (Own i) w o w' o' ∧ RdAt w' o' i b (intsR R).2 ∧ Dat w' o' 0 a c ((intsR R).1.map intV) := by
  obtain ⟨lr, h1, h2, hf⟩ := fresh_lab w o i 0
  refine (rints_any i b lr R w o hi hR hl (by unfold Own; omega) (by omega)).mono ?_
  rintro e w' ⟨v, rfl, o', hs, hr, hv⟩
  obtain ⟨a, c, rfl⟩ := hv.form
  exact ⟨a, c, rfl, reLab o' lr, (hs.sub fun k hk h => h.elim id fun h => absurd h (hf k hk)).relabel hf, hr.relabel (by omega) (by omega), hv.relabel⟩

/-- Reading a value of kind k. -/
def readV (R : RdS) (k : Nat) : ValS × RdS :=
  if k = 0 then (⟨k, (uintR R).1, 0, [], []⟩, (uintR R).2) else if k = 1 then (⟨k, 0, (intR R).1, [], []⟩, (intR R).2)
  else if k = 2 then (⟨k, 0, if (boolR R).1 then 1 else 0, [], []⟩, (boolR R).2)
  else if k = 3 ∨ k = 4 then (⟨k, 0, 0, (rawR R).1, []⟩, (rawR R).2) else (⟨k, 0, 0, [], (intsR R).1⟩, (intsR R).2)

theorem run_bytes_new {P : Program} (w : World) {src dst e : TypeId} (hs : P.underlying src = some .string) (hd : P.underlying dst = some (.slice e)) (he : P.underlying e = some (.int .u8)) (l : List UInt8) (hl : l.length ≤ 9223372036854775807) :
    ∃ c w', (convert src dst (.string ⟨l.toArray⟩)).run P w = .ok (.slice (some ⟨w.heap.size, 0, none⟩) l.length c) w' ∧ SliceAt w' (some ⟨w.heap.size, 0, none⟩) c (l.map byteV) ∧ Below w.heap.size w w' := by
  have hsz : (ByteArray.mk l.toArray).size = l.length := by show l.toArray.size = _; simp
  have hr := run_bytes_of_string (P := P) w src dst e ⟨l.toArray⟩ hs hd he
  obtain ⟨ad, c, w', hr', h1, h2⟩ := run_bytes_of (P := P) w ⟨l.toArray⟩ hs hd he (by omega)
  have hq := hr.symm.trans hr'
  injection hq with hv hw
  injection hv with ha hn hc
  subst ha
  rw [hsz] at hr'
  exact ⟨c, w', hr', h1, h2⟩
theorem rawR_len (R : RdS) : (rawR R).1.length ≤ R.bs.length := by
  have h1 := uintR_len R
  unfold rawR
  split
  · rw [List.length_take]
    have h2 : (lenR R).2.bs.length ≤ R.bs.length := by unfold lenR; split <;> simp [failR_bs] <;> omega
    show min _ _ ≤ _
    omega
  · simp
theorem Blk.other {w : World} {o : Nat → Nat} {i b : Nat} {cs : List Value} (h : Blk w o i b cs) {g j : Nat} (hp : g ≠ b) (u : Value) : Blk (w.setCell ⟨g, j, none⟩ u) o i b cs := by
  obtain ⟨t, h1, h2⟩ := h
  refine ⟨t, ?_, h2⟩
  rw [← h1]
  show (w.heap.modify g _)[b]? = _
  rw [Array.getElem?_modify, if_neg hp]
theorem read_close {i b lt n : Nat} {w w2 w3 : World} {o o2 o3 : Nat → Nat} {R' : RdS} {cs1 : List Value} {c0 c1 c2 c3 c4 : Value} (j : Nat) (u v0 v1 v2 v3 v4 : Value)
    (h2 : Step (fun _ => False) w o w2 o2) (h3 : Step (Own i) w2 o2 w3 o3) (hr : RdAt w3 o3 i b R') (B : Blk w3 o3 lt (n + 1) cs1) (C : Blk w3 o3 lt n [c0, c1, c2, c3, c4]) (hl : 10 * i + 10 ≤ lt) (h0 : 0 < lt) (hft : ∀ k, k < w.heap.size → o k ≠ lt) (W : World)
    (hW : W = (((((w3.setCell ⟨n + 1, j, none⟩ u).setCell ⟨n, 0, none⟩ v0).setCell ⟨n, 1, none⟩ v1).setCell ⟨n, 2, none⟩ v2).setCell ⟨n, 3, none⟩ v3).setCell ⟨n, 4, none⟩ v4) :
    Step (Own i) w o W o3 ∧ RdAt W o3 i b R' ∧ Blk W o3 lt n [v0, v1, v2, v3, v4] ∧ Step (· = lt) w3 o3 W o3 := by
  have q0 : Step (· = lt) w3 o3 (w3.setCell ⟨n + 1, j, none⟩ u) o3 := (Step.refl _ _ _).set (p := ⟨n + 1, j, none⟩) B.lab _
  have q : Step (· = lt) w3 o3 W o3 := by
    rw [hW]
    exact ((((q0.set (p := ⟨n, 0, none⟩) C.lab _).set (p := ⟨n, 1, none⟩) C.lab _).set (p := ⟨n, 2, none⟩) C.lab _).set (p := ⟨n, 3, none⟩) C.lab _).set (p := ⟨n, 4, none⟩) C.lab _
  refine ⟨?_, hr.step q (by omega) (fun l h e => by unfold Own at h; omega), ?_, q⟩
  · refine Step.sub (L := fun k => Own i k ∨ k = lt) ?_ ?_
    · exact ((h2.mono (fun _ h => h.elim)).trans (h3.mono (fun _ h => .inl h))).trans (q.mono (fun _ h => .inr h))
    · intro k hk h
      exact h.elim id fun h => absurd h (hft k hk)
  · rw [hW]
    exact (((((C.other (by omega) u).set 0 v0).set 1 v1).set 2 v2).set 3 v3).set 4 v4

theorem read_close0 {i b lt n : Nat} {w w2 w3 : World} {o o2 o3 : Nat → Nat} {R' : RdS} {c0 c1 c2 c3 c4 : Value} (v0 v1 v2 v3 v4 : Value)
    (h2 : Step (fun _ => False) w o w2 o2) (h3 : Step (Own i) w2 o2 w3 o3) (hr : RdAt w3 o3 i b R') (C : Blk w3 o3 lt n [c0, c1, c2, c3, c4]) (hl : 10 * i + 10 ≤ lt) (h0 : 0 < lt) (hft : ∀ k, k < w.heap.size → o k ≠ lt) (W : World)
    (hW : W = (((((w3).setCell ⟨n, 0, none⟩ v0).setCell ⟨n, 1, none⟩ v1).setCell ⟨n, 2, none⟩ v2).setCell ⟨n, 3, none⟩ v3).setCell ⟨n, 4, none⟩ v4) :
    Step (Own i) w o W o3 ∧ RdAt W o3 i b R' ∧ Blk W o3 lt n [v0, v1, v2, v3, v4] ∧ Step (· = lt) w3 o3 W o3 := by
  have q0 : Step (· = lt) w3 o3 w3 o3 := Step.refl _ _ _
  have q : Step (· = lt) w3 o3 W o3 := by
    rw [hW]
    exact ((((q0.set (p := ⟨n, 0, none⟩) C.lab _).set (p := ⟨n, 1, none⟩) C.lab _).set (p := ⟨n, 2, none⟩) C.lab _).set (p := ⟨n, 3, none⟩) C.lab _).set (p := ⟨n, 4, none⟩) C.lab _
  refine ⟨?_, hr.step q (by omega) (fun l h e => by unfold Own at h; omega), ?_, q⟩
  · refine Step.sub (L := fun k => Own i k ∨ k = lt) ?_ ?_
    · exact ((h2.mono (fun _ h => h.elim)).trans (h3.mono (fun _ h => .inl h))).trans (q.mono (fun _ h => .inr h))
    · intro k hk h
      exact h.elim id fun h => absurd h (hft k hk)
  · rw [hW]
    exact (((((C).set 0 v0).set 1 v1).set 2 v2).set 3 v3).set 4 v4


set_option maxHeartbeats 4000000 in
theorem lread_any (i b kd : Nat) (R : RdS) (w : World) (o : Nat → Nat) (hi : 1 ≤ i) (hR : RdAt w o i b R) (hl : R.bs.length ≤ 8796093022208) (hk : kd ≤ 5) :
    Calls Try.prog 23 #[.pointer (some ⟨b, 0, none⟩), .int .i64 kd] w fun e w' => ∃ x y, e = .returned (.agg #[.int .i64 kd, .int .u64 ((readV R kd).1.u : Nat), .int .i64 (readV R kd).1.n, x, y]) ∧ ∃ o', Step (Own i) w o w' o' ∧ RdAt w' o' i b (readV R kd).2 ∧ ValC w' o' (readV R kd).1 x y := by
  obtain ⟨lt, hlt1, hlt2, hft⟩ := fresh_lab w o i 0
  have s1 := step_new w o lt (.cells #[.int .i64 0, .int .u64 0, .int .i64 0, .slice none 0 0, .slice none 0 0] 47)
  obtain ⟨w1, hw1⟩ : ∃ w1, w1 = w.alloc (.cells #[.int .i64 0, .int .u64 0, .int .i64 0, .slice none 0 0, .slice none 0 0] 47) := ⟨_, rfl⟩
  rw [← hw1] at s1
  have B1 : Blk w1 (newLab w o lt) lt w.heap.size [.int .i64 0, .int .u64 0, .int .i64 0, .slice none 0 0, .slice none 0 0] := ⟨_, by rw [hw1]; exact heap_alloc_new _ _, newLab_new _ _ _ (Nat.le_refl _)⟩
  have s2 := step_new w1 (newLab w o lt) lt (.cells #[.int .i64 kd, .int .u64 0, .int .i64 0, .slice none 0 0, .slice none 0 0] 47)
  have B2 : Blk (w1.alloc (.cells #[.int .i64 kd, .int .u64 0, .int .i64 0, .slice none 0 0, .slice none 0 0] 47)) (newLab w1 (newLab w o lt) lt) lt w1.heap.size [.int .i64 kd, .int .u64 0, .int .i64 0, .slice none 0 0, .slice none 0 0] := ⟨_, heap_alloc_new _ _, newLab_new _ _ _ (Nat.le_refl _)⟩
  have B12 := B1.step s2 (fun h => h)
  obtain ⟨w2, hw2⟩ : ∃ w2, w2 = w1.alloc (.cells #[.int .i64 kd, .int .u64 0, .int .i64 0, .slice none 0 0, .slice none 0 0] 47) := ⟨_, rfl⟩
  rw [← hw2] at s2 B2 B12
  obtain ⟨o2, ho2⟩ : ∃ o2, o2 = newLab w1 (newLab w o lt) lt := ⟨_, rfl⟩
  rw [← ho2] at s2 B2 B12
  have hz : w1.heap.size = w.heap.size + 1 := by rw [hw1]; exact World.size_alloc _ _
  rw [hz] at B2
  have hs := s1.trans s2
  have HS2 := Lib.hid hs
  have HR2 := Lib.hid (hR.step hs (fun h => h) (fun _ _ h => h))
  have HB1 := Lib.hid B12
  have HB2 := Lib.hid B2
  have HE1 := Lib.hid hw1
  have HE2 := Lib.hid hw2
  have HFT := Lib.hid hft
  clear hR s1 s2 B1 B2 B12 hs hw1 hw2 ho2 hft hz
  have hc : kd = 0 ∨ kd = 1 ∨ kd = 2 ∨ kd = 3 ∨ kd = 4 ∨ kd = 5 := by omega
  rcases hc with hc | hc | hc | hc | hc | hc
  · have k0 : ((kd : Int) == 0) = true := by simp; omega
    have e1 : readV R kd = (⟨kd, (uintR R).1, 0, [], []⟩, (uintR R).2) := by unfold readV; rw [if_pos hc]
    rw [e1]
    clear hc e1
    go_enter Try.func23, Try.ntmps23
    go_wp2_with fail
    rw [← HE1.out, ← HE2.out]
    refine (ruint_any i b R w2 o2 hi HR2.out).mono ?_
    rintro e w3 ⟨rfl, hs3, hr3⟩
    have HB3 := Lib.hid (HB2.out.step hs3 (by unfold Own; omega))
    have HB4 := Lib.hid (HB1.out.step hs3 (by unfold Own; omega))
    clear HB1 HB2
    have f3 := HB3.out.frozen 1
    have c3 := HB3.out.cell (j := 1) rfl
    have HB5 := Lib.hid (HB3.out.set 1 (.int .u64 (((uintR R).1 : Nat) : Int)))
    have d0 := HB5.out.cell (j := 0) rfl
    have d1 := HB5.out.cell (j := 1) rfl
    have d2 := HB5.out.cell (j := 2) rfl
    have d3 := HB5.out.cell (j := 3) rfl
    have d4 := HB5.out.cell (j := 4) rfl
    have f4 := HB4.out.frozen
    have g0 := HB4.out.cell (j := 0) rfl
    have g1 := HB4.out.cell (j := 1) rfl
    have g2 := HB4.out.cell (j := 2) rfl
    have g3 := HB4.out.cell (j := 3) rfl
    have g4 := HB4.out.cell (j := 4) rfl
    go_wp2_with fail
    obtain ⟨W, hW⟩ : ∃ W, W = (((((w3.setCell ⟨w.heap.size + 1, 1, none⟩ (.int .u64 (((uintR R).1 : Nat) : Int))).setCell ⟨w.heap.size, 0, none⟩ (.int .i64 kd)).setCell ⟨w.heap.size, 1, none⟩ (.int .u64 (((uintR R).1 : Nat) : Int))).setCell ⟨w.heap.size, 2, none⟩ (.int .i64 0)).setCell ⟨w.heap.size, 3, none⟩ (.slice none 0 0)).setCell ⟨w.heap.size, 4, none⟩ (.slice none 0 0) := ⟨_, rfl⟩
    obtain ⟨r1, r2, r3, r4⟩ := read_close 1 _ _ _ _ _ _ HS2.out hs3 hr3 HB3.out HB4.out hlt1 hlt2 HFT.out W hW
    rw [← hW]
    obtain ⟨t, hg, -⟩ := r3
    refine bodyPost_ret (v := .agg #[.int .i64 kd, .int .u64 ((uintR R).1 : Nat), .int .i64 0, .slice none 0 0, .slice none 0 0]) (results_cell_row rfl _ _ _ t _ _ _ rfl hg rfl rfl rfl) rfl ⟨_, _, rfl, o2, r1, r2, ⟨none, 0, none, 0, rfl, rfl, Dat.nil byteV _ _ _, Dat.nil intV _ _ _⟩⟩
  · have k0 : ((kd : Int) == 0) = false := by simp; omega
    have k1 : ((kd : Int) == 1) = true := by simp; omega
    have e1 : readV R kd = (⟨kd, 0, (intR R).1, [], []⟩, (intR R).2) := by unfold readV; rw [if_neg (by omega), if_pos hc]
    rw [e1]
    clear hc e1
    go_enter Try.func23, Try.ntmps23
    go_wp2_with fail
    rw [← HE1.out, ← HE2.out]
    refine (rint_any i b R w2 o2 hi HR2.out).mono ?_
    rintro e w3 ⟨rfl, hs3, hr3⟩
    have HB3 := Lib.hid (HB2.out.step hs3 (by unfold Own; omega))
    have HB4 := Lib.hid (HB1.out.step hs3 (by unfold Own; omega))
    clear HB1 HB2
    have f3 := HB3.out.frozen 2
    have c3 := HB3.out.cell (j := 2) rfl
    have HB5 := Lib.hid (HB3.out.set 2 (.int .i64 (intR R).1))
    have d0 := HB5.out.cell (j := 0) rfl
    have d1 := HB5.out.cell (j := 1) rfl
    have d2 := HB5.out.cell (j := 2) rfl
    have d3 := HB5.out.cell (j := 3) rfl
    have d4 := HB5.out.cell (j := 4) rfl
    have f4 := HB4.out.frozen
    have g0 := HB4.out.cell (j := 0) rfl
    have g1 := HB4.out.cell (j := 1) rfl
    have g2 := HB4.out.cell (j := 2) rfl
    have g3 := HB4.out.cell (j := 3) rfl
    have g4 := HB4.out.cell (j := 4) rfl
    go_wp2_with fail
    obtain ⟨W, hW⟩ : ∃ W, W = ((((((w3.setCell ⟨w.heap.size + 1, 2, none⟩ (.int .i64 (intR R).1)).setCell ⟨w.heap.size, 0, none⟩ (.int .i64 kd)).setCell ⟨w.heap.size, 1, none⟩ (.int .u64 0)).setCell ⟨w.heap.size, 2, none⟩ (.int .i64 (intR R).1)).setCell ⟨w.heap.size, 3, none⟩ (.slice none 0 0)).setCell ⟨w.heap.size, 4, none⟩ (.slice none 0 0)) := ⟨_, rfl⟩
    obtain ⟨r1, r2, r3, r4⟩ := read_close 2 _ _ _ _ _ _ HS2.out hs3 hr3 HB3.out HB4.out hlt1 hlt2 HFT.out W hW
    rw [← hW]
    obtain ⟨t, hg, -⟩ := r3
    refine bodyPost_ret (v := .agg #[.int .i64 kd, .int .u64 0, .int .i64 (intR R).1, .slice none 0 0, .slice none 0 0]) (results_cell_row rfl _ _ _ t _ _ _ rfl hg rfl rfl rfl) rfl ⟨_, _, rfl, o2, r1, r2, ⟨none, 0, none, 0, rfl, rfl, Dat.nil byteV _ _ _, Dat.nil intV _ _ _⟩⟩
  · have k0 : ((kd : Int) == 0) = false := by simp; omega
    have k1 : ((kd : Int) == 1) = false := by simp; omega
    have k2 : ((kd : Int) == 2) = true := by simp; omega
    have e1 : readV R kd = (⟨kd, 0, if (boolR R).1 then 1 else 0, [], []⟩, (boolR R).2) := by unfold readV; rw [if_neg (by omega), if_neg (by omega), if_pos hc]
    obtain ⟨bb, hbb⟩ : ∃ bb, bb = (boolR R).1 := ⟨_, rfl⟩
    rw [e1, ← hbb]
    have HBB := Lib.hid hbb
    clear hc e1 hbb
    go_enter Try.func23, Try.ntmps23
    go_wp2_with fail
    rw [← HE1.out, ← HE2.out]
    have hcb := rbool_any i b R w2 o2 hi HR2.out
    rw [← HBB.out] at hcb
    clear HBB
    refine hcb.mono ?_
    rintro e w3 ⟨rfl, hs3, hr3⟩
    rcases bb with _ | _
    · have HB3 := Lib.hid (HB2.out.step hs3 (by unfold Own; omega))
      have HB4 := Lib.hid (HB1.out.step hs3 (by unfold Own; omega))
      clear HB1 HB2
      have d0 := HB3.out.cell (j := 0) rfl
      have d1 := HB3.out.cell (j := 1) rfl
      have d2 := HB3.out.cell (j := 2) rfl
      have d3 := HB3.out.cell (j := 3) rfl
      have d4 := HB3.out.cell (j := 4) rfl
      have f4 := HB4.out.frozen
      have g0 := HB4.out.cell (j := 0) rfl
      have g1 := HB4.out.cell (j := 1) rfl
      have g2 := HB4.out.cell (j := 2) rfl
      have g3 := HB4.out.cell (j := 3) rfl
      have g4 := HB4.out.cell (j := 4) rfl
      try simp only [Bool.false_eq_true, if_false, if_true]
      go_wp2_with fail
      obtain ⟨W, hW⟩ : ∃ W, W = (((((w3.setCell ⟨w.heap.size, 0, none⟩ (.int .i64 kd)).setCell ⟨w.heap.size, 1, none⟩ (.int .u64 0)).setCell ⟨w.heap.size, 2, none⟩ (.int .i64 0)).setCell ⟨w.heap.size, 3, none⟩ (.slice none 0 0)).setCell ⟨w.heap.size, 4, none⟩ (.slice none 0 0)) := ⟨_, rfl⟩
      obtain ⟨r1, r2, r3, r4⟩ := read_close0 _ _ _ _ _ HS2.out hs3 hr3 HB4.out hlt1 hlt2 HFT.out W hW
      rw [← hW]
      obtain ⟨t, hg, -⟩ := r3
      refine bodyPost_ret (v := .agg #[.int .i64 kd, .int .u64 0, .int .i64 0, .slice none 0 0, .slice none 0 0]) (results_cell_row rfl _ _ _ t _ _ _ rfl hg rfl rfl rfl) rfl ⟨_, _, rfl, o2, r1, r2, ⟨none, 0, none, 0, rfl, rfl, Dat.nil byteV _ _ _, Dat.nil intV _ _ _⟩⟩
    · have HB3 := Lib.hid (HB2.out.step hs3 (by unfold Own; omega))
      have HB4 := Lib.hid (HB1.out.step hs3 (by unfold Own; omega))
      clear HB1 HB2
      have f3 := HB3.out.frozen 2
      have c3 := HB3.out.cell (j := 2) rfl
      have HB5 := Lib.hid (HB3.out.set 2 (.int .i64 1))
      have d0 := HB5.out.cell (j := 0) rfl
      have d1 := HB5.out.cell (j := 1) rfl
      have d2 := HB5.out.cell (j := 2) rfl
      have d3 := HB5.out.cell (j := 3) rfl
      have d4 := HB5.out.cell (j := 4) rfl
      have f4 := HB4.out.frozen
      have g0 := HB4.out.cell (j := 0) rfl
      have g1 := HB4.out.cell (j := 1) rfl
      have g2 := HB4.out.cell (j := 2) rfl
      have g3 := HB4.out.cell (j := 3) rfl
      have g4 := HB4.out.cell (j := 4) rfl
      try simp only [Bool.false_eq_true, if_false, if_true]
      go_wp2_with fail
      obtain ⟨W, hW⟩ : ∃ W, W = ((((((w3.setCell ⟨w.heap.size + 1, 2, none⟩ (.int .i64 1)).setCell ⟨w.heap.size, 0, none⟩ (.int .i64 kd)).setCell ⟨w.heap.size, 1, none⟩ (.int .u64 0)).setCell ⟨w.heap.size, 2, none⟩ (.int .i64 1)).setCell ⟨w.heap.size, 3, none⟩ (.slice none 0 0)).setCell ⟨w.heap.size, 4, none⟩ (.slice none 0 0)) := ⟨_, rfl⟩
      obtain ⟨r1, r2, r3, r4⟩ := read_close 2 _ _ _ _ _ _ HS2.out hs3 hr3 HB3.out HB4.out hlt1 hlt2 HFT.out W hW
      rw [← hW]
      obtain ⟨t, hg, -⟩ := r3
      refine bodyPost_ret (v := .agg #[.int .i64 kd, .int .u64 0, .int .i64 1, .slice none 0 0, .slice none 0 0]) (results_cell_row rfl _ _ _ t _ _ _ rfl hg rfl rfl rfl) rfl ⟨_, _, rfl, o2, r1, r2, ⟨none, 0, none, 0, rfl, rfl, Dat.nil byteV _ _ _, Dat.nil intV _ _ _⟩⟩
  · have k0 : ((kd : Int) == 0) = false := by simp; omega
    have k1 : ((kd : Int) == 1) = false := by simp; omega
    have k2 : ((kd : Int) == 2) = false := by simp; omega
    have k3 : ((kd : Int) == 3) = true := by simp; omega
    have e1 : readV R kd = (⟨kd, 0, 0, (rawR R).1, []⟩, (rawR R).2) := by unfold readV; rw [if_neg (by omega), if_neg (by omega), if_neg (by omega), if_pos (.inl hc)]
    obtain ⟨ys, hys⟩ : ∃ ys, ys = (rawR R).1 := ⟨_, rfl⟩
    have hyl := rawR_len R
    rw [← hys] at hyl
    rw [e1, ← hys]
    have HYS := Lib.hid hys
    clear hc e1 hys
    go_enter Try.func23, Try.ntmps23
    go_wp2_with fail
    rw [← HE1.out, ← HE2.out]
    have hct := rtext_any i b R w2 o2 hi HR2.out (by omega)
    rw [← HYS.out] at hct
    clear HYS
    refine hct.mono ?_
    rintro e wt ⟨rfl, ot, hst, hrt⟩
    obtain ⟨q3, w3, hcv, hsl, hb3⟩ := run_bytes_new (P := Try.prog) wt Try.underlying9 Try.underlying24 Try.underlying5 ys (by omega)
    obtain ⟨a3, ha3⟩ : ∃ a3 : Option Addr, a3 = some ⟨wt.heap.size, 0, none⟩ := ⟨_, rfl⟩
    obtain ⟨o3, ho3⟩ : ∃ o3, o3 = newLab wt ot 0 := ⟨_, rfl⟩
    have hbs : Step (fun _ => False) wt ot w3 o3 := Step.below hb3 fun k hk => by rw [ho3]; exact newLab_old _ _ _ hk
    have hs3 := hst.trans (hbs.mono (L' := Own i) fun _ h => h.elim)
    have hr3 := hrt.step hbs (fun h => h) (fun _ _ h => h)
    have hd3 : Dat w3 o3 0 a3 q3 (ys.map byteV) := by
      rw [ho3]
      refine Dat.new (by rw [ha3]; exact hsl) fun _ b' off he => ?_
      rw [ha3] at he
      injection he with he
      injection he with he
      omega
    rw [← ha3] at hcv
    clear ha3 ho3 hbs hst hrt hsl hb3 hct
    have HB3 := Lib.hid (HB2.out.step hs3 (by unfold Own; omega))
    have HB4 := Lib.hid (HB1.out.step hs3 (by unfold Own; omega))
    clear HB1 HB2
    have f3 := HB3.out.frozen 3
    have c3 := HB3.out.cell (j := 3) rfl
    have HB5 := Lib.hid (HB3.out.set 3 (.slice a3 ys.length q3))
    have d0 := HB5.out.cell (j := 0) rfl
    have d1 := HB5.out.cell (j := 1) rfl
    have d2 := HB5.out.cell (j := 2) rfl
    have d3 := HB5.out.cell (j := 3) rfl
    have d4 := HB5.out.cell (j := 4) rfl
    have f4 := HB4.out.frozen
    have g0 := HB4.out.cell (j := 0) rfl
    have g1 := HB4.out.cell (j := 1) rfl
    have g2 := HB4.out.cell (j := 2) rfl
    have g3 := HB4.out.cell (j := 3) rfl
    have g4 := HB4.out.cell (j := 4) rfl
    go_wp2_with fail
    obtain ⟨W, hW⟩ : ∃ W, W = ((((((w3.setCell ⟨w.heap.size + 1, 3, none⟩ (.slice a3 ys.length q3)).setCell ⟨w.heap.size, 0, none⟩ (.int .i64 kd)).setCell ⟨w.heap.size, 1, none⟩ (.int .u64 0)).setCell ⟨w.heap.size, 2, none⟩ (.int .i64 0)).setCell ⟨w.heap.size, 3, none⟩ (.slice a3 ys.length q3)).setCell ⟨w.heap.size, 4, none⟩ (.slice none 0 0)) := ⟨_, rfl⟩
    obtain ⟨r1, r2, r3, r4⟩ := read_close 3 _ _ _ _ _ _ HS2.out hs3 hr3 HB3.out HB4.out hlt1 hlt2 HFT.out W hW
    rw [← hW]
    obtain ⟨t, hg, -⟩ := r3
    refine bodyPost_ret (v := .agg #[.int .i64 kd, .int .u64 0, .int .i64 0, .slice a3 ys.length q3, .slice none 0 0]) (results_cell_row rfl _ _ _ t _ _ _ rfl hg rfl rfl rfl) rfl ⟨_, _, rfl, o3, r1, r2, ⟨a3, q3, none, 0, rfl, rfl, (hd3.step r4 (by omega)), Dat.nil intV _ _ _⟩⟩
  · have k0 : ((kd : Int) == 0) = false := by simp; omega
    have k1 : ((kd : Int) == 1) = false := by simp; omega
    have k2 : ((kd : Int) == 2) = false := by simp; omega
    have k3 : ((kd : Int) == 3) = false := by simp; omega
    have k4 : ((kd : Int) == 4) = true := by simp; omega
    have e1 : readV R kd = (⟨kd, 0, 0, (rawR R).1, []⟩, (rawR R).2) := by unfold readV; rw [if_neg (by omega), if_neg (by omega), if_neg (by omega), if_pos (.inr hc)]
    rw [e1]
    clear hc e1
    go_enter Try.func23, Try.ntmps23
    go_wp2_with fail
    rw [← HE1.out, ← HE2.out]
    refine (rraw0_any i b R w2 o2 hi HR2.out (by omega)).mono ?_
    rintro e w3 ⟨a3, q3, rfl, o3, hs3, hr3, hd3⟩
    have HB3 := Lib.hid (HB2.out.step hs3 (by unfold Own; omega))
    have HB4 := Lib.hid (HB1.out.step hs3 (by unfold Own; omega))
    clear HB1 HB2
    have f3 := HB3.out.frozen 3
    have c3 := HB3.out.cell (j := 3) rfl
    have HB5 := Lib.hid (HB3.out.set 3 (.slice a3 (rawR R).1.length q3))
    have d0 := HB5.out.cell (j := 0) rfl
    have d1 := HB5.out.cell (j := 1) rfl
    have d2 := HB5.out.cell (j := 2) rfl
    have d3 := HB5.out.cell (j := 3) rfl
    have d4 := HB5.out.cell (j := 4) rfl
    have f4 := HB4.out.frozen
    have g0 := HB4.out.cell (j := 0) rfl
    have g1 := HB4.out.cell (j := 1) rfl
    have g2 := HB4.out.cell (j := 2) rfl
    have g3 := HB4.out.cell (j := 3) rfl
    have g4 := HB4.out.cell (j := 4) rfl
    go_wp2_with fail
    obtain ⟨W, hW⟩ : ∃ W, W = ((((((w3.setCell ⟨w.heap.size + 1, 3, none⟩ (.slice a3 (rawR R).1.length q3)).setCell ⟨w.heap.size, 0, none⟩ (.int .i64 kd)).setCell ⟨w.heap.size, 1, none⟩ (.int .u64 0)).setCell ⟨w.heap.size, 2, none⟩ (.int .i64 0)).setCell ⟨w.heap.size, 3, none⟩ (.slice a3 (rawR R).1.length q3)).setCell ⟨w.heap.size, 4, none⟩ (.slice none 0 0)) := ⟨_, rfl⟩
    obtain ⟨r1, r2, r3, r4⟩ := read_close 3 _ _ _ _ _ _ HS2.out hs3 hr3 HB3.out HB4.out hlt1 hlt2 HFT.out W hW
    rw [← hW]
    obtain ⟨t, hg, -⟩ := r3
    refine bodyPost_ret (v := .agg #[.int .i64 kd, .int .u64 0, .int .i64 0, .slice a3 (rawR R).1.length q3, .slice none 0 0]) (results_cell_row rfl _ _ _ t _ _ _ rfl hg rfl rfl rfl) rfl ⟨_, _, rfl, o3, r1, r2, ⟨a3, q3, none, 0, rfl, rfl, (hd3.step r4 (by omega)), Dat.nil intV _ _ _⟩⟩
  · have k0 : ((kd : Int) == 0) = false := by simp; omega
    have k1 : ((kd : Int) == 1) = false := by simp; omega
    have k2 : ((kd : Int) == 2) = false := by simp; omega
    have k3 : ((kd : Int) == 3) = false := by simp; omega
    have k4 : ((kd : Int) == 4) = false := by simp; omega
    have k5 : ((kd : Int) == 5) = true := by simp; omega
    have e1 : readV R kd = (⟨kd, 0, 0, [], (intsR R).1⟩, (intsR R).2) := by unfold readV; rw [if_neg (by omega), if_neg (by omega), if_neg (by omega), if_neg (by omega)]
    rw [e1]
    clear hc e1
    go_enter Try.func23, Try.ntmps23
    go_wp2_with fail
    rw [← HE1.out, ← HE2.out]
    refine (rints0_any i b R w2 o2 hi HR2.out (by omega)).mono ?_
    rintro e w3 ⟨a3, q3, rfl, o3, hs3, hr3, hd3⟩
    have HB3 := Lib.hid (HB2.out.step hs3 (by unfold Own; omega))
    have HB4 := Lib.hid (HB1.out.step hs3 (by unfold Own; omega))
    clear HB1 HB2
    have f3 := HB3.out.frozen 4
    have c3 := HB3.out.cell (j := 4) rfl
    have HB5 := Lib.hid (HB3.out.set 4 (.slice a3 (intsR R).1.length q3))
    have d0 := HB5.out.cell (j := 0) rfl
    have d1 := HB5.out.cell (j := 1) rfl
    have d2 := HB5.out.cell (j := 2) rfl
    have d3 := HB5.out.cell (j := 3) rfl
    have d4 := HB5.out.cell (j := 4) rfl
    have f4 := HB4.out.frozen
    have g0 := HB4.out.cell (j := 0) rfl
    have g1 := HB4.out.cell (j := 1) rfl
    have g2 := HB4.out.cell (j := 2) rfl
    have g3 := HB4.out.cell (j := 3) rfl
    have g4 := HB4.out.cell (j := 4) rfl
    go_wp2_with fail
    obtain ⟨W, hW⟩ : ∃ W, W = ((((((w3.setCell ⟨w.heap.size + 1, 4, none⟩ (.slice a3 (intsR R).1.length q3)).setCell ⟨w.heap.size, 0, none⟩ (.int .i64 kd)).setCell ⟨w.heap.size, 1, none⟩ (.int .u64 0)).setCell ⟨w.heap.size, 2, none⟩ (.int .i64 0)).setCell ⟨w.heap.size, 3, none⟩ (.slice none 0 0)).setCell ⟨w.heap.size, 4, none⟩ (.slice a3 (intsR R).1.length q3)) := ⟨_, rfl⟩
    obtain ⟨r1, r2, r3, r4⟩ := read_close 4 _ _ _ _ _ _ HS2.out hs3 hr3 HB3.out HB4.out hlt1 hlt2 HFT.out W hW
    rw [← hW]
    obtain ⟨t, hg, -⟩ := r3
    refine bodyPost_ret (v := .agg #[.int .i64 kd, .int .u64 0, .int .i64 0, .slice none 0 0, .slice a3 (intsR R).1.length q3]) (results_cell_row rfl _ _ _ t _ _ _ rfl hg rfl rfl rfl) rfl ⟨_, _, rfl, o3, r1, r2, ⟨none, 0, a3, q3, rfl, rfl, Dat.nil byteV _ _ _, (hd3.step r4 (by omega))⟩⟩

end Go.Proofs.Ytplhclmmmfpgeaa
