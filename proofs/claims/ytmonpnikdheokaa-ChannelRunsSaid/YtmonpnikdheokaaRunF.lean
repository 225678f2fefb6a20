/-
  The law ChannelRuns.
-/
import Derived.Test.YtmonpnikdheokaaRunE
import Derived.Test.YtmonpnikdheokaaOwnB
import Derived.Deep.CutBlock
import Derived.Deep.DeepCutAuto
import Derived.StillTailTactics
namespace Go.Proofs.Ytmonpnikdheokaa
open Go Go.Proofs
open Go.RowKit
set_option linter.unusedVariables false
set_option linter.unusedSimpArgs false

theorem wrap_nat (J : Nat) (h : J ≤ 9223372036854775807) : wrap64 (J : Int) = (J : Int) := by unfold wrap64; omega
theorem j_big (N L : Nat) (h : (20 : Int) < (L : Int)) (hl : L ≤ 1000) : ∃ D J : Nat, (N : Int) / 2 % 20 = (D : Int) ∧ (L : Int) - 1 - (D : Int) = (J : Int) ∧ wrap64 (J : Int) = (J : Int) ∧ J < L :=
  ⟨N / 2 % 20, L - 1 - N / 2 % 20, by omega, by omega, wrap_nat _ (by omega), by omega⟩
theorem j_small (N L : Nat) (h : 0 < L) (hl : L ≤ 1000) : ∃ D J : Nat, (N : Int) / 2 % (L : Int) = (D : Int) ∧ (L : Int) - 1 - (D : Int) = (J : Int) ∧ wrap64 (J : Int) = (J : Int) ∧ J < L := by
  have hd : N / 2 % L < L := Nat.mod_lt _ h
  exact ⟨N / 2 % L, L - 1 - N / 2 % L, by simp, by omega, wrap_nat _ (by omega), by omega⟩
theorem j_any (N L : Nat) (h : 0 < L) (hl : L ≤ 1000) : ∃ J : Nat, wrap64 ((L : Int) - 1 - (N : Int) / 2 % (if 20 < (L : Int) then 20 else (L : Int))) = (J : Int) ∧ J < L := by
  by_cases h20 : (20 : Int) < (L : Int)
  · obtain ⟨D, J, e1, e2, e3, e4⟩ := j_big N L h20 hl
    exact ⟨J, by rw [if_pos h20, e1, e2, e3], e4⟩
  · obtain ⟨D, J, e1, e2, e3, e4⟩ := j_small N L h hl
    exact ⟨J, by rw [if_neg h20, e1, e2, e3], e4⟩
theorem j_all (N L : Nat) (h : 0 < L) (hl : L ≤ 1000) : ∃ M D J : Nat, (if 20 < (L : Int) then 20 else (L : Int)) = (M : Int) ∧ (N : Int) / 2 % (M : Int) = (D : Int) ∧ (L : Int) - 1 - (D : Int) = (J : Int) ∧ wrap64 (J : Int) = (J : Int) ∧ J < L ∧ 0 < M := by
  by_cases h20 : (20 : Int) < (L : Int)
  · obtain ⟨D, J, e1, e2, e3, e4⟩ := j_big N L h20 hl
    exact ⟨20, D, J, by rw [if_pos h20]; rfl, e1, e2, e3, e4, by omega⟩
  · obtain ⟨D, J, e1, e2, e3, e4⟩ := j_small N L h hl
    exact ⟨L, D, J, by rw [if_neg h20], e1, e2, e3, e4, h⟩

/-- The law's own packet, in its block: label 59. -/
def PkB (w : World) (o : Nat → Nat) (pb : Nat) : Prop := ∃ (q k : Int) (m : List UInt8) (a : Option Addr) (c : Nat), Blk w o 59 pb [.int .i64 q, .int .i64 k, .slice a m.length c] ∧ Dat w o 0 a c (m.map byteV)
theorem Blk.setStep {w : World} {o : Nat → Nat} {i b : Nat} {cs : List Value} (h : Blk w o i b cs) (j : Nat) (u : Value) : Step (· = i) w o (w.setCell ⟨b, j, none⟩ u) o := (Step.refl _ w o).set (by show o b = i; exact h.lab) u
theorem pk_seq {w : World} {o : Nat → Nat} {pb : Nat} {q k : Int} {m : List UInt8} {a : Option Addr} {c : Nat} (h : Blk w o 59 pb [.int .i64 q, .int .i64 k, .slice a m.length c]) (hd : Dat w o 0 a c (m.map byteV)) (x : Int) : PkB (w.setCell ⟨pb, 0, none⟩ (.int .i64 x)) o pb :=
  ⟨x, k, m, a, c, h.set 0 _, hd.step (h.setStep 0 _) (by omega)⟩
theorem pk_ack {w : World} {o : Nat → Nat} {pb : Nat} {q k : Int} {m : List UInt8} {a : Option Addr} {c : Nat} (h : Blk w o 59 pb [.int .i64 q, .int .i64 k, .slice a m.length c]) (hd : Dat w o 0 a c (m.map byteV)) (x : Int) : PkB (w.setCell ⟨pb, 1, none⟩ (.int .i64 x)) o pb :=
  ⟨q, x, m, a, c, h.set 1 _, hd.step (h.setStep 1 _) (by omega)⟩
theorem pk_b {w : World} {o : Nat → Nat} {pb : Nat} {q k : Int} {m : List UInt8} {a : Option Addr} {c : Nat} (h : Blk w o 59 pb [.int .i64 q, .int .i64 k, .slice a m.length c]) {m' : List UInt8} {a' : Option Addr} {c' : Nat} (hd : Dat w o 0 a' c' (m'.map byteV)) : PkB (w.setCell ⟨pb, 2, none⟩ (.slice a' m'.length c')) o pb :=
  ⟨q, k, m', a', c', h.set 2 _, hd.step (h.setStep 2 _) (by omega)⟩

theorem own5 (w : World) : ((w.alloc (.cells #[] 5)).alloc (.cells #[.int .u8 5] 5)).ownsRow w.heap.size 5 1 (.slice (some ⟨w.heap.size, 0, none⟩) 0 0) 0 [] :=
  (World.ownsRow_lit w #[] 0 (Nat.le_refl _) (by decide) rfl).alloc _
theorem row5 (w : World) : RowAt ((w.alloc (.cells #[] 5)).alloc (.cells #[.int .u8 5] 5)) (some ⟨w.heap.size + 1, 0, none⟩) 1 1 1 [.int .u8 5] := by
  have h : ∀ W : World, RowAt (W.alloc (.cells #[.int .u8 5] 5)) (some ⟨W.heap.size, 0, none⟩) 1 1 1 [.int .u8 5] := fun W => row_new (cs := [Value.int .u8 5]) (by simp) (by omega)
  have h1 := h (w.alloc (.cells #[] 5))
  rw [World.size_alloc] at h1
  exact h1
theorem one5 : ∀ u ∈ [Value.int .u8 5], u.oneCell' = true := by simp [Value.oneCell']
theorem rnew_win (n : Int) (i : Nat) (w : World) (o : Nat → Nat) (hi : 1 ≤ i) :
    Calls Try.prog 12 #[.int .i64 (1 + aroundI n 16)] w fun e w' => ∃ b, e = .returned (.tuple #[.pointer (some ⟨b, 0, none⟩), .bool true]) ∧ ∃ o', Step (Own i) w o w' o' ∧ MdAt w' o' i b (newE (winN n)) [] := by
  rw [← winN_eq]
  exact rnew_any (winN n) i w o (winN_lo n) (winN_hi n) hi
theorem mcell {w : World} {o : Nat → Nat} {l g c k : Nat} {e : TypeId} {f : Nat → Value} (h : RowL w o l e 1 (.slice (some ⟨g, 0, none⟩) 2 c) 2 (L2 f)) (hk : k < 2) : w.cell? ⟨g, k, none⟩ = some (f k) := by
  have := h.slice.cell (L2_get f hk)
  rwa [Nat.zero_add] at this
theorem lit_two' (w : World) (i N : Nat) (h : i < 256) (e : Nat) : SliceAt (w.alloc (.cells #[.int .u8 (i : Int), .int .u8 ((N : Int) % 256)] e)) (some ⟨w.heap.size, 0, none⟩) 2 ([UInt8.ofNat i, UInt8.ofNat N].map byteV) := by
  have := slice_new (f := byteV) (xs := [UInt8.ofNat i, UInt8.ofNat N]) (w := w) (e := e) (by simp)
  have e1 : (UInt8.ofNat i).toNat = i := by rw [UInt8.toNat_ofNat']; omega
  have e2 : (((UInt8.ofNat N).toNat : Nat) : Int) = (N : Int) % 256 := by rw [UInt8.toNat_ofNat']; omega
  simp only [List.map_cons, List.map_nil, byteV, e1, e2] at this ⊢
  exact this

set_option maxRecDepth 100000 in
set_option maxHeartbeats 16000000 in
theorem channelRuns_walk (window : Int) (a : Option Addr) (cap : Nat) (xs : List Int) (w : World) (h0 : -9223372036854775808 ≤ window ∧ window ≤ 9223372036854775807) (hx : SliceAt w a cap (xs.map intV)) (hb : ∀ n ∈ xs, -9223372036854775808 ≤ n ∧ n ≤ 9223372036854775807) :
    Calls Try.prog 3 #[.int .i64 window, .slice a xs.length cap] w fun e w' => e = .returned (.bool true) ∧ Below w.heap.size w w' := by
  have hxl := hx.len
  simp only [List.length_map] at hxl
  have HX := Lib.hid hx
  have HB := Lib.hid hb
  clear hx hb
  have qn := fun (wx : World) (ad : Addr) => Lib.run_eql_slice_nil (P := Try.prog) wx 23 33 (some ad) 2 2 0 0 Try.underlying23
  have v1 := aroundI_lo window 16 (by omega)
  have v2 := aroundI_hi window 16 (by omega)
  have td := tdiv_in window 16 (by omega) h0.1 h0.2
  have v3 := aroundI_lo (window.tdiv 16) 16 (by omega)
  have v4 := aroundI_hi (window.tdiv 16) 16 (by omega)
  go_enter Try.func3, Try.ntmps3
  go_wp2_with fail
  refine (ends_any window w h0.1 h0.2).mono ?_
  rintro e w1 ⟨eb, b1, b2, o1, rfl, hT1, hE1⟩
  obtain ⟨b, rfl, rfl⟩ : ∃ b : Nat → Nat, b1 = b 0 ∧ b2 = b 1 := ⟨pr b1 b2, rfl, rfl⟩
  obtain ⟨W0, hW0⟩ : ∃ x, winN window = x := ⟨_, rfl⟩
  obtain ⟨W1, hW1⟩ : ∃ x, winN (window.tdiv 16) = x := ⟨_, rfl⟩
  rw [hW0, hW1] at hT1
  have HT1 := Lib.hid (hT1.congb (b' := b) fun k hk => by
    have hk : k = 0 ∨ k = 1 := by omega
    rcases hk with rfl | rfl <;> rfl)
  have HE1 := Lib.hid hE1
  have HWI : Hid ((1 ≤ W0 ∧ W0 ≤ 16) ∧ (1 ≤ W1 ∧ W1 ≤ 16)) := by unfold Hid; rw [← hW0, ← hW1]; exact ⟨⟨winN_lo _, winN_hi _⟩, winN_lo _, winN_hi _⟩
  have kn0 := fun W o => rnew_win window 3 W o (by omega)
  have kn1 := fun W o => rnew_win (window.tdiv 16) 4 W o (by omega)
  rw [hW0] at kn0
  rw [hW1] at kn1
  obtain ⟨z0, hz0⟩ : ∃ z, aroundI window 16 = z := ⟨_, rfl⟩
  obtain ⟨z1, hz1⟩ : ∃ z, aroundI (window.tdiv 16) 16 = z := ⟨_, rfl⟩
  have ka0 := fun W => around_any window 16 W (by omega) (by omega) h0.1 h0.2
  have ka1 := fun W => around_any (window.tdiv 16) 16 W (by omega) (by omega) td.1 td.2
  rw [hz0] at ka0 kn0 v1 v2
  rw [hz1] at ka1 kn1 v3 v4
  have KN0 := Lib.hid kn0
  have KN1 := Lib.hid kn1
  have KA0 := Lib.hid ka0
  have KA1 := Lib.hid ka1
  clear hT1 hE1 hW0 hW1 kn0 kn1 ka0 ka1 hz0 hz1
  go_wp2_with fail
  refine wp_loop_rounds 3 ?_
  rw [rounds_succ]
  go_wp2_with fail
  refine (KA0.out _).mono ?_
  rintro e w' ⟨rfl, rfl⟩
  obtain ⟨w2, hw2⟩ : ∃ x, x = w1.alloc (.cells #[.int .i64 window, .int .i64 (window.tdiv 16)] 3) := ⟨_, rfl⟩
  have hs2 : Step (fun _ => False) w1 o1 w2 o1 := by rw [hw2]; exact (Step.refl _ _ _).alloc _
  have HT2 := Lib.hid (HT1.out.step hs2 fun _ _ h => h)
  have HE2 := Lib.hid (HE1.out.step hs2 fun h => h)
  have HW2 := Lib.hid hw2
  clear hs2 hw2 HT1 HE1
  go_wp2_with fail
  rw [← HW2.out]
  clear HW2
  refine (KN0.out w2 o1).mono ?_
  rintro e w3 ⟨m0, rfl, o3, hs3, hM0⟩
  have HT3 := Lib.hid (HT2.out.step hs3 fun l hl h => by unfold Own at h; omega)
  have HE3 := Lib.hid (HE2.out.step hs3 (by unfold Own; omega))
  have HM3 := Lib.hid hM0
  clear hs3 hM0 HT2 HE2 KA0 KN0
  go_wp2_with (at_builtin; refine wpList_append_row (w₀ := w3) (o := o3) (l := 51) rfl (.tmp 45) (.tmp 47) 25 rfl elemMp rfl (RowL.nil w3 o3 51 _ _) ((Below.refl _ w3).alloc (Nat.le_refl _) _) (some ⟨w3.heap.size, 0, none⟩) 1 1 [.pointer (some ⟨m0, 0, none⟩)] rfl (row_new (cs := [.pointer (some ⟨m0, 0, none⟩)]) (by simp) (by omega)) (by simp [Value.oneCell']) (by omega) (by omega) ?_)
  intro v4' w4 hrow4 hs4
  obtain ⟨ra4, rc4, rfl⟩ := hrow4.form
  obtain ⟨o4, ho4⟩ : ∃ x, newLab w3 o3 51 = x := ⟨_, rfl⟩
  rw [ho4] at hrow4 hs4
  have HT4 := Lib.hid (HT3.out.step hs4 fun l hl h => by omega)
  have HE4 := Lib.hid (HE3.out.step hs4 (by omega))
  have HM4 := Lib.hid (HM3.out.step hs4 (by omega) fun l hl => by unfold Own at hl; omega)
  have HR4 := Lib.hid hrow4
  clear hrow4 hs4 ho4 HT3 HE3 HM3
  go_wp2_with fail
  rw [rounds_succ]
  go_wp2_with fail
  refine (KA1.out _).mono ?_
  rintro e w' ⟨rfl, rfl⟩
  obtain ⟨w5, hw5⟩ : ∃ x, x = w4.alloc (.cells #[.int .i64 window, .int .i64 (window.tdiv 16)] 3) := ⟨_, rfl⟩
  have hs5 : Step (fun _ => False) w4 o4 w5 o4 := by rw [hw5]; exact (Step.refl _ _ _).alloc _
  have HT5 := Lib.hid (HT4.out.step hs5 fun _ _ h => h)
  have HE5 := Lib.hid (HE4.out.step hs5 fun h => h)
  have HM5 := Lib.hid (HM4.out.step hs5 (fun h => h) fun _ _ h => h)
  have HR5 := Lib.hid (RowL.step HR4.out hs5 fun h => h)
  have HW5 := Lib.hid hw5
  clear hs5 hw5 HT4 HE4 HM4 HR4
  go_wp2_with fail
  rw [← HW5.out]
  clear HW5
  refine (KN1.out w5 o4).mono ?_
  rintro e w6 ⟨m1, rfl, o6, hs6, hM1⟩
  have HT6 := Lib.hid (HT5.out.step hs6 fun l hl h => by unfold Own at h; omega)
  have HE6 := Lib.hid (HE5.out.step hs6 (by unfold Own; omega))
  have HM6 := Lib.hid (HM5.out.step hs6 (by unfold Own; omega) fun l hl => by unfold Own at *; omega)
  have HR6 := Lib.hid (RowL.step HR5.out hs6 (by unfold Own; omega))
  have HN6 := Lib.hid hM1
  clear hs6 hM1 HT5 HE5 HM5 HR5 KA1 KN1
  go_wp2_with (at_builtin; refine wpList_append_row (w₀ := w6) (o := o6) (l := 51) rfl (.tmp 45) (.tmp 47) 25 rfl elemMp rfl HR6.out ((Below.refl _ w6).alloc (Nat.le_refl _) _) (some ⟨w6.heap.size, 0, none⟩) 1 1 [.pointer (some ⟨m1, 0, none⟩)] rfl (row_new (cs := [.pointer (some ⟨m1, 0, none⟩)]) (by simp) (by omega)) (by simp [Value.oneCell']) (by omega) (by omega) ?_)
  intro v7' w7 hrow7 hs7
  obtain ⟨ra7, rc7, rfl, -, -, -, hra7⟩ := hrow7.cells
  obtain ⟨mg, rfl, -, -, -, -⟩ := hra7 (by omega)
  obtain ⟨o7, ho7⟩ : ∃ x, newLab w6 o6 51 = x := ⟨_, rfl⟩
  rw [ho7] at hrow7 hs7
  obtain ⟨mb, rfl, rfl⟩ : ∃ mb : Nat → Nat, m0 = mb 0 ∧ m1 = mb 1 := ⟨pr m0 m1, rfl, rfl⟩
  have hRW : RuW w w7 o7 b mb (pr (newE W0) (newE W1)) eb (.slice (some ⟨mg, 0, none⟩) 2 rc7) (fun _ => []) (.slice none 0 0) (.slice none 0 0) [] [] := by
    refine ⟨HT6.out.step hs7 fun l hl h => by omega, fun k hk => ?_, HE6.out.step hs7 (by omega), hrow7, ⟨[], RowL.nil _ _ _ _ _, RPkts.nil _ _⟩, RowL.nil _ _ _ _ _⟩
    have hk : k = 0 ∨ k = 1 := by omega
    rcases hk with rfl | rfl
    · exact HM6.out.step hs7 (by omega) fun l hl => by unfold Own at hl; omega
    · exact HN6.out.step hs7 (by omega) fun l hl => by unfold Own at hl; omega
  have hRI : RuI 0 (pr (newE W0) (newE W1)) (fun _ => []) [] [] := by
    have hE : ∀ k, k < 2 → ∃ W, 1 ≤ W ∧ W ≤ 16 ∧ pr (newE W0) (newE W1) k = newE W := by
      intro k hk
      have hk : k = 0 ∨ k = 1 := by omega
      rcases hk with rfl | rfl
      · exact ⟨_, HWI.out.1.1, HWI.out.1.2, rfl⟩
      · exact ⟨_, HWI.out.2.1, HWI.out.2.2, rfl⟩
    refine ⟨fun k hk => ?_, fun k hk => ?_, fun k hk => ?_, fun k hk => ?_, fun k hk => by simp, fun k hk m hm => by simp at hm, rfl, by simp, fun j t h => by simp at h⟩
    all_goals
      obtain ⟨W, h1, h2, h3⟩ := hE k hk
      rw [h3]
    · exact ⟨rfl, by simp [newE], by simp⟩
    · rfl
    · simp [newE]
    · exact (Fit.new h1 h2).mono (by omega)
  have HRW := Lib.hid hRW
  have HRI := Lib.hid hRI
  clear hRW hRI hrow7 hs7 ho7 hra7 HT6 HE6 HM6 HR6 HN6 HWI v1 v2 v3 v4 td qn
  obtain ⟨E0, hE0⟩ : ∃ x, pr (newE W0) (newE W1) = x := ⟨_, rfl⟩
  rw [hE0] at HRW HRI
  clear hE0
  go_wp2_with fail
  rw [rounds_succ]
  go_wp2_with fail
  go_loopw [10, 11, 12] (fun lv tv iv wr => ∃ (i : Nat) (o : Nat → Nat) (E : Nat → EndS) (S : Nat → List (List UInt8)) (qs : List Pkt) (ts : List Nat), i ≤ 60 ∧ i ≤ xs.length ∧ iv = .int .i64 i ∧ Hid (RuI i E S qs ts) ∧ Hid (RuW w wr o b mb E eb (.slice (some ⟨mg, 0, none⟩) 2 rc7) S lv tv qs ts)) (fun _ _ iv _ => 60 - (intOf iv).toNat)
  case atStart => exact ⟨0, o7, E0, _, _, _, by omega, by omega, rfl, HRI.out, HRW.out⟩
  case round =>
    clear HRW HRI
    obtain ⟨i, o, E, S, qs, ts, hi8, hix, rfl, HI, HM⟩ := hrel
    by_cases hin : i < xs.length
    · by_cases hi80 : i < 60
      · have d1 : decide ((i : Int) < xs.length) = true := decide_eq_true (by omega)
        have d2 : decide ((i : Int) < 60) = true := decide_eq_true (by omega)
        obtain ⟨xb, off, rfl⟩ := HX.out.addr (by simp; omega)
        have c1 : wr.cell? ⟨xb, off + i, none⟩ = some (.int .i64 xs[i]) := (HX.out.below HM.out.two.below).intV hin
        have hv := HB.out xs[i] (List.getElem_mem _)
        obtain ⟨v, hvx⟩ : ∃ v, xs[i] = v := ⟨_, rfl⟩
        rw [hvx] at c1 hv
        clear hvx
        have t8 := tdiv_in v 8 (by omega) hv.1 hv.2
        have a1 := aroundI_lo (v.tdiv 8) 1073741824 (by omega)
        have a2 := aroundI_hi (v.tdiv 8) 1073741824 (by omega)
        have a3 := aroundI_lo v 8 (by omega)
        have a4 := aroundI_hi v 8 (by omega)
        obtain ⟨N, hN⟩ : ∃ N : Nat, aroundI (v.tdiv 8) 1073741824 = N := ⟨(aroundI (v.tdiv 8) 1073741824).toNat, by omega⟩
        obtain ⟨s, hs⟩ : ∃ s : Nat, aroundI v 8 = s := ⟨(aroundI v 8).toNat, by omega⟩
        rw [hN] at a1 a2
        rw [hs] at a3 a4
        obtain ⟨k, hkN⟩ : ∃ k : Nat, (N : Int) % 2 = k := ⟨N % 2, by omega⟩
        have hk2 : k < 2 := by omega
        obtain ⟨t, hti⟩ : ∃ t : Nat, 1 - (k : Int) = t := ⟨1 - k, by omega⟩
        have ht2 : t < 2 := by omega
        have HNN := Lib.hid hN
        have HSS := Lib.hid hs
        clear hN hs a1 a3
        go_wp2_with fail
        refine (around_any (v.tdiv 8) 1073741824 _ (by omega) (by omega) t8.1 t8.2).mono ?_
        rw [HNN.out]
        rintro e w3 ⟨rfl, rfl⟩
        go_wp2_with fail
        refine (around_any v 8 _ (by omega) (by omega) hv.1 hv.2).mono ?_
        rw [HSS.out]
        rintro e w3 ⟨rfl, rfl⟩
        clear HNN HSS hv t8
        go_upto_block 4 with fail
        go_cut [10, 11] (fun s10 s11 wx => ∃ (o : Nat → Nat) (E : Nat → EndS) (S : Nat → List (List UInt8)) (qs : List Pkt) (ts : List Nat), Hid (RuI (i + 1) E S qs ts) ∧ Hid (RuW w wx o b mb E eb (.slice (some ⟨mg, 0, none⟩) 2 rc7) S s10 s11 qs ts))
        case first =>
          have c2 : wr.cell? ⟨eb, k, none⟩ = some (.pointer (some ⟨b k, 0, none⟩)) := HM.out.es.cell (L2_get _ hk2)
          have c3 : wr.cell? ⟨mg, k, none⟩ = some (.pointer (some ⟨mb k, 0, none⟩)) := mcell HM.out.ms hk2
          have hcase : (s = 0 ∨ s = 1) ∨ (s = 2 ∨ s = 3) ∨ 4 ≤ s := by omega
          rcases hcase with hcase | hcase | hcase
          · as_aux_lemma =>
            have hc2 : ((s : Int) == 0) = true ∨ (((s : Int) == 0) = false ∧ ((s : Int) == 1) = true) := by
              rcases hcase with h | h
              · exact .inl (by simp; omega)
              · exact .inr ⟨by simp; omega, by simp; omega⟩
            clear hcase
            obtain ⟨m, hm⟩ : ∃ m, [UInt8.ofNat i, UInt8.ofNat N] = m := ⟨_, rfl⟩
            have hm2 : m.length = 2 := by rw [← hm]; rfl
            obtain ⟨wa, hwa⟩ : ∃ x, x = wr.alloc (.cells #[.int .u8 (i : Int), .int .u8 ((N : Int) % 256)] 5) := ⟨_, rfl⟩
            obtain ⟨oa, hoa⟩ : ∃ x, newLab wr o 0 = x := ⟨_, rfl⟩
            have hsa : Step (fun _ => False) wr o wa oa := by rw [hwa, ← hoa]; exact Step.below ((Below.refl _ _).alloc (Nat.le_refl _) _) fun k hk => newLab_old _ _ _ hk
            obtain ⟨ga, hga⟩ : ∃ g, wr.heap.size = g := ⟨_, rfl⟩
            have hda : Dat wa oa 0 (some ⟨ga, 0, none⟩) 2 (m.map byteV) := by
              rw [hwa, ← hoa, ← hga, ← hm]
              exact ⟨lit_two' wr i N (by omega) _, fun _ b off h => by simp at h; obtain ⟨rfl, rfl⟩ := h; exact newLab_new _ _ _ (Nat.le_refl _)⟩
            have hsd : Step (fun _ => False) wa oa wa.drew oa := (Step.refl _ _ _).drew
            have HMd := Lib.hid ((HM.out.step hsa (fun _ _ h => h)).step hsd (fun _ _ h => h))
            have HDd := Lib.hid (hda.step hsd fun h => h)
            have HSI := Lib.hid (HI.out.send (by omega) hk2 (m := m) (by omega))
            have HFI := Lib.hid (HI.out.fit k hk2)
            have HOK := Lib.hid (HI.out.ok k hk2)
            have HWA := Lib.hid hwa
            have HGA := Lib.hid hga
            obtain ⟨se, hse⟩ : ∃ x, sendErr (E k) m = x := ⟨_, rfl⟩
            have HSE := Lib.hid hse
            have HM2 := Lib.hid hm2
            clear hm hwa hoa hsa hga hda hsd hse hm2 HM HI c1
            rcases hc2 with hc2 | ⟨hc2, hc3⟩
            all_goals
              go_upto_region 34 with fail
              have z1 : (k : Int) < 2 := by omega
              have z2 : (0 : Int) ≤ (k : Int) := by omega
              have z3 : IntKind.i64.wrap (k : Int) = k := IntWalk.i64_in _ (by omega)
              rw [← HWA.out, HGA.out]
              refine wp_region_held_drew (S := fun W => W.cell? ⟨eb, k, none⟩ = some (.pointer (some ⟨b k, 0, none⟩)) ∧ W.cell? ⟨mg, k, none⟩ = some (.pointer (some ⟨mb k, 0, none⟩))) (by kernel_rfl) ⟨HMd.out.es.cell (L2_get _ hk2), mcell HMd.out.ms hk2⟩ (fun h0 => ?_)
              (first | ((refine wpAnyH_take (i := 0) (oi := ⟨_, _, _, _, _, _⟩) (v := ?_) rfl (by kernel_rfl) (by kernel_rfl) (by kernel_rfl) (fun _ _ _ h => h) (Or.inl ⟨by rfl, ?_⟩) (by assumption) ?_); rotate_left; focus ((intro w hSw); (try dsimp only at hSw); go_simp; all_goals (with_reducible rfl))) | (refine wpAnyH_take (i := 0) (oi := ⟨_, _, _, _, _, _⟩) (v := undef) rfl (by kernel_rfl) (by kernel_rfl) (by kernel_rfl) (fun _ _ _ h => h) (Or.inr ⟨by rfl, rfl⟩) (by assumption) ?_))
              try simp only [Act.put, List.setIfInBounds_toArray, List.set_cons_zero, List.set_cons_succ]
              (first | ((refine wpAnyH_take (i := 1) (oi := ⟨_, _, _, _, _, _⟩) (v := ?_) rfl (by kernel_rfl) (by kernel_rfl) (by kernel_rfl) (fun _ _ _ h => h) (Or.inl ⟨by rfl, ?_⟩) (by assumption) ?_); rotate_left; focus ((intro w hSw); (try dsimp only at hSw); go_simp; all_goals (with_reducible rfl))) | (refine wpAnyH_take (i := 1) (oi := ⟨_, _, _, _, _, _⟩) (v := undef) rfl (by kernel_rfl) (by kernel_rfl) (by kernel_rfl) (fun _ _ _ h => h) (Or.inr ⟨by rfl, rfl⟩) (by assumption) ?_))
              try simp only [Act.put, List.setIfInBounds_toArray, List.set_cons_zero, List.set_cons_succ]
              (first | ((refine wpAnyH_take (i := 2) (oi := ⟨_, _, _, _, _, _⟩) (v := ?_) rfl (by kernel_rfl) (by kernel_rfl) (by kernel_rfl) (fun _ _ _ h => h) (Or.inl ⟨by rfl, ?_⟩) (by assumption) ?_); rotate_left; focus ((intro w hSw); (try dsimp only at hSw); go_simp; all_goals (with_reducible rfl))) | (refine wpAnyH_take (i := 2) (oi := ⟨_, _, _, _, _, _⟩) (v := undef) rfl (by kernel_rfl) (by kernel_rfl) (by kernel_rfl) (fun _ _ _ h => h) (Or.inr ⟨by rfl, rfl⟩) (by assumption) ?_))
              try simp only [Act.put, List.setIfInBounds_toArray, List.set_cons_zero, List.set_cons_succ]
              (first | ((refine wpAnyH_take (i := 3) (oi := ⟨_, _, _, _, _, _⟩) (v := ?_) rfl (by kernel_rfl) (by kernel_rfl) (by kernel_rfl) (fun _ _ _ h => h) (Or.inl ⟨by rfl, ?_⟩) (by assumption) ?_); rotate_left; focus ((intro w hSw); (try dsimp only at hSw); go_simp; all_goals (with_reducible rfl))) | (refine wpAnyH_take (i := 3) (oi := ⟨_, _, _, _, _, _⟩) (v := undef) rfl (by kernel_rfl) (by kernel_rfl) (by kernel_rfl) (fun _ _ _ h => h) (Or.inr ⟨by rfl, rfl⟩) (by assumption) ?_))
              try simp only [Act.put, List.setIfInBounds_toArray, List.set_cons_zero, List.set_cons_succ]
              (first | ((refine wpAnyH_take (i := 4) (oi := ⟨_, _, _, _, _, _⟩) (v := ?_) rfl (by kernel_rfl) (by kernel_rfl) (by kernel_rfl) (fun _ _ _ h => h) (Or.inl ⟨by rfl, ?_⟩) (by assumption) ?_); rotate_left; focus ((intro w hSw); (try dsimp only at hSw); go_simp; all_goals (with_reducible rfl))) | (refine wpAnyH_take (i := 4) (oi := ⟨_, _, _, _, _, _⟩) (v := undef) rfl (by kernel_rfl) (by kernel_rfl) (by kernel_rfl) (fun _ _ _ h => h) (Or.inr ⟨by rfl, rfl⟩) (by assumption) ?_))
              try simp only [Act.put, List.setIfInBounds_toArray, List.set_cons_zero, List.set_cons_succ]
              (first | ((refine wpAnyH_take (i := 6) (oi := ⟨_, _, _, _, _, _⟩) (v := ?_) rfl (by kernel_rfl) (by kernel_rfl) (by kernel_rfl) (fun _ _ _ h => h) (Or.inl ⟨by rfl, ?_⟩) (by assumption) ?_); rotate_left; focus ((intro w hSw); (try dsimp only at hSw); go_simp; all_goals (with_reducible rfl))) | (refine wpAnyH_take (i := 6) (oi := ⟨_, _, _, _, _, _⟩) (v := undef) rfl (by kernel_rfl) (by kernel_rfl) (by kernel_rfl) (fun _ _ _ h => h) (Or.inr ⟨by rfl, rfl⟩) (by assumption) ?_))
              try simp only [Act.put, List.setIfInBounds_toArray, List.set_cons_zero, List.set_cons_succ]
              (first | ((refine wpAnyH_take (i := 7) (oi := ⟨_, _, _, _, _, _⟩) (v := ?_) rfl (by kernel_rfl) (by kernel_rfl) (by kernel_rfl) (fun _ _ _ h => h) (Or.inl ⟨by rfl, ?_⟩) (by assumption) ?_); rotate_left; focus ((intro w hSw); (try dsimp only at hSw); go_simp; all_goals (with_reducible rfl))) | (refine wpAnyH_take (i := 7) (oi := ⟨_, _, _, _, _, _⟩) (v := undef) rfl (by kernel_rfl) (by kernel_rfl) (by kernel_rfl) (fun _ _ _ h => h) (Or.inr ⟨by rfl, rfl⟩) (by assumption) ?_))
              try simp only [Act.put, List.setIfInBounds_toArray, List.set_cons_zero, List.set_cons_succ]
              (first | ((refine wpAnyH_take (i := 8) (oi := ⟨_, _, _, _, _, _⟩) (v := ?_) rfl (by kernel_rfl) (by kernel_rfl) (by kernel_rfl) (fun _ _ _ h => h) (Or.inl ⟨by rfl, ?_⟩) (by assumption) ?_); rotate_left; focus ((intro w hSw); (try dsimp only at hSw); go_simp; all_goals (with_reducible rfl))) | (refine wpAnyH_take (i := 8) (oi := ⟨_, _, _, _, _, _⟩) (v := undef) rfl (by kernel_rfl) (by kernel_rfl) (by kernel_rfl) (fun _ _ _ h => h) (Or.inr ⟨by rfl, rfl⟩) (by assumption) ?_))
              try simp only [Act.put, List.setIfInBounds_toArray, List.set_cons_zero, List.set_cons_succ]
              (first | ((refine wpAnyH_take (i := 9) (oi := ⟨_, _, _, _, _, _⟩) (v := ?_) rfl (by kernel_rfl) (by kernel_rfl) (by kernel_rfl) (fun _ _ _ h => h) (Or.inl ⟨by rfl, ?_⟩) (by assumption) ?_); rotate_left; focus ((intro w hSw); (try dsimp only at hSw); go_simp; all_goals (with_reducible rfl))) | (refine wpAnyH_take (i := 9) (oi := ⟨_, _, _, _, _, _⟩) (v := undef) rfl (by kernel_rfl) (by kernel_rfl) (by kernel_rfl) (fun _ _ _ h => h) (Or.inr ⟨by rfl, rfl⟩) (by assumption) ?_))
              try simp only [Act.put, List.setIfInBounds_toArray, List.set_cons_zero, List.set_cons_succ]
              (first | ((refine wpAnyH_take (i := 10) (oi := ⟨_, _, _, _, _, _⟩) (v := ?_) rfl (by kernel_rfl) (by kernel_rfl) (by kernel_rfl) (fun _ _ _ h => h) (Or.inl ⟨by rfl, ?_⟩) (by assumption) ?_); rotate_left; focus ((intro w hSw); (try dsimp only at hSw); go_simp; all_goals (with_reducible rfl))) | (refine wpAnyH_take (i := 10) (oi := ⟨_, _, _, _, _, _⟩) (v := undef) rfl (by kernel_rfl) (by kernel_rfl) (by kernel_rfl) (fun _ _ _ h => h) (Or.inr ⟨by rfl, rfl⟩) (by assumption) ?_))
              try simp only [Act.put, List.setIfInBounds_toArray, List.set_cons_zero, List.set_cons_succ]
              refine wpAnyH_ready (rs := [5]) (by kernel_rfl) (by simp) ?_
              refine AllReadyH.cons (o := ⟨_, _, _, _, _, _⟩) rfl (fun K hK => ?_) ?_
              · go_simp
                have ks := send_t HMd.out.two hk2 HFI.out HDd.out.slice
                rw [HSE.out, HM2.out] at ks
                have KS := Lib.hid ks
                clear ks
                (with_reducible refine KS.out.mono ?_)
                rintro e W1 ⟨rfl, oW1, hs1, hT1⟩
                go_wp2_with fail
                have he := HMd.out.end_ (l := 57) (by omega) (hs1.mono fun _ h => .inl h) hT1
                refine hK.out _ _ ⟨he.2.2.1.cell (L2_get _ hk2), mcell he.2.2.2.1 hk2⟩ (fun h1 => ?_)
                clear hK K
                have hd1 := HDd.out.step hs1 (by omega)
                have kr := rsend_any (k + 3) (mb k) (E k) (S k) (some ⟨ga, 0, none⟩) 2 m W1 oW1 (by omega) (he.2.1 k hk2) HOK.out hd1
                rw [HSE.out, HM2.out] at kr
                have KR := Lib.hid kr
                have HS1 := Lib.hid hs1
                have HT1 := Lib.hid hT1
                clear kr hd1 hs1 hT1 he KS
                try simp only [Act.put, List.setIfInBounds_toArray, List.set_cons_zero, List.set_cons_succ]
                refine wpAnyH_ready (rs := [11]) (by kernel_rfl) (by simp) ?_
                refine AllReadyH.cons (o := ⟨_, _, _, _, _, _⟩) rfl (fun K hK => ?_) ?_
                · go_simp
                  (with_reducible refine KR.out.mono ?_)
                  rintro e W2 ⟨rfl, oW2, hs2, hE2⟩
                  go_wp2_with fail
                  have hRW := HMd.out.both hk2 (l := 57) (l' := 57) (by omega) (by omega) (HS1.out.mono fun _ h => .inl h) HT1.out (hs2.mono fun _ h => .inl h) hE2
                  have HRW := Lib.hid hRW
                  refine hK.out _ _ ⟨hRW.es.cell (L2_get _ hk2), mcell hRW.ms hk2⟩ (fun h2 => ?_)
                  clear hK K hRW hs2 hE2
                  try simp only [Act.put, List.setIfInBounds_toArray, List.set_cons_zero, List.set_cons_succ]
                  (first | ((refine wpAnyH_take (i := 12) (oi := ⟨_, _, _, _, _, _⟩) (v := ?_) rfl (by kernel_rfl) (by kernel_rfl) (by kernel_rfl) (fun _ _ _ h => h) (Or.inl ⟨by rfl, ?_⟩) (by assumption) ?_); rotate_left; focus ((intro w hSw); (try dsimp only at hSw); go_simp; all_goals (with_reducible rfl))) | (refine wpAnyH_take (i := 12) (oi := ⟨_, _, _, _, _, _⟩) (v := undef) rfl (by kernel_rfl) (by kernel_rfl) (by kernel_rfl) (fun _ _ _ h => h) (Or.inr ⟨by rfl, rfl⟩) (by assumption) ?_))
                  try simp only [Act.put, List.setIfInBounds_toArray, List.set_cons_zero, List.set_cons_succ]
                  refine wpAnyH_done (by kernel_rfl) ?_ _
                  clear h0 h1 h2
                  go_wp2_with fail
                  go_meet
                  exact ⟨oW2, _, _, _, _, HSI.out, HRW.out⟩
                exact AllReadyH.nil
              exact AllReadyH.nil
          · as_aux_lemma =>
            have hc2 : (((s : Int) == 0) = false ∧ ((s : Int) == 1) = false) ∧ (((s : Int) == 2) = true ∨ (((s : Int) == 2) = false ∧ ((s : Int) == 3) = true)) := by
              rcases hcase with h | h
              · exact ⟨⟨by simp; omega, by simp; omega⟩, .inl (by simp; omega)⟩
              · exact ⟨⟨by simp; omega, by simp; omega⟩, .inr ⟨by simp; omega, by simp; omega⟩⟩
            clear hcase
            obtain ⟨⟨hc0, hc1⟩, hc2⟩ := hc2
            have HFI := Lib.hid (HI.out.fit k hk2)
            have HOK := Lib.hid (HI.out.ok k hk2)
            have HSM := Lib.hid (HI.out.small k hk2)
            have HRI := Lib.hid (HI.out.out (t := t) hk2 ht2)
            have hqm := HI.out.many
            have htm := HI.out.len
            have hl16 := outP_len16 (HI.out.fit k hk2).w2
            obtain ⟨P, hPP⟩ : ∃ P, outP (E k) = P := ⟨_, rfl⟩
            obtain ⟨L, hL⟩ : ∃ L, P.length = L := ⟨_, rfl⟩
            rw [hPP, hL] at hl16
            have HPP := Lib.hid hPP
            have HL := Lib.hid hL
            have HTM := Lib.hid htm
            clear hPP hL htm c1 HI
            have z1 : (k : Int) < 2 := by omega
            have z2 : (0 : Int) ≤ (k : Int) := by omega
            rcases hc2 with hc2 | ⟨hc2, hc4⟩
            all_goals
              go_wp2_with fail
              refine (out_t HM.out.two 57 (fun _ => 0) hk2 HFI.out (by omega) (by omega) (fun _ => .inl rfl) (fun _ => by omega)).mono ?_
              rintro e w4 ⟨vp, rfl, o4, hs4, hT4, hP⟩
              obtain ⟨pa, pc, rfl, hp1, hp2, -⟩ := hP.cells
              rw [HPP.out] at hP hp1 ⊢
              rw [HL.out] at hP hp1 ⊢
              have he := HM.out.end_ (l := 57) (by omega) hs4 hT4
              have c3' : w4.cell? ⟨mg, k, none⟩ = some (.pointer (some ⟨mb k, 0, none⟩)) := mcell he.2.2.2.1 hk2
              have kr := rout_any (k + 3) (mb k) (E k) (S k) w4 o4 58 (by omega) (he.2.1 k hk2) HOK.out (by unfold Own; omega) (by omega) HFI.out.w1 HFI.out.w2 (by have := HFI.out.got; omega) (fun m hm => by have := HSM.out m hm; omega)
              rw [HPP.out] at kr
              have KR := Lib.hid kr
              have HS4 := Lib.hid hs4
              have HT4 := Lib.hid hT4
              have HP := Lib.hid hP
              clear he kr hs4 hT4 hP c2 c3
              go_wp2_with fail
              refine KR.out.mono ?_
              rintro e w5 ⟨vq, rfl, o5, hs5, hE5, hQ⟩
              obtain ⟨qa, qc, rfl, hq1, hq2, -⟩ := hQ.cells
              rw [HL.out] at hQ hq1 ⊢
              have hRW := HM.out.both hk2 (l := 57) (l' := 58) (by omega) (by omega) HS4.out HT4.out hs5 hE5
              rw [upd_self S k] at hRW
              have hP5 := HP.out.step hs5 (by unfold Own; omega) (fun _ _ => by unfold Own; omega)
              have ksm := samep_any pa qa pc qc 57 58 (fun _ => 0) P w5 o5 (by rw [HL.out]; exact hP5) (by rw [HL.out]; exact hQ)
              rw [HL.out] at ksm
              have KSM := Lib.hid ksm
              have HM5 := Lib.hid hRW
              have HQ5 := Lib.hid hQ
              clear ksm hRW hP5 hQ hs5 hE5 HS4 HT4 HP HM KR c3' HOK HFI HSM
              go_wp2_with fail
              refine KSM.out.mono ?_
              rintro e w6 ⟨rfl, hb6⟩
              have hs6 : Step (fun _ => False) w5 o5 w6 o5 := Step.same hb6
              have HM6 := Lib.hid (HM5.out.step hs6 fun _ _ h => h)
              have HQ6 := Lib.hid (HQ5.out.step hs6 (fun h => h) (fun h => h))
              clear hs6 hb6 HM5 HQ5 KSM
              go_wp2_with fail
              go_loopw [10, 11, 18] (fun lv tv jv wr => ∃ (j : Nat) (o : Nat → Nat), j ≤ L ∧ jv = .int .i64 j ∧ Hid (RuW w wr o b mb (upd E k (outE (E k))) eb (.slice (some ⟨mg, 0, none⟩) 2 rc7) S lv tv (qs ++ P.take j) (ts ++ List.replicate j t)) ∧ Hid (RPRow wr o 58 (.slice qa L qc) P)) (fun _ _ jv _ => L - (intOf jv).toNat)
              case atStart => exact ⟨0, o5, by omega, rfl, by have h := HM6.out; unfold Hid; simpa using h, HQ6.out⟩
              case round =>
                clear HM6 HQ6
                obtain ⟨j, o, hj, rfl, HM, HP⟩ := hrel
                by_cases hjL : j < L
                · have hq : P[j]? = some (P[j]'(by rw [HL.out]; exact hjL)) := List.getElem?_eq_getElem _
                  obtain ⟨q, hqq⟩ : ∃ q, P[j]'(by rw [HL.out]; exact hjL) = q := ⟨_, rfl⟩
                  rw [hqq] at hq
                  obtain ⟨pg, ma, mc, rfl, -, -, e0, e1, e2, hd⟩ := HP.out.at hq
                  obtain ⟨ps, hr1, hr2⟩ := HM.out.link
                  obtain ⟨la, lc, rfl⟩ := hr1.form
                  have htd := HM.out.dest
                  obtain ⟨ta, tc, rfl⟩ := htd.form
                  have hl1 : (qs ++ P.take j).length = qs.length + j := by simp [HL.out]; omega
                  have hl2 : (ts ++ List.replicate j t).length = qs.length + j := by simp [HTM.out]
                  rw [hl1] at hr1 ⊢
                  rw [hl2] at htd ⊢
                  have HQ := Lib.hid hq
                  have HR1 := Lib.hid hr1
                  have HR2 := Lib.hid hr2
                  have HTD := Lib.hid htd
                  have HD := Lib.hid hd
                  have HL1 := Lib.hid hl1
                  have HL2 := Lib.hid hl2
                  clear hq hqq hr1 hr2 htd hd hl1 hl2
                  go_wp2_with (at_builtin; refine wpList_append_row rfl (.tmp 176) (.tmp 181) 30 rfl elemRP rfl HR1.out ((Below.refl _ wr).alloc (Nat.le_refl _) _) (some ⟨wr.heap.size, 0, none⟩) 1 1 [.int .i64 q.seq, .int .i64 q.ack, .slice ma q.b.length mc] rfl (row_new (cs := [.int .i64 q.seq, .int .i64 q.ack, .slice ma q.b.length mc]) (by simp) (by omega)) (by simp [Value.oneCell']) (by omega) (by omega) ?_)
                  intro v5 w5 hrow5 hs5
                  obtain ⟨a5, k5, rfl⟩ := hrow5.form
                  have htk : P.take (j + 1) = P.take j ++ [q] := by
                    rw [List.take_succ_eq_append_getElem (by rw [HL.out]; exact hjL)]
                    have := HQ.out
                    rw [List.getElem?_eq_getElem (by rw [HL.out]; exact hjL)] at this
                    rw [Option.some.inj this]
                  have hp5 : RPRow w5 (newLab wr o 55) 55 (.slice a5 (qs.length + j + 1) k5) (qs ++ P.take (j + 1)) := by
                    rw [htk, ← List.append_assoc]
                    refine ⟨ps ++ [(q.seq, q.ack, .slice ma q.b.length mc)], ?_, (HR2.out.step hs5 (by omega)).snoc (Msg.step ⟨_, _, rfl, HD.out⟩ hs5 (by omega))⟩
                    rw [pcells_snoc, List.length_append, HL1.out]
                    exact hrow5
                  have HM5 := Lib.hid (HM.out.setLink hs5 hp5)
                  have HP5 := Lib.hid (HP.out.step hs5 (by omega) (by omega))
                  have HTD5 := Lib.hid (RowL.step HTD.out hs5 (by omega))
                  clear htk hp5 hrow5 hs5 e0 e1 e2
                  go_wp2_with (at_builtin; refine wpList_append_row rfl (.tmp 183) (.tmp 186) 22 rfl elemI rfl HTD5.out ((Below.refl _ w5).alloc (Nat.le_refl _) _) (some ⟨w5.heap.size, 0, none⟩) 1 1 [.int .i64 (t : Int)] rfl (row_new (cs := [.int .i64 (t : Int)]) (by simp) (by omega)) (by simp [Value.oneCell']) (by omega) (by omega) ?_)
                  intro v6 w6 hrow6 hs6
                  obtain ⟨a6, k6, rfl⟩ := hrow6.form
                  have HM6 : Hid (RuW w w6 (newLab w5 (newLab wr o 55) 56) b mb (upd E k (outE (E k))) eb (.slice (some ⟨mg, 0, none⟩) 2 rc7) S (.slice a5 (qs.length + j + 1) k5) (.slice a6 (qs.length + j + 1) k6) (qs ++ P.take (j + 1)) (ts ++ List.replicate (j + 1) t)) := by
                    refine HM5.out.setDest hs6 ?_
                    rw [List.replicate_succ', ← List.append_assoc, List.length_append, HL2.out]
                    simp only [List.map_append, List.map_replicate, List.map_cons, List.map_nil, List.append_assoc, List.length_cons, List.length_nil, Nat.zero_add]
                    exact hrow6
                  have HP6 := Lib.hid (HP5.out.step hs6 (by omega) (by omega))
                  clear hrow6 hs6
                  go_wp2_with fail
                  go_roundw
                  case rel => first | exact ⟨j + 1, _, by omega, by go_num, HM6.out, HP6.out⟩ | ((repeat apply Exists.intro); refine ⟨?_, rfl⟩; exact ⟨j + 1, _, by omega, by go_num, HM6.out, HP6.out⟩)
                  case measure => simp [intOf]; omega
                · obtain rfl : j = L := by omega
                  have hOI := HRI.out
                  rw [HPP.out, HL.out] at hOI
                  have hMM := HM.out
                  rw [show P.take j = P from List.take_of_length_le (by rw [HL.out]; omega)] at hMM
                  have HOI := Lib.hid hOI
                  have HMM := Lib.hid hMM
                  clear hOI hMM
                  go_wp2_with fail
                  go_meet
                  exact ⟨o, _, _, _, _, HOI.out, HMM.out⟩
          · have hc0 : ((s : Int) == 0) = false := by simp; omega
            have hc1 : ((s : Int) == 1) = false := by simp; omega
            have hc2 : ((s : Int) == 2) = false := by simp; omega
            have hc3 : ((s : Int) == 3) = false := by simp; omega
            clear hcase
            by_cases hq0 : qs.length = 0
            · have hz : ((qs.length : Int) == 0) = true := by simpa using hq0
              obtain ⟨la, lc, hlv, -⟩ := HM.out.link.cells
              have HM1 := Lib.hid HM.out
              have HI1 := Lib.hid HI.out.mono
              subst hlv
              clear hq0
              go_wp2_with fail
              go_roundw
              case rel => first | exact ⟨i + 1, o, E, S, qs, ts, by omega, by omega, by go_num, HI1.out, HM1.out⟩ | ((repeat apply Exists.intro); refine ⟨?_, rfl⟩; exact ⟨i + 1, o, E, S, qs, ts, by omega, by omega, by go_num, HI1.out, HM1.out⟩)
              case measure => simp [intOf]; omega
            · have hz : ((qs.length : Int) == 0) = false := by simpa using hq0
              obtain ⟨la, lc, hlv, hlc, hlm, -⟩ := HM.out.link.cells
              obtain ⟨ta, tc, htv, htc, htm, htx, htg⟩ := RowL.cells HM.out.dest
              subst hlv
              subst htv
              obtain ⟨L, hL⟩ : ∃ L, qs.length = L := ⟨_, rfl⟩
              have hlen := HI.out.len
              have hmany := HI.out.many
              have hlL : ts.length = L := by rw [hlen, hL]
              have hMM := HM.out
              rw [hL, hlL] at hMM
              rw [hlen] at htg htc
              rw [hL] at hz hq0 hlc htc htg hmany
              rw [hL, hlL]
              clear c1
              go_upto_region 21 with fail
              go_cut [19] (fun s19 wx => Hid (∃ J : Nat, J < L ∧ s19 = .int .i64 J ∧ wx = wr))
              case first => as_aux_lemma =>
                have hL9 : L ≤ 1000 := by omega
                by_cases h20 : (20 : Int) < (L : Int)
                · obtain ⟨D, J, e1, e2, e3, e4⟩ := j_big N L h20 hL9
                  have E2 := Lib.hid e2
                  have E3 := Lib.hid e3
                  have E4 := Lib.hid e4
                  clear hL9 e2 e3 e4
                  go_wp2_with fail
                  go_meet
                  exact ⟨J, E4.out, by first | (rw [E2.out]; done) | rw [E2.out, E3.out], rfl⟩
                · obtain ⟨D, J, e1, e2, e3, e4⟩ := j_small N L (by omega) hL9
                  have E2 := Lib.hid e2
                  have E3 := Lib.hid e3
                  have E4 := Lib.hid e4
                  clear hL9 e2 e3 e4
                  go_wp2_with fail
                  go_meet
                  exact ⟨J, E4.out, by first | (rw [E2.out]; done) | rw [E2.out, E3.out], rfl⟩
              case rest =>
                obtain ⟨J, hJ, rfl, rfl⟩ := hcut.out
                obtain ⟨q, hq⟩ : ∃ q, qs[J]? = some q := ⟨_, List.getElem?_eq_getElem (by omega)⟩
                obtain ⟨t', ht'⟩ : ∃ t', ts[J]? = some t' := ⟨_, List.getElem?_eq_getElem (by omega)⟩
                have ht2' := HI.out.to2 J t' ht'
                obtain ⟨lg, ma, mc, rfl, -, -, e0, e1, e2, hd⟩ := hMM.link.at hq
                obtain ⟨tg, rfl, -⟩ := htg (by omega)
                have HQ := Lib.hid hq
                have HT := Lib.hid ht'
                have HD := Lib.hid hd
                clear hq ht' hd
                have zJ : (0 : Int) ≤ (J : Int) := by omega
                have zL : (J : Int) < (L : Int) := by omega
                obtain ⟨pb, hpb⟩ : ∃ pb, wc.heap.size = pb := ⟨_, rfl⟩
                have hsn : Step (fun _ => False) wc o (wc.alloc (.cells #[.int .i64 q.seq, .int .i64 q.ack, .slice ma q.b.length mc] 40)) (newLab wc o 59) := Step.below ((Below.refl _ _).alloc (Nat.le_refl _) _) fun k hk => newLab_old _ _ _ hk
                have HM0 := Lib.hid (hMM.step hsn (fun _ _ h => h))
                have HP0 : Hid (PkB (wc.alloc (.cells #[.int .i64 q.seq, .int .i64 q.ack, .slice ma q.b.length mc] 40)) (newLab wc o 59) pb) := by
                  refine ⟨q.seq, q.ack, q.b, ma, mc, ⟨40, ?_, ?_⟩, HD.out.step hsn (fun h => h)⟩
                  · rw [← hpb]; exact World.alloc_heap_new wc (.cells #[.int .i64 q.seq, .int .i64 q.ack, .slice ma q.b.length mc] 40)
                  · rw [← hpb]; exact newLab_new _ _ _ (Nat.le_refl _)
                have HPB := Lib.hid hpb
                clear hsn hMM HD HM c2 c3 hpb
                go_upto_region 23 with fail
                rw [HPB.out]
                obtain ⟨w0, hw0⟩ : ∃ x, wc.alloc (.cells #[.int .i64 q.seq, .int .i64 q.ack, .slice ma q.b.length mc] 40) = x := ⟨_, rfl⟩
                obtain ⟨o0, ho0⟩ : ∃ x, newLab wc o 59 = x := ⟨_, rfl⟩
                rw [hw0, ho0] at HM0 HP0
                rw [hw0]
                clear hw0 ho0 e0 e1 e2
                go_upto_if 91 with fail
                go_cut [] (fun wx => Hid (∃ ox, RuW w wx ox b mb E eb (.slice (some ⟨mg, 0, none⟩) 2 rc7) S (.slice (some ⟨lg, 0, none⟩) L lc) (.slice (some ⟨tg, 0, none⟩) L tc) qs ts ∧ PkB wx ox pb))
                case first => as_aux_lemma =>
                  generalize ((N : Int) % 41 == 0) = B
                  cases B
                  · go_wp2_with fail
                    go_meet
                    exact ⟨o0, HM0.out, HP0.out⟩
                  · obtain ⟨sq, ak, m, va, vc, hb, hd⟩ := HP0.out
                    have f1 := hb.cell (j := 0) rfl
                    have f2 := hb.frozen 0
                    have HB := Lib.hid hb
                    have HD := Lib.hid hd
                    clear hb hd
                    go_wp2_with fail
                    go_meet
                    exact ⟨o0, HM0.out.step (HB.out.setStep 0 _) (by omega), pk_seq HB.out HD.out _⟩
                case rest =>
                  obtain ⟨o1', hM1, hP1⟩ := hcut.out
                  have HM1 := Lib.hid hM1
                  have HP1 := Lib.hid hP1
                  clear hM1 hP1 hcut HM0 HP0
                  go_upto_if 98 with fail
                  go_cut [] (fun wx => Hid (∃ ox, RuW w wx ox b mb E eb (.slice (some ⟨mg, 0, none⟩) 2 rc7) S (.slice (some ⟨lg, 0, none⟩) L lc) (.slice (some ⟨tg, 0, none⟩) L tc) qs ts ∧ PkB wx ox pb))
                  case first => as_aux_lemma =>
                    generalize ((N : Int) % 43 == 0) = B
                    cases B
                    · go_wp2_with fail
                      go_meet
                      exact ⟨o1', HM1.out, HP1.out⟩
                    · obtain ⟨sq, ak, m, va, vc, hb, hd⟩ := HP1.out
                      have f1 := hb.cell (j := 1) rfl
                      have f2 := hb.frozen 1
                      have HB := Lib.hid hb
                      have HD := Lib.hid hd
                      clear hb hd
                      go_wp2_with fail
                      go_meet
                      exact ⟨o1', HM1.out.step (HB.out.setStep 1 _) (by omega), pk_ack HB.out HD.out _⟩
                  case rest =>
                    obtain ⟨o2', hM2, hP2⟩ := hcut.out
                    have HM2 := Lib.hid hM2
                    have HP2 := Lib.hid hP2
                    clear hM2 hP2 hcut HM1 HP1
                    go_upto_if 106 with fail
                    go_cut [] (fun wx => Hid (∃ ox, RuW w wx ox b mb E eb (.slice (some ⟨mg, 0, none⟩) 2 rc7) S (.slice (some ⟨lg, 0, none⟩) L lc) (.slice (some ⟨tg, 0, none⟩) L tc) qs ts ∧ PkB wx ox pb))
                    case first => as_aux_lemma =>
                      generalize ((N : Int) % 47 == 0) = B
                      cases B
                      · go_wp2_with fail
                        go_meet
                        exact ⟨o2', HM2.out, HP2.out⟩
                      · obtain ⟨sq, ak, m, va, vc, hb, hd⟩ := HP2.out
                        have f1 := hb.cell (j := 2) rfl
                        have f2 := hb.frozen 2
                        have HB := Lib.hid hb
                        have HD := Lib.hid hd
                        clear hb hd
                        clear f1 f2
                        go_wp2_with (at_builtin; refine wpList_append_src _ rfl (.tmp 107) (.tmp 108) 31 rfl elemB wc.heap.size _ 0 _ rfl (own5 wc) (some ⟨wc.heap.size + 1, 0, none⟩) 1 1 [.int .u8 5] rfl (row5 wc) one5 (by omega) (by omega) (by simp; omega) ?_)
                        intro v5 w5 hown5 hb5 _
                        have hB5 : Below wc.heap.size wc w5 := (((Below.refl _ wc).alloc (Nat.le_refl _) _).alloc (by simp) _).trans hb5
                        try simp only [Nat.zero_add, List.nil_append] at hown5
                        obtain ⟨g5, c5, rfl⟩ := ownsRow_succ hown5
                        have hs5 : Step (fun _ => False) wc o2' w5 (newLab wc o2' 0) := Step.below hB5 fun k hk => newLab_old _ _ _ hk
                        have hsl5 : SliceAt w5 (some ⟨g5, 0, none⟩) c5 ([(5 : UInt8)].map byteV) := own_at (L := [(5 : UInt8)]) hown5
                        have HB5 := Lib.hid (HB.out.step hs5 fun h => h)
                        have HD5 := Lib.hid (Dat.new (w := wc) (o := o2') (l := 0) hsl5 fun _ b off h => by simp at h; obtain ⟨rfl, rfl⟩ := h; exact (hown5.lt _ rfl).1)
                        have HM5 := Lib.hid (HM2.out.step hs5 fun _ _ h => h)
                        have f1 := HB5.out.cell (j := 2) rfl
                        have f2 := HB5.out.frozen 2
                        clear hown5 hb5 hB5 hs5 hsl5 HB HD
                        go_wp2_with fail
                        go_meet
                        exact ⟨_, HM5.out.step (HB5.out.setStep 2 _) (by omega), pk_b HB5.out HD5.out⟩
                    case rest =>
                      obtain ⟨o3', hM3, sq, ak, m, va, vc, hb3, hd3⟩ := hcut.out
                      have HM3 := Lib.hid hM3
                      have HB3 := Lib.hid hb3
                      have HD3 := Lib.hid hd3
                      clear hM3 hb3 hd3 hcut HM2 HP2
                      have HFI := Lib.hid (HI.out.fit t' ht2')
                      have HOK := Lib.hid (HI.out.ok t' ht2')
                      have HIO := Lib.hid (HI.out.inOk (by omega) ht2')
                      have HRI := Lib.hid (HI.out.inn ht2' ⟨sq, ak, m⟩)
                      have hsd : Step (fun _ => False) wc o3' wc.drew o3' := (Step.refl _ _ _).drew
                      have HMd := Lib.hid (HM3.out.step hsd (fun _ _ h => h))
                      have HBd := Lib.hid (HB3.out.step hsd fun h => h)
                      have HDd := Lib.hid (HD3.out.step hsd fun h => h)
                      have z1 : (t' : Int) < 2 := by omega
                      have z2 : (0 : Int) ≤ (t' : Int) := by omega
                      obtain ⟨ml, hml⟩ : ∃ ml, m.length = ml := ⟨_, rfl⟩
                      have HML := Lib.hid hml
                      obtain ⟨ms, hms⟩ : ∃ ms, inO (E t') ⟨sq, ak, m⟩ = ms := ⟨_, rfl⟩
                      have HMS := Lib.hid hms
                      have hS : Hid (∀ W oW E', Two w W oW b E' → Blk W oW 0 eb (L2 (ptrV b)) → RowL W oW 51 26 1 (.slice (some ⟨mg, 0, none⟩) 2 rc7) 2 (L2 (ptrV mb)) → RowL W oW 56 3 1 (.slice (some ⟨tg, 0, none⟩) L tc) ts.length (ts.map fun t : Nat => Value.int .i64 (t : Int)) → Blk W oW 59 pb [.int .i64 sq, .int .i64 ak, .slice va m.length vc] →
                          W.cell? ⟨eb, t', none⟩ = some (.pointer (some ⟨b t', 0, none⟩)) ∧ W.cell? ⟨mg, t', none⟩ = some (.pointer (some ⟨mb t', 0, none⟩)) ∧ W.cell? ⟨tg, J, none⟩ = some (.int .i64 (t' : Int)) ∧ W.cell? ⟨pb, 0, none⟩ = some (.int .i64 sq) ∧ W.cell? ⟨pb, 1, none⟩ = some (.int .i64 ak) ∧ W.cell? ⟨pb, 2, none⟩ = some (.slice va ml vc)) := by
                        intro W oW E' g1 g2 g3 g4 g5
                        refine ⟨g2.cell (L2_get _ ht2'), mcell g3 ht2', ?_, g5.cell rfl, g5.cell rfl, ?_⟩
                        · obtain ⟨a0, c0, he0, -, -, -, hx0⟩ := RowL.cells g4
                          simp only [Value.slice.injEq] at he0
                          obtain ⟨rfl, he1, rfl⟩ := he0
                          obtain ⟨g0, hg0, -, -, hc0, -⟩ := hx0 (by omega)
                          simp at hg0
                          subst hg0
                          exact hc0 J _ (by rw [List.getElem?_map, HT.out]; rfl)
                        · rw [← HML.out]; exact g5.cell rfl
                      clear hsd hml hms HM3 HB3 HD3 HI HQ
                      go_upto_region 29 with fail
                      refine wp_region_held_drew (S := fun W => W.cell? ⟨eb, t', none⟩ = some (.pointer (some ⟨b t', 0, none⟩)) ∧ W.cell? ⟨mg, t', none⟩ = some (.pointer (some ⟨mb t', 0, none⟩)) ∧ W.cell? ⟨tg, J, none⟩ = some (.int .i64 (t' : Int)) ∧ W.cell? ⟨pb, 0, none⟩ = some (.int .i64 sq) ∧ W.cell? ⟨pb, 1, none⟩ = some (.int .i64 ak) ∧ W.cell? ⟨pb, 2, none⟩ = some (.slice va ml vc)) (by kernel_rfl) (hS.out _ _ _ HMd.out.two HMd.out.es HMd.out.ms HMd.out.dest HBd.out) (fun h0 => ?_)
                      (first | ((refine wpAnyH_take (i := 0) (oi := ⟨_, _, _, _, _, _⟩) (v := ?_) rfl (by kernel_rfl) (by kernel_rfl) (by kernel_rfl) (fun _ _ _ h => h) (Or.inl ⟨by rfl, ?_⟩) (by assumption) ?_); rotate_left; focus ((intro w hSw); (try dsimp only at hSw); go_simp; all_goals (with_reducible rfl))) | (refine wpAnyH_take (i := 0) (oi := ⟨_, _, _, _, _, _⟩) (v := undef) rfl (by kernel_rfl) (by kernel_rfl) (by kernel_rfl) (fun _ _ _ h => h) (Or.inr ⟨by rfl, rfl⟩) (by assumption) ?_))
                      try simp only [Act.put, List.setIfInBounds_toArray, List.set_cons_zero, List.set_cons_succ]
                      (first | ((refine wpAnyH_take (i := 1) (oi := ⟨_, _, _, _, _, _⟩) (v := ?_) rfl (by kernel_rfl) (by kernel_rfl) (by kernel_rfl) (fun _ _ _ h => h) (Or.inl ⟨by rfl, ?_⟩) (by assumption) ?_); rotate_left; focus ((intro w hSw); (try dsimp only at hSw); go_simp; all_goals (with_reducible rfl))) | (refine wpAnyH_take (i := 1) (oi := ⟨_, _, _, _, _, _⟩) (v := undef) rfl (by kernel_rfl) (by kernel_rfl) (by kernel_rfl) (fun _ _ _ h => h) (Or.inr ⟨by rfl, rfl⟩) (by assumption) ?_))
                      try simp only [Act.put, List.setIfInBounds_toArray, List.set_cons_zero, List.set_cons_succ]
                      (first | ((refine wpAnyH_take (i := 2) (oi := ⟨_, _, _, _, _, _⟩) (v := ?_) rfl (by kernel_rfl) (by kernel_rfl) (by kernel_rfl) (fun _ _ _ h => h) (Or.inl ⟨by rfl, ?_⟩) (by assumption) ?_); rotate_left; focus ((intro w hSw); (try dsimp only at hSw); go_simp; all_goals (with_reducible rfl))) | (refine wpAnyH_take (i := 2) (oi := ⟨_, _, _, _, _, _⟩) (v := undef) rfl (by kernel_rfl) (by kernel_rfl) (by kernel_rfl) (fun _ _ _ h => h) (Or.inr ⟨by rfl, rfl⟩) (by assumption) ?_))
                      try simp only [Act.put, List.setIfInBounds_toArray, List.set_cons_zero, List.set_cons_succ]
                      (first | ((refine wpAnyH_take (i := 3) (oi := ⟨_, _, _, _, _, _⟩) (v := ?_) rfl (by kernel_rfl) (by kernel_rfl) (by kernel_rfl) (fun _ _ _ h => h) (Or.inl ⟨by rfl, ?_⟩) (by assumption) ?_); rotate_left; focus ((intro w hSw); (try dsimp only at hSw); go_simp; all_goals (with_reducible rfl))) | (refine wpAnyH_take (i := 3) (oi := ⟨_, _, _, _, _, _⟩) (v := undef) rfl (by kernel_rfl) (by kernel_rfl) (by kernel_rfl) (fun _ _ _ h => h) (Or.inr ⟨by rfl, rfl⟩) (by assumption) ?_))
                      try simp only [Act.put, List.setIfInBounds_toArray, List.set_cons_zero, List.set_cons_succ]
                      (first | ((refine wpAnyH_take (i := 4) (oi := ⟨_, _, _, _, _, _⟩) (v := ?_) rfl (by kernel_rfl) (by kernel_rfl) (by kernel_rfl) (fun _ _ _ h => h) (Or.inl ⟨by rfl, ?_⟩) (by assumption) ?_); rotate_left; focus ((intro w hSw); (try dsimp only at hSw); go_simp; all_goals (with_reducible rfl))) | (refine wpAnyH_take (i := 4) (oi := ⟨_, _, _, _, _, _⟩) (v := undef) rfl (by kernel_rfl) (by kernel_rfl) (by kernel_rfl) (fun _ _ _ h => h) (Or.inr ⟨by rfl, rfl⟩) (by assumption) ?_))
                      try simp only [Act.put, List.setIfInBounds_toArray, List.set_cons_zero, List.set_cons_succ]
                      (first | ((refine wpAnyH_take (i := 5) (oi := ⟨_, _, _, _, _, _⟩) (v := ?_) rfl (by kernel_rfl) (by kernel_rfl) (by kernel_rfl) (fun _ _ _ h => h) (Or.inl ⟨by rfl, ?_⟩) (by assumption) ?_); rotate_left; focus ((intro w hSw); (try dsimp only at hSw); go_simp; all_goals (with_reducible rfl))) | (refine wpAnyH_take (i := 5) (oi := ⟨_, _, _, _, _, _⟩) (v := undef) rfl (by kernel_rfl) (by kernel_rfl) (by kernel_rfl) (fun _ _ _ h => h) (Or.inr ⟨by rfl, rfl⟩) (by assumption) ?_))
                      try simp only [Act.put, List.setIfInBounds_toArray, List.set_cons_zero, List.set_cons_succ]
                      (first | ((refine wpAnyH_take (i := 6) (oi := ⟨_, _, _, _, _, _⟩) (v := ?_) rfl (by kernel_rfl) (by kernel_rfl) (by kernel_rfl) (fun _ _ _ h => h) (Or.inl ⟨by rfl, ?_⟩) (by assumption) ?_); rotate_left; focus ((intro w hSw); (try dsimp only at hSw); go_simp; all_goals (with_reducible rfl))) | (refine wpAnyH_take (i := 6) (oi := ⟨_, _, _, _, _, _⟩) (v := undef) rfl (by kernel_rfl) (by kernel_rfl) (by kernel_rfl) (fun _ _ _ h => h) (Or.inr ⟨by rfl, rfl⟩) (by assumption) ?_))
                      try simp only [Act.put, List.setIfInBounds_toArray, List.set_cons_zero, List.set_cons_succ]
                      (first | ((refine wpAnyH_take (i := 7) (oi := ⟨_, _, _, _, _, _⟩) (v := ?_) rfl (by kernel_rfl) (by kernel_rfl) (by kernel_rfl) (fun _ _ _ h => h) (Or.inl ⟨by rfl, ?_⟩) (by assumption) ?_); rotate_left; focus ((intro w hSw); (try dsimp only at hSw); go_simp; all_goals (with_reducible rfl))) | (refine wpAnyH_take (i := 7) (oi := ⟨_, _, _, _, _, _⟩) (v := undef) rfl (by kernel_rfl) (by kernel_rfl) (by kernel_rfl) (fun _ _ _ h => h) (Or.inr ⟨by rfl, rfl⟩) (by assumption) ?_))
                      try simp only [Act.put, List.setIfInBounds_toArray, List.set_cons_zero, List.set_cons_succ]
                      (first | ((refine wpAnyH_take (i := 10) (oi := ⟨_, _, _, _, _, _⟩) (v := ?_) rfl (by kernel_rfl) (by kernel_rfl) (by kernel_rfl) (fun _ _ _ h => h) (Or.inl ⟨by rfl, ?_⟩) (by assumption) ?_); rotate_left; focus ((intro w hSw); (try dsimp only at hSw); go_simp; all_goals (with_reducible rfl))) | (refine wpAnyH_take (i := 10) (oi := ⟨_, _, _, _, _, _⟩) (v := undef) rfl (by kernel_rfl) (by kernel_rfl) (by kernel_rfl) (fun _ _ _ h => h) (Or.inr ⟨by rfl, rfl⟩) (by assumption) ?_))
                      try simp only [Act.put, List.setIfInBounds_toArray, List.set_cons_zero, List.set_cons_succ]
                      (first | ((refine wpAnyH_take (i := 11) (oi := ⟨_, _, _, _, _, _⟩) (v := ?_) rfl (by kernel_rfl) (by kernel_rfl) (by kernel_rfl) (fun _ _ _ h => h) (Or.inl ⟨by rfl, ?_⟩) (by assumption) ?_); rotate_left; focus ((intro w hSw); (try dsimp only at hSw); go_simp; all_goals (with_reducible rfl))) | (refine wpAnyH_take (i := 11) (oi := ⟨_, _, _, _, _, _⟩) (v := undef) rfl (by kernel_rfl) (by kernel_rfl) (by kernel_rfl) (fun _ _ _ h => h) (Or.inr ⟨by rfl, rfl⟩) (by assumption) ?_))
                      try simp only [Act.put, List.setIfInBounds_toArray, List.set_cons_zero, List.set_cons_succ]
                      (first | ((refine wpAnyH_take (i := 12) (oi := ⟨_, _, _, _, _, _⟩) (v := ?_) rfl (by kernel_rfl) (by kernel_rfl) (by kernel_rfl) (fun _ _ _ h => h) (Or.inl ⟨by rfl, ?_⟩) (by assumption) ?_); rotate_left; focus ((intro w hSw); (try dsimp only at hSw); go_simp; all_goals (with_reducible rfl))) | (refine wpAnyH_take (i := 12) (oi := ⟨_, _, _, _, _, _⟩) (v := undef) rfl (by kernel_rfl) (by kernel_rfl) (by kernel_rfl) (fun _ _ _ h => h) (Or.inr ⟨by rfl, rfl⟩) (by assumption) ?_))
                      try simp only [Act.put, List.setIfInBounds_toArray, List.set_cons_zero, List.set_cons_succ]
                      (first | ((refine wpAnyH_take (i := 13) (oi := ⟨_, _, _, _, _, _⟩) (v := ?_) rfl (by kernel_rfl) (by kernel_rfl) (by kernel_rfl) (fun _ _ _ h => h) (Or.inl ⟨by rfl, ?_⟩) (by assumption) ?_); rotate_left; focus ((intro w hSw); (try dsimp only at hSw); go_simp; all_goals (with_reducible rfl))) | (refine wpAnyH_take (i := 13) (oi := ⟨_, _, _, _, _, _⟩) (v := undef) rfl (by kernel_rfl) (by kernel_rfl) (by kernel_rfl) (fun _ _ _ h => h) (Or.inr ⟨by rfl, rfl⟩) (by assumption) ?_))
                      try simp only [Act.put, List.setIfInBounds_toArray, List.set_cons_zero, List.set_cons_succ]
                      (first | ((refine wpAnyH_take (i := 14) (oi := ⟨_, _, _, _, _, _⟩) (v := ?_) rfl (by kernel_rfl) (by kernel_rfl) (by kernel_rfl) (fun _ _ _ h => h) (Or.inl ⟨by rfl, ?_⟩) (by assumption) ?_); rotate_left; focus ((intro w hSw); (try dsimp only at hSw); go_simp; all_goals (with_reducible rfl))) | (refine wpAnyH_take (i := 14) (oi := ⟨_, _, _, _, _, _⟩) (v := undef) rfl (by kernel_rfl) (by kernel_rfl) (by kernel_rfl) (fun _ _ _ h => h) (Or.inr ⟨by rfl, rfl⟩) (by assumption) ?_))
                      try simp only [Act.put, List.setIfInBounds_toArray, List.set_cons_zero, List.set_cons_succ]
                      (first | ((refine wpAnyH_take (i := 15) (oi := ⟨_, _, _, _, _, _⟩) (v := ?_) rfl (by kernel_rfl) (by kernel_rfl) (by kernel_rfl) (fun _ _ _ h => h) (Or.inl ⟨by rfl, ?_⟩) (by assumption) ?_); rotate_left; focus ((intro w hSw); (try dsimp only at hSw); go_simp; all_goals (with_reducible rfl))) | (refine wpAnyH_take (i := 15) (oi := ⟨_, _, _, _, _, _⟩) (v := undef) rfl (by kernel_rfl) (by kernel_rfl) (by kernel_rfl) (fun _ _ _ h => h) (Or.inr ⟨by rfl, rfl⟩) (by assumption) ?_))
                      try simp only [Act.put, List.setIfInBounds_toArray, List.set_cons_zero, List.set_cons_succ]
                      (first | ((refine wpAnyH_take (i := 16) (oi := ⟨_, _, _, _, _, _⟩) (v := ?_) rfl (by kernel_rfl) (by kernel_rfl) (by kernel_rfl) (fun _ _ _ h => h) (Or.inl ⟨by rfl, ?_⟩) (by assumption) ?_); rotate_left; focus ((intro w hSw); (try dsimp only at hSw); go_simp; all_goals (with_reducible rfl))) | (refine wpAnyH_take (i := 16) (oi := ⟨_, _, _, _, _, _⟩) (v := undef) rfl (by kernel_rfl) (by kernel_rfl) (by kernel_rfl) (fun _ _ _ h => h) (Or.inr ⟨by rfl, rfl⟩) (by assumption) ?_))
                      try simp only [Act.put, List.setIfInBounds_toArray, List.set_cons_zero, List.set_cons_succ]
                      (first | ((refine wpAnyH_take (i := 17) (oi := ⟨_, _, _, _, _, _⟩) (v := ?_) rfl (by kernel_rfl) (by kernel_rfl) (by kernel_rfl) (fun _ _ _ h => h) (Or.inl ⟨by rfl, ?_⟩) (by assumption) ?_); rotate_left; focus ((intro w hSw); (try dsimp only at hSw); go_simp; all_goals (with_reducible rfl))) | (refine wpAnyH_take (i := 17) (oi := ⟨_, _, _, _, _, _⟩) (v := undef) rfl (by kernel_rfl) (by kernel_rfl) (by kernel_rfl) (fun _ _ _ h => h) (Or.inr ⟨by rfl, rfl⟩) (by assumption) ?_))
                      try simp only [Act.put, List.setIfInBounds_toArray, List.set_cons_zero, List.set_cons_succ]
                      refine wpAnyH_ready (rs := [8]) (by kernel_rfl) (by simp) ?_
                      refine AllReadyH.cons (o := ⟨_, _, _, _, _, _⟩) rfl (fun K hK => ?_) ?_
                      · go_simp
                        (with_reducible refine (ofP_any sq ak va ml vc _).mono ?_)
                        rintro e W1 ⟨rfl, hb1⟩
                        go_wp2_with fail
                        have hs1 : Step (fun _ => False) wc.drew o3' W1 o3' := Step.same hb1
                        have HM1 := Lib.hid (HMd.out.step hs1 (fun _ _ h => h))
                        have HB1 := Lib.hid (HBd.out.step hs1 fun h => h)
                        have HD1 := Lib.hid (HDd.out.step hs1 fun h => h)
                        refine hK.out _ _ (hS.out _ _ _ HM1.out.two HM1.out.es HM1.out.ms HM1.out.dest HB1.out) (fun h1 => ?_)
                        clear hK K hs1 hb1 HMd HBd HDd
                        try simp only [Act.put, List.setIfInBounds_toArray, List.set_cons_zero, List.set_cons_succ]
                        refine wpAnyH_ready (rs := [9]) (by kernel_rfl) (by simp) ?_
                        refine AllReadyH.cons (o := ⟨_, _, _, _, _, _⟩) rfl (fun K hK => ?_) ?_
                        · go_simp
                          have ki := in_t HM1.out.two (k := t') ⟨sq, ak, m⟩ 0 57 ht2' HFI.out (by omega) HD1.out (.inl rfl) (by omega) (by omega)
                          rw [HML.out, HMS.out] at ki
                          have KI := Lib.hid ki
                          clear ki
                          (with_reducible refine KI.out.mono ?_)
                          rintro e W2 ⟨vp, rfl, oW2, hs2, hT2, hP2⟩
                          obtain ⟨pa, pc, rfl, -, -, -⟩ := hP2.cells
                          go_wp2_with fail
                          have he := HM1.out.end_ (l := 57) (by omega) hs2 hT2
                          have HB2 := Lib.hid (HB1.out.step hs2 (by omega))
                          have hd2 := HD1.out.step hs2 (by omega)
                          refine hK.out _ _ (hS.out _ _ _ hT2 he.2.2.1 he.2.2.2.1 he.2.2.2.2.2 HB2.out) (fun h2 => ?_)
                          clear hK K
                          have kr := rin_any (t' + 3) (mb t') (E t') (S t') sq ak m va vc 58 W2 oW2 (by omega) (he.2.1 t' ht2') HOK.out HIO.out hd2 (by unfold Own; omega) (by omega)
                          rw [HML.out, HMS.out] at kr
                          have KR := Lib.hid kr
                          have HS2 := Lib.hid hs2
                          have HT2 := Lib.hid hT2
                          have HP2 := Lib.hid hP2
                          clear kr hd2 hs2 hT2 hP2 he KI
                          try simp only [Act.put, List.setIfInBounds_toArray, List.set_cons_zero, List.set_cons_succ]
                          refine wpAnyH_ready (rs := [18]) (by kernel_rfl) (by simp) ?_
                          refine AllReadyH.cons (o := ⟨_, _, _, _, _, _⟩) rfl (fun K hK => ?_) ?_
                          · go_simp
                            (with_reducible refine KR.out.mono ?_)
                            rintro e W3 ⟨vq, rfl, oW3, hs3, hE3, hQ3⟩
                            obtain ⟨qa, qc, rfl, -, -, -⟩ := hQ3.cells
                            go_wp2_with fail
                            have hRW := HM1.out.both ht2' (l := 57) (l' := 58) (by omega) (by omega) HS2.out HT2.out hs3 hE3
                            rw [upd_self S t'] at hRW
                            have HRW := Lib.hid hRW
                            have HB3 := Lib.hid (HB2.out.step hs3 (by unfold Own; omega))
                            have hp3 := HP2.out.step hs3 (by unfold Own; omega) (by unfold Own; omega)
                            have ks := samel_any pa qa pc qc 57 58 ms W3 oW3 hp3 hQ3
                            have KS := Lib.hid ks
                            refine hK.out _ _ (hS.out _ _ _ hRW.two hRW.es hRW.ms hRW.dest HB3.out) (fun h3 => ?_)
                            clear hK K hRW hs3 hE3 hQ3 hp3 ks KR
                            try simp only [Act.put, List.setIfInBounds_toArray, List.set_cons_zero, List.set_cons_succ]
                            refine wpAnyH_ready (rs := [19]) (by kernel_rfl) (by simp) ?_
                            refine AllReadyH.cons (o := ⟨_, _, _, _, _, _⟩) rfl (fun K hK => ?_) ?_
                            · go_simp
                              (with_reducible refine KS.out.mono ?_)
                              rintro e W4 ⟨rfl, hb4⟩
                              go_wp2_with fail
                              have hs4 : Step (fun _ => False) W3 oW3 W4 oW3 := Step.same hb4
                              have HRW4 := Lib.hid (HRW.out.step hs4 (fun _ _ h => h))
                              refine hK.out _ _ (hS.out _ _ _ HRW4.out.two HRW4.out.es HRW4.out.ms HRW4.out.dest (HB3.out.step hs4 fun h => h)) (fun h4 => ?_)
                              clear hK K hs4 hb4 HRW
                              try simp only [Act.put, List.setIfInBounds_toArray, List.set_cons_zero, List.set_cons_succ]
                              (first | ((refine wpAnyH_take (i := 20) (oi := ⟨_, _, _, _, _, _⟩) (v := ?_) rfl (by kernel_rfl) (by kernel_rfl) (by kernel_rfl) (fun _ _ _ h => h) (Or.inl ⟨by rfl, ?_⟩) (by assumption) ?_); rotate_left; focus ((intro w hSw); (try dsimp only at hSw); go_simp; all_goals (with_reducible rfl))) | (refine wpAnyH_take (i := 20) (oi := ⟨_, _, _, _, _, _⟩) (v := undef) rfl (by kernel_rfl) (by kernel_rfl) (by kernel_rfl) (fun _ _ _ h => h) (Or.inr ⟨by rfl, rfl⟩) (by assumption) ?_))
                              try simp only [Act.put, List.setIfInBounds_toArray, List.set_cons_zero, List.set_cons_succ]
                              refine wpAnyH_done (by kernel_rfl) ?_ _
                              clear h0 h1 h2 h3 h4
                              go_wp2_with fail
                              go_meet
                              exact ⟨oW3, _, _, _, _, HRI.out, HRW4.out⟩
                            exact AllReadyH.nil
                          exact AllReadyH.nil
                        exact AllReadyH.nil
                      exact AllReadyH.nil
        case rest =>
          clear HI HM hkN hti
          obtain ⟨o, E, S, qs, ts, HI, HM⟩ := hcut
          go_wp2_with fail
          go_loopw [21] (fun jv wr => ∃ (j : Nat) (o : Nat → Nat), j ≤ 2 ∧ jv = .int .i64 j ∧ Hid (RuW w wr o b mb E eb (.slice (some ⟨mg, 0, none⟩) 2 rc7) S u10 u11 qs ts)) (fun jv _ => 2 - (intOf jv).toNat)
          case atStart => exact ⟨0, o, by omega, rfl, HM.out⟩
          case round =>
            clear HM
            obtain ⟨j, o, hj, rfl, HM⟩ := hrel
            by_cases hj2 : j < 2
            · have d3 : decide ((j : Int) < 2) = true := decide_eq_true (by omega)
              obtain ⟨sv, vs, hv, es, lh, hlh, h1, h2, h3, h5, h6⟩ := HM.out.md j hj2
              obtain ⟨sa, sc, rfl, _, hss⟩ := ownsRow_slice h2.1
              have hok := HI.out.ok j hj2
              have hnum := hok.num
              have hle := hok.le
              have hsz := HI.out.sz j hj2
              obtain ⟨sl, hsl⟩ : ∃ sl, (S j).length = sl := ⟨_, rfl⟩
              obtain ⟨wl, hwl⟩ : ∃ wl, (E j).waiting.length = wl := ⟨_, rfl⟩
              obtain ⟨al, hal⟩ : ∃ al, (E j).acked = al := ⟨_, rfl⟩
              have hvl : vs.length = sl := by rw [h3.1]; exact hsl
              have q3 : wr.cell? ⟨mb j, 1, none⟩ = some (.slice sa sl sc) := by have := h1.cell (j := 1) rfl; rw [hvl] at this; exact this
              have q4 : wr.cell? ⟨mb j, 2, none⟩ = some (.int .i64 (al : Int)) := by have := h1.cell (j := 2) rfl; rw [hal] at this; exact this
              rw [hsl, hwl, hal] at hnum
              rw [hsl, hal] at hle
              rw [hsl] at hsz
              have q1 : wr.cell? ⟨mg, j, none⟩ = some (.pointer (some ⟨mb j, 0, none⟩)) := mcell HM.out.ms hj2
              have q2 : wr.cell? ⟨eb, j, none⟩ = some (.pointer (some ⟨b j, 0, none⟩)) := HM.out.es.cell (L2_get _ hj2)
              have hsd : Step (fun _ => False) wr o wr.drew o := (Step.refl _ _ _).drew
              have HMd := Lib.hid (HM.out.step hsd (fun _ _ h => h))
              have k0 : Hid (Calls Try.prog 23 #[.pointer (some ⟨b j, 0, none⟩)] wr.drew fun e w'' => e = .returned (.int .i64 (wl : Int)) ∧ w'' = wr.drew) :=
                (waiting_t HMd.out.two (k := j) hj2).mono fun e w' ⟨h1, h2⟩ => ⟨by rw [h1, hwl], h2.symm⟩
              clear hsd h1 h2 h3 h5 h6 hss hok hsl hwl hal hvl
              go_upto_region 50 with fail
              have wr2 : (j : Int) < 2 := by omega
              have wr3 : (0 : Int) ≤ (j : Int) := by omega
              have wr6 : IntKind.i64.wrap ((sl : Int) - (al : Int)) = (wl : Int) := by rw [IntWalk.i64_in _ (by omega)]; omega
              refine wp_region_still_lit (by kernel_rfl) (by kernel_rfl) ?_
              repeat still_step
              still_call k0.out
              repeat still_step
              refine wpStill_nil ?_
              change Exit.then _ _ _ _ wr.drew
              obtain ⟨wd, hwd⟩ : ∃ wd, wd = wr.drew := ⟨_, rfl⟩
              rw [← hwd] at HMd ⊢
              clear hwd wr2 wr3 k0 q1 q2 q3 q4
              go_wp2_with fail
              go_roundw
              case rel => first | exact ⟨j + 1, o, by omega, by go_num, HMd.out⟩ | ((repeat apply Exists.intro); refine ⟨?_, rfl⟩; exact ⟨j + 1, o, by omega, by go_num, HMd.out⟩)
              case measure => simp [intOf]; omega
            · obtain rfl : j = 2 := by omega
              go_wp2_with fail
              go_roundw
              case rel => first | exact ⟨i + 1, o, E, S, qs, ts, by omega, by omega, by go_num, HI.out, HM.out⟩ | ((repeat apply Exists.intro); refine ⟨?_, rfl⟩; exact ⟨i + 1, o, E, S, qs, ts, by omega, by omega, by go_num, HI.out, HM.out⟩)
              case measure => simp [intOf]; omega
      · obtain rfl : i = 60 := by omega
        have d1 : decide ((60 : Int) < xs.length) = true := decide_eq_true (by omega)
        have hin' : (60 : Int) < xs.length := by omega
        go_wp2_with fail
        refine (lives_any wr).mono ?_
        rintro e w9 ⟨rfl, hb9⟩
        go_wp2_with fail
        go_ret
        exact ⟨rfl, HM.out.two.below.trans (hb9.mono HM.out.two.since.size)⟩
    · obtain rfl : i = xs.length := by omega
      go_wp2_with fail
      refine (lives_any wr).mono ?_
      rintro e w9 ⟨rfl, hb9⟩
      go_wp2_with fail
      go_ret
      exact ⟨rfl, HM.out.two.below.trans (hb9.mono HM.out.two.since.size)⟩
end Go.Proofs.Ytmonpnikdheokaa
