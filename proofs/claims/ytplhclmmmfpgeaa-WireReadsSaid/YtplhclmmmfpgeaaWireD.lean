/-
  The documented example of wire, which every law ends with.
-/
import Derived.Test.YtplhclmmmfpgeaaWireC
namespace Go.Proofs.Ytplhclmmmfpgeaa
open Go Go.Proofs
open Go.RowKit
set_option linter.unusedVariables false
set_option linter.unusedSimpArgs false

theorem wr_new (w : World) (o : Nat → Nat) (i t : Nat) : WrAt (w.alloc (.cells #[.slice none 0 0] t)) (newLab w o (10 * i)) i w.heap.size [] :=
  ⟨_, ⟨_, heap_alloc_new _ _, newLab_new _ _ _ (Nat.le_refl _)⟩, RowL.nil _ _ _ _ _⟩
theorem step_new (w : World) (o : Nat → Nat) (l : Nat) (ob : Obj) : Step (fun _ => False) w o (w.alloc ob) (newLab w o l) := Step.below ((Below.refl _ _).alloc (Nat.le_refl _) _) fun k hk => newLab_old _ _ _ hk
theorem enc300 : encU 300 = [172, 2] := by rw [encU_big (by omega), encU_small (by omega)]; rfl
theorem encm1 : encI (-1) = [1] := by unfold encI; rw [show zigN (-1) = 1 from rfl, encU_small (by omega)]; rfl
theorem encab : encR [97, 98] = [2, 97, 98] := by unfold encR; rw [encU_small (by simp)]; rfl
theorem exb : ((([] : List UInt8) ++ encU 300) ++ encI (-1)) ++ encR [97, 98] = [172, 2, 1, 2, 97, 98] := by rw [enc300, encm1, encab]; rfl
theorem exr1 : uintR ⟨[172, 2, 1, 2, 97, 98], 0⟩ = (300, ⟨[1, 2, 97, 98], 0⟩) := rfl
theorem exr2 : intR ⟨[1, 2, 97, 98], 0⟩ = (-1, ⟨[2, 97, 98], 0⟩) := rfl
theorem exr3 : rawR ⟨[2, 97, 98], 0⟩ = ([97, 98], ⟨[], 0⟩) := rfl
theorem exr4 : (intR ⟨[128, 0], 0⟩).2 = ⟨[], 2⟩ := rfl
theorem exr5 : endR ⟨[], 0⟩ = 0 := rfl
theorem exr6 : endR ⟨[], 2⟩ = 2 := rfl

set_option maxRecDepth 100000 in
set_option maxHeartbeats 4000000 in
theorem lives_any (w : World) : Calls Try.prog 17 #[] w fun e w' => e = .returned (.bool true) ∧ Below w.heap.size w w' := by
  go_enter Try.func17, Try.ntmps17
  go_wp2_with fail
  have T0 := Lib.hid ((step_new w (fun _ => 0) (10 * 1) (.cells #[.slice none 0 0] 26)).mono (L' := fun x => x ≠ 0) fun _ h => h.elim)
  refine (uint_any 1 w.heap.size 300 [] _ (newLab w (fun _ => 0) (10 * 1)) (by omega) (wr_new w _ 1 _) (by omega) (by simp)).mono ?_
  rintro e w1 ⟨rfl, o1, hs1, hw1⟩
  have T1 := Lib.hid (T0.out.trans (hs1.mono fun l h => by unfold Own at h; omega))
  have W1 := Lib.hid hw1
  clear hs1 hw1 T0
  go_wp2_with fail
  refine (int_any 1 w.heap.size (-1) _ w1 o1 (by omega) W1.out (by omega) (by omega) (by rw [enc300]; simp)).mono ?_
  rintro e w2 ⟨rfl, o2, hs2, hw2⟩
  have T2 := Lib.hid (T1.out.trans (hs2.mono fun l h => by unfold Own at h; omega))
  have W2 := Lib.hid hw2
  clear hs2 hw2 T1 W1
  go_wp2_with fail
  refine (text_any 1 w.heap.size ⟨#[97, 98]⟩ _ w2 o2 (by omega) W2.out (by rw [enc300, encm1]; simp) (by decide)).mono ?_
  rintro e w3 ⟨rfl, o3, hs3, hw3⟩
  have T3 := Lib.hid (T2.out.trans (hs3.mono fun l h => by unfold Own at h; omega))
  have W3 : Hid (WrAt w3 o3 1 w.heap.size [172, 2, 1, 2, 97, 98]) := by rw [← exb]; exact hw3
  clear hs3 hw3 T2 W2
  go_wp2_with fail
  refine (done_any 1 w.heap.size _ w3 o3 W3.out (by simp)).mono ?_
  rintro e w4 ⟨v, rfl, hown, hb⟩
  obtain ⟨ba, bc, rfl, hd4⟩ := Dat.ofRow (l := 0) (o := o3) (f := byteV) hown
  have hs4 : Step (fun _ => False) w3 o3 w4 (newLab w3 o3 0) := Step.below hb fun k hk => newLab_old _ _ _ hk
  obtain ⟨o4, ho4⟩ : ∃ o4, newLab w3 o3 0 = o4 := ⟨_, rfl⟩
  rw [ho4] at hd4 hs4
  have T4 := Lib.hid (T3.out.trans (hs4.mono fun l h => h.elim))
  have D4 := Lib.hid hd4
  clear hs4 hd4 hown hb ho4 T3 W3
  go_wp2_with fail
  refine (read_any 2 ba bc [172, 2, 1, 2, 97, 98] w4 o4 (by omega) D4.out.slice (by simp)).mono ?_
  rintro e w5 ⟨rb, rfl, o5, hs5, hr5⟩
  have T5 := Lib.hid (T4.out.trans (hs5.mono fun l h => by unfold Own at h; omega))
  have D5 := Lib.hid (D4.out.step hs5 (by unfold Own; omega))
  have R5 := Lib.hid hr5
  clear hs5 hr5 T4 D4
  go_wp2_with fail
  have s5 := step_new w5 o5 0 (.cells #[.int .u8 128, .int .u8 0] 5)
  have l5 : SliceAt (w5.alloc (.cells #[.int .u8 128, .int .u8 0] 5)) (some ⟨w5.heap.size, 0, none⟩) 2 (([128, 0] : List UInt8).map byteV) := slice_new (f := byteV) (xs := [128, 0]) (w := w5) (by simp)
  refine (read_any 3 (some ⟨w5.heap.size, 0, none⟩) 2 [128, 0] _ (newLab w5 o5 0) (by omega) l5 (by simp)).mono ?_
  rintro e w6 ⟨xb, rfl, o6, hs6, hr6⟩
  have s6 := (s5.mono (L' := Own 3) fun _ h => h.elim).trans hs6
  have T6 := Lib.hid (T5.out.trans (s6.mono fun l h => by unfold Own at h; omega))
  have D6 := Lib.hid (D5.out.step s6 (by unfold Own; omega))
  have R6 := Lib.hid (R5.out.step s6 (by unfold Own; omega) (fun l h => by unfold Own at *; omega))
  have X6 := Lib.hid hr6
  clear s5 l5 s6 hs6 hr6 T5 D5 R5
  go_wp2_with fail
  refine (ruint_any 2 rb _ w6 o6 (by omega) R6.out).mono ?_
  rw [exr1]
  rintro e w7 ⟨rfl, hs7, hr7⟩
  have T7 := Lib.hid (T6.out.trans (hs7.mono fun l h => by unfold Own at h; omega))
  have D7 := Lib.hid (D6.out.step hs7 (by unfold Own; omega))
  have X7 := Lib.hid (X6.out.step hs7 (by unfold Own; omega) (fun l h => by unfold Own at *; omega))
  have R7 := Lib.hid hr7
  clear hs7 hr7 T6 D6 X6 R6
  go_wp2_with fail
  refine (rint_any 2 rb _ w7 o6 (by omega) R7.out).mono ?_
  rw [exr2]
  rintro e w8 ⟨rfl, hs8, hr8⟩
  have T8 := Lib.hid (T7.out.trans (hs8.mono fun l h => by unfold Own at h; omega))
  have D8 := Lib.hid (D7.out.step hs8 (by unfold Own; omega))
  have X8 := Lib.hid (X7.out.step hs8 (by unfold Own; omega) (fun l h => by unfold Own at *; omega))
  have R8 := Lib.hid hr8
  clear hs8 hr8 T7 D7 X7 R7
  go_wp2_with fail
  refine (rtext_any 2 rb _ w8 o6 (by omega) R8.out (by simp)).mono ?_
  rw [exr3]
  rintro e w9 ⟨rfl, o9, hs9, hr9⟩
  have T9 := Lib.hid (T8.out.trans (hs9.mono fun l h => by unfold Own at h; omega))
  have D9 := Lib.hid (D8.out.step hs9 (by unfold Own; omega))
  have X9 := Lib.hid (X8.out.step hs9 (by unfold Own; omega) (fun l h => by unfold Own at *; omega))
  have R9 := Lib.hid hr9
  clear hs9 hr9 T8 D8 X8 R8
  go_wp2_with fail
  refine (rint_any 3 xb _ w9 o9 (by omega) X9.out).mono ?_
  rw [exr4]
  rintro e w10 ⟨rfl, hs10, hx10⟩
  have T10 := Lib.hid (T9.out.trans (hs10.mono fun l h => by unfold Own at h; omega))
  have D10 := Lib.hid (D9.out.step hs10 (by unfold Own; omega))
  have R10 := Lib.hid (R9.out.step hs10 (by unfold Own; omega) (fun l h => by unfold Own at *; omega))
  have X10 := Lib.hid hx10
  clear hs10 hx10 T9 D9 X9 R9
  go_wp2_with fail
  have s11 := step_new w10 o9 0 (.cells #[.int .u8 172, .int .u8 2, .int .u8 1, .int .u8 2, .int .u8 97, .int .u8 98] 5)
  have l11 : SliceAt (w10.alloc (.cells #[.int .u8 172, .int .u8 2, .int .u8 1, .int .u8 2, .int .u8 97, .int .u8 98] 5)) (some ⟨w10.heap.size, 0, none⟩) 6 (([172, 2, 1, 2, 97, 98] : List UInt8).map byteV) := slice_new (f := byteV) (xs := [172, 2, 1, 2, 97, 98]) (w := w10) (by simp)
  refine (sameBytes_any ba _ bc 6 [172, 2, 1, 2, 97, 98] [172, 2, 1, 2, 97, 98] _ (D10.out.step s11 (fun h => h)).slice l11).mono ?_
  rw [show decide (([172, 2, 1, 2, 97, 98] : List UInt8) = [172, 2, 1, 2, 97, 98]) = true from by decide]
  rintro e w11 ⟨rfl, hb11⟩
  have s12 : Step (fun _ => False) w10 o9 w11 (newLab w10 o9 0) := s11.trans (Step.same hb11)
  have T11 := Lib.hid (T10.out.trans (s12.mono fun l h => h.elim))
  have R11 := Lib.hid (R10.out.step s12 (fun h => h) (fun _ _ h => h))
  have X11 := Lib.hid (X10.out.step s12 (fun h => h) (fun _ _ h => h))
  clear s11 l11 s12 hb11 T10 R10 X10 D10
  go_wp2_with fail
  refine (rend_any 2 rb _ w11 _ R11.out).mono ?_
  rw [exr5]
  rintro e w12 ⟨rfl, rfl⟩
  go_wp2_with fail
  refine (rend_any 3 xb _ w11 _ X11.out).mono ?_
  rw [exr6]
  rintro e w12 ⟨rfl, rfl⟩
  go_wp2_with fail
  go_ret
  exact ⟨rfl, T11.out.toBelow (Nat.le_refl _) fun k _ h => h rfl⟩
end Go.Proofs.Ytplhclmmmfpgeaa
