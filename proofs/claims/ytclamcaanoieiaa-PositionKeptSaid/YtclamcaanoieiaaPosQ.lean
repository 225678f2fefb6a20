/-
  The walk of the law PositionKept.
-/
import Derived.Test.YtclamcaanoieiaaPosJ
import Derived.Test.YtclamcaanoieiaaRdEnc
import Derived.Test.YtclamcaanoieiaaHash
namespace Go.Proofs.Ytclamcaanoieiaa
open Go Go.Proofs
open Go.RowKit
set_option linter.unusedVariables false
set_option linter.unusedSimpArgs false

theorem wrK_new (w : World) (o : Nat → Nat) (i t : Nat) : WrAt (w.alloc (.cells #[.slice none 0 0] t)) (newLab w o (10 * i)) i w.heap.size [] :=
  ⟨_, ⟨_, heap_alloc_new _ _, newLab_new _ _ _ (Nat.le_refl _)⟩, RowL.nil _ _ _ _ _⟩
/-- A conversion to bytes, met in a drawn region. -/
theorem upon_bytes {P : Program} {o : Oper} {a : Act} {K : Act → World → Prop} {Q : Exit → Act → World → Prop} (d : Nat) (hd : o.dst = some d) {src dst e : TypeId} {s : ByteArray} (w : World) (hs : P.underlying src = some .string) (hdt : P.underlying dst = some (.slice e)) (he : P.underlying e = some (.int .u8)) (n : Nat) (hn : s.size = n) (hl : n ≤ 9223372036854775807)
    (h : ∀ ad c w', SliceAt w' ad c (s.data.toList.map byteV) → Below w.heap.size w w' → K (a.put (some d) (.slice ad n c)) w') : Oper.upon P o a K Q ((Sem.run P (convert src dst (.string s)) w).andThen fun a w' => Result.ok (Next.value a) w') := by
  subst hn
  obtain ⟨ad, c, w', hr, h1, h2⟩ := run_bytes_of (P := P) w s hs hdt he hl
  rw [hr]
  simp only [Result.andThen]
  rw [Oper.upon_value, hd]
  exact h ad c w' h1 h2
set_option maxRecDepth 100000 in
set_option maxHeartbeats 2000000 in
theorem positionKept_walk (a : Option Addr) (c : Nat) (xs : List Int) (at1 : Int) (w : World) (hx : SliceAt w a c (xs.map intV)) (hxb : ∀ n ∈ xs, -9223372036854775808 ≤ n ∧ n ≤ 9223372036854775807) (hat : -9223372036854775808 ≤ at1 ∧ at1 ≤ 9223372036854775807) :
    Calls Try.prog 11 #[.slice a xs.length c, .int .i64 at1] w fun e w' => e = .returned (.bool true) ∧ Below w.heap.size w w' := by
  go_enter Try.func11, Try.ntmps11
  go_wp2_with fail
  refine (text_b a c xs w hx hxb).mono ?_
  rintro e w1 ⟨rfl, hb1⟩
  have htl := textB_list xs
  have htsz := textB_size xs
  obtain ⟨t, ht⟩ : ∃ t, textB xs = t := ⟨_, rfl⟩
  obtain ⟨l, hl⟩ : ∃ l, t.data.toList = l := ⟨_, rfl⟩
  have hls : l.length = t.size := by rw [← hl]; rfl
  rw [ht] at htsz ⊢
  have HTL := Lib.hid hl
  have HX := Lib.hid hx
  have kb := rborders_any t w1 (by omega)
  rw [hl] at kb
  have KB := Lib.hid kb
  clear kb
  clear htl ht hx hxb hl
  go_wp2_with fail
  refine KB.out.mono ?_
  rintro e w2 ⟨v2, rfl, hown2, hb2⟩
  obtain ⟨a2, c2, rfl, hs2⟩ := ownsRow_sliceMap hown2
  have hbl := bord_len l 0
  have k0 := aroundI_lo at1 ((bordL l 0).length : Int) (by omega)
  have k1 := aroundI_hi at1 ((bordL l 0).length : Int) (by omega)
  have KA := Lib.hid (around_any at1 ((bordL l 0).length : Int) w2 (by omega) (by omega) hat.1 hat.2)
  generalize aroundI at1 ((bordL l 0).length : Int) = j at *
  obtain ⟨j, rfl⟩ : ∃ z : Nat, j = z := ⟨j.toNat, by omega⟩
  have hj : j < (bordL l 0).length := by omega
  obtain ⟨b2, off2, rfl⟩ := hs2.addr (by simp; omega)
  have f := hs2.natV hj
  have hkm := List.getElem_mem hj
  generalize (bordL l 0)[j] = k at f hkm
  have hkl := bord_ge hkm
  have hoff := off_at hkm
  obtain ⟨P, hP⟩ : ∃ P, atC l k = P := ⟨_, rfl⟩
  have he0 : P.2 = 0 := by rw [← hP, atC_border hkm]
  rw [hP] at hoff
  obtain ⟨⟨ln, un⟩, e0⟩ := P
  simp only at hoff he0
  subst he0
  have hun := unitsL_le l
  have hr1 : ln ≤ 1000 ∧ un ≤ 1000 := by
    obtain ⟨h1, h2, h3, h4⟩ := at_off hoff
    rw [atC_border h3] at h4
    simp only [Int.toNat_natCast, Prod.mk.injEq, and_true] at h4
    have h5 := lineIx_lt l k
    have h6 := linesL_len l
    have h7 := unitsL_le ((l.take k).drop ((linesL l).getD (lineIx l k) 0))
    simp only [List.length_drop, List.length_take] at h7
    omega
  have kt := at_any t (k : Int) w2 (by omega) (by omega) (by omega)
  rw [HTL.out, hP] at kt
  unfold posV at kt
  simp only at kt
  have KT := Lib.hid kt
  clear kt
  have hB2 := Below.step hb1 hb2
  have HOF := Lib.hid hoff
  have hkt : k ≤ t.size := by omega
  clear hP hkm hs2 hown2 KB hb1 hb2 hbl k0 k1 hun hoff
  go_wp2_with fail
  refine KA.out.mono ?_
  rintro e w9 ⟨rfl, rfl⟩
  go_wp2_with fail
  refine KT.out.mono ?_
  rintro e w3 ⟨rfl, hb3⟩
  have hB3 := Below.step hB2 hb3
  obtain ⟨w4, hw4⟩ : ∃ x, x = w3.alloc (.cells #[.int .i64 ln, .int .i64 un] 32) := ⟨_, rfl⟩
  obtain ⟨p0, p1, hb4⟩ := pos_new hw4
  have hB4 := Below.step hB3 hb4
  have W5 := wrK_new w4 (fun _ => 0) 1 56
  have hb5 : Below w4.heap.size w4 (w4.alloc (.cells #[.slice none 0 0] 56)) := (Below.refl _ w4).alloc (Nat.le_refl _) _
  have hB5 := Below.step hB4 hb5
  have p0 := Below.kept hb5 (Nat.le_refl _) p0
  have p1 := Below.kept hb5 (Nat.le_refl _) p1
  have q0 := kept_alloc p0
  have q1 := kept_alloc p1
  obtain ⟨w5, hw5⟩ : ∃ x, x = w4.alloc (.cells #[.slice none 0 0] 56) := ⟨_, rfl⟩
  rw [← hw5] at W5 p0 p1 hB5
  obtain ⟨o5, ho5⟩ : ∃ x, x = newLab w4 (fun _ => 0) (10 * 1) := ⟨_, rfl⟩
  have hl5 : ∀ k, k < w4.heap.size → o5 k = 0 := fun k hk => by rw [ho5]; exact newLab_old _ _ _ hk
  rw [← ho5] at W5
  have hz : w4.heap.size = w3.heap.size + 1 := by rw [hw4]; exact World.size_alloc _ _
  have W5' := W5
  rw [hz] at W5'
  have KW1 := Lib.hid (wtext_any 1 (w3.heap.size + 1) t [] w5 o5 (by omega) W5' (by simp) (by omega))
  have HW4 := Lib.hid hw4
  have HW5 := Lib.hid hw5
  have HL5 := Lib.hid hl5
  clear W5 W5' hz hw4 hw5 ho5 hl5 hb3 hb4 hb5 hB2 hB3 q0 q1
  clear f hkl
  go_wp2_with fail
  rw [← HW4.out, ← HW5.out]
  refine KW1.out.mono ?_
  rw [HTL.out, List.nil_append]
  rintro e w6 ⟨rfl, o6, hs6, hw6⟩
  have hno : ∀ k, k < w4.heap.size → ¬ Own 1 (o5 k) := fun k hk => by rw [HL5.out k hk]; exact Own.not0 (by omega)
  have hb46 : Below w4.heap.size w5 w6 := hs6.toBelow (n := w4.heap.size) (by rw [HW5.out]; simp) hno
  have hB6 := hB5.trans (hb46.mono hB4.size)
  have hz4 : w3.heap.size < w4.heap.size := by rw [HW4.out]; simp
  have p0 := (hb46.cell (p := ⟨w3.heap.size, 0, none⟩) hz4).trans p0
  have p1 := (hb46.cell (p := ⟨w3.heap.size, 1, none⟩) hz4).trans p1
  have hrl : (encR l).length ≤ 200 := by
    have h1 := encU_len10 (n := l.length) (by omega)
    unfold encR
    simp only [List.length_append]
    omega
  have hl6 : Hid (∀ k, k < w4.heap.size → o6 k = 0) := fun k hk => by rw [hs6.lab k (Nat.lt_of_lt_of_le hk (by rw [HW5.out]; simp)), HL5.out k hk]
  have hs45 : w4.heap.size ≤ w6.heap.size := Nat.le_trans (by rw [HW5.out]; simp) hs6.size
  have KI1 := Lib.hid (int_any 1 (w3.heap.size + 1) (ln : Int) (encR l) w6 o6 (by omega) hw6 (by omega) (by omega) (by omega))
  clear hs6 hw6
  go_wp2_with fail
  refine KI1.out.mono ?_
  rintro e w7 ⟨rfl, o7, hs7, hw7⟩
  have hno6 : ∀ k, k < w4.heap.size → ¬ Own 1 (o6 k) := fun k hk => by rw [hl6.out k hk]; exact Own.not0 (by omega)
  have hb67 : Below w4.heap.size w6 w7 := hs7.toBelow (n := w4.heap.size) hs45 hno6
  have p1 := (hb67.cell (p := ⟨w3.heap.size, 1, none⟩) hz4).trans p1
  have hB7 := hB6.trans (hb67.mono hB4.size)
  have hl7 : Hid (∀ k, k < w4.heap.size → o7 k = 0) := fun k hk => by rw [hs7.lab k (Nat.lt_of_lt_of_le hk hs45), hl6.out k hk]
  have hs47 : w4.heap.size ≤ w7.heap.size := Nat.le_trans hs45 hs7.size
  have hel := encI_len (ln : Int) (by omega) (by omega)
  have KI2 := Lib.hid (int_any 1 (w3.heap.size + 1) (un : Int) _ w7 o7 (by omega) hw7 (by omega) (by omega) (by simp only [List.length_append]; omega))
  clear hs7 hw7 hno6 hb67 hno hb46
  go_wp2_with fail
  refine KI2.out.mono ?_
  rintro e w8 ⟨rfl, o8, hs8, hw8⟩
  have hno7 : ∀ k, k < w4.heap.size → ¬ Own 1 (o7 k) := fun k hk => by rw [hl7.out k hk]; exact Own.not0 (by omega)
  have hb78 : Below w4.heap.size w7 w8 := hs8.toBelow (n := w4.heap.size) hs47 hno7
  have hB8 := hB7.trans (hb78.mono hB4.size)
  have heu := encI_len (un : Int) (by omega) (by omega)
  obtain ⟨E, hE⟩ : ∃ E, encR l ++ encI (ln : Int) ++ encI (un : Int) = E := ⟨_, rfl⟩
  have hEl : E.length ≤ 300 := by rw [← hE]; simp only [List.length_append]; omega
  rw [hE] at hw8
  have HE := Lib.hid hE
  have KD := Lib.hid (done_any 1 (w3.heap.size + 1) E w8 o8 hw8 (by omega))
  clear hs8 hw8 hno7 hb78 hE
  go_wp2_with fail
  refine KD.out.mono ?_
  rintro e w9 ⟨v9, rfl, hown9, hb9⟩
  obtain ⟨a9, c9, rfl, hs9⟩ := ownsRow_sliceMap hown9
  have hB9 := Below.step hB8 hb9
  have KR := Lib.hid (read_any 1 a9 c9 E w9 (fun _ => 0) (by omega) hs9 (by omega))
  clear hown9 hs9 hb9
  go_wp2_with fail
  refine KR.out.mono ?_
  rintro e w10 ⟨b, rfl, o10, hs10, hr10⟩
  have hB10 := hB9.trans (hs10.toBelow (n := w.heap.size) hB9.size fun k hk => Own.not0 (by omega))
  have e1 : rawR ⟨E, 0⟩ = (l, ⟨encI (ln : Int) ++ encI (un : Int), 0⟩) := by rw [← HE.out, List.append_assoc]; exact rawR_enc (by omega) _
  have kx := rtext_any 1 b ⟨E, 0⟩ w10 o10 (by omega) hr10 (by show E.length ≤ _; omega)
  rw [e1] at kx
  have ht2 : (⟨l.toArray⟩ : ByteArray) = t := by
    rw [← HTL.out]
  simp only at kx
  rw [ht2] at kx
  have KX := Lib.hid kx
  have HL10 : Hid (∀ k, k < w9.heap.size → o10 k = 0) := fun k hk => hs10.lab k hk
  have hs910 := hs10.size
  clear kx e1 ht2 hs10 hr10 KR KD
  go_wp2_with fail
  refine KX.out.mono ?_
  rintro e w11 ⟨rfl, o11, hs11, hr11⟩
  have hb11 : Below w9.heap.size w10 w11 := hs11.toBelow (n := w9.heap.size) hs910 fun k hk => by rw [HL10.out k hk]; exact Own.not0 (by omega)
  have hB11 := hB10.trans (hb11.mono hB9.size)
  have HL11 : Hid (∀ k, k < w9.heap.size → o11 k = 0) := fun k hk => by rw [hs11.lab k (Nat.lt_of_lt_of_le hk hs910)]; exact HL10.out k hk
  have hs911 := Nat.le_trans hs910 hs11.size
  have ki := rint_any 1 b _ w11 o11 (by omega) hr11
  rw [intR_enc (by omega) (by omega)] at ki
  have KI3 := Lib.hid ki
  clear ki hs11 hr11 hb11 KX HL10 hs910
  go_wp2_with fail
  refine KI3.out.mono ?_
  rintro e w12 ⟨rfl, hs12, hr12⟩
  have hb12 : Below w9.heap.size w11 w12 := hs12.toBelow (n := w9.heap.size) hs911 fun k hk => by rw [HL11.out k hk]; exact Own.not0 (by omega)
  have hB12 := hB11.trans (hb12.mono hB9.size)
  have hs912 := Nat.le_trans hs911 hs12.size
  have ki := rint_any 1 b _ w12 o11 (by omega) hr12
  rw [show encI (un : Int) = encI (un : Int) ++ [] from (List.append_nil _).symm, intR_enc (by omega) (by omega)] at ki
  have KI4 := Lib.hid ki
  clear ki hs12 hr12 hb12 KI3 hs911
  go_wp2_with fail
  refine KI4.out.mono ?_
  rintro e w13 ⟨rfl, hs13, hr13⟩
  have hb13 : Below w9.heap.size w12 w13 := hs13.toBelow (n := w9.heap.size) hs912 fun k hk => by rw [HL11.out k hk]; exact Own.not0 (by omega)
  have hB13 := hB12.trans (hb13.mono hB9.size)
  obtain ⟨w14, hw14⟩ : ∃ x, x = w13.alloc (.cells #[.int .i64 ln, .int .i64 un] 32) := ⟨_, rfl⟩
  obtain ⟨r0, r1, hb14⟩ := pos_new hw14
  have hB14 := Below.step hB13 hb14
  have HR14 := Lib.hid (hr13.step (Step.same (L := fun _ => False) (o := o11) hb14) (fun h => h) (fun _ _ h => h))
  have KO := Lib.hid (fun W => offset_eq t (ln : Int) (un : Int) W (by omega) (by omega) (by omega) (by omega) (by omega) (o := k) (e0 := 0) (by rw [HTL.out]; exact HOF.out))
  have HW14 := Lib.hid hw14
  clear hw14 hs13 hr13 hb13 hb14 KI4 hs912 r0 r1
  go_wp2_with fail
  rw [← HW14.out]
  refine (KO.out w14).mono ?_
  rintro e w15 ⟨rfl, hb15⟩
  have hB15 := Below.step hB14 hb15
  have KE := Lib.hid (rend_any 1 b _ w15 o11 (HR14.out.step (Step.same (L := fun _ => False) (o := o11) hb15) (fun h => h) (fun _ _ h => h)))
  clear hb15 HR14 KO
  go_wp2_with fail
  refine KE.out.mono ?_
  rintro e w16 ⟨rfl, rfl⟩
  rw [show endR ⟨[], 0⟩ = 0 from rfl]
  have d1 : decide ((k : Int) < 0) = false := decide_eq_false (by omega)
  have d2 : decide ((t.size : Int) < (k : Int)) = false := decide_eq_false (by omega)
  have d2' : decide (t.size < k) = false := decide_eq_false (by omega)
  have d3 : ((k : Int) == (k : Int)) = true := by simp
  have e1 : 0 ≤ (k : Int) := by omega
  have e2 : (k : Int) ≤ (t.size : Int) := by omega
  obtain ⟨tk, htk⟩ : ∃ x, x = t.extract 0 k := ⟨_, rfl⟩
  have htks : tk.size ≤ 300 := by rw [htk]; have := size_extract0 t k; omega
  go_upto_region 17 with fail
  have KH := Lib.hid fun W ad c (h : SliceAt W ad c ((t.extract 0 k).data.toList.map byteV)) => bytes_any ⟨#[116, 101, 120, 116]⟩ ad c (t.extract 0 k).data.toList W (by decide) h (by show (t.extract 0 k).size ≤ _; have := size_extract0 t k; omega)
  have hek : (t.extract 0 k).data.toList.length = k := by show (t.extract 0 k).size = k; rw [ByteArray.size_extract]; omega
  have hes : (t.extract 0 k).size = k := by rw [ByteArray.size_extract]; omega
  rw [hek] at KH
  have HES := Lib.hid hes
  clear hek hes htks htk
  -- REGION BY PROGRAM
  refine wp_region_held_drew (S := fun W => Below w15.heap.size w15 W) (by kernel_rfl) (Below.drew (Below.refl _ _)) (fun h0 => ?_)
  (first | ((refine wpAnyH_take (i := 0) (oi := ⟨_, _, _, _, _, _⟩) (v := ?_) rfl (by kernel_rfl) (by kernel_rfl) (by kernel_rfl) (fun _ _ _ h => h) (Or.inl ⟨by rfl, ?_⟩) (by assumption) ?_); rotate_left; focus ((intro w hSw); (try dsimp only at hSw); go_simp; all_goals (with_reducible rfl))) | (refine wpAnyH_take (i := 0) (oi := ⟨_, _, _, _, _, _⟩) (v := undef) rfl (by kernel_rfl) (by kernel_rfl) (by kernel_rfl) (fun _ _ _ h => h) (Or.inr ⟨by rfl, rfl⟩) (by assumption) ?_))
  try simp only [Act.put, List.setIfInBounds_toArray, List.set_cons_zero, List.set_cons_succ]
  (first | ((refine wpAnyH_take (i := 1) (oi := ⟨_, _, _, _, _, _⟩) (v := ?_) rfl (by kernel_rfl) (by kernel_rfl) (by kernel_rfl) (fun _ _ _ h => h) (Or.inl ⟨by rfl, ?_⟩) (by assumption) ?_); rotate_left; focus ((intro w hSw); (try dsimp only at hSw); go_simp; all_goals (with_reducible rfl))) | (refine wpAnyH_take (i := 1) (oi := ⟨_, _, _, _, _, _⟩) (v := undef) rfl (by kernel_rfl) (by kernel_rfl) (by kernel_rfl) (fun _ _ _ h => h) (Or.inr ⟨by rfl, rfl⟩) (by assumption) ?_))
  try simp only [Act.put, List.setIfInBounds_toArray, List.set_cons_zero, List.set_cons_succ]
  (first | ((refine wpAnyH_take (i := 2) (oi := ⟨_, _, _, _, _, _⟩) (v := ?_) rfl (by kernel_rfl) (by kernel_rfl) (by kernel_rfl) (fun _ _ _ h => h) (Or.inl ⟨by rfl, ?_⟩) (by assumption) ?_); rotate_left; focus ((intro w hSw); (try dsimp only at hSw); go_simp; all_goals (with_reducible rfl))) | (refine wpAnyH_take (i := 2) (oi := ⟨_, _, _, _, _, _⟩) (v := undef) rfl (by kernel_rfl) (by kernel_rfl) (by kernel_rfl) (fun _ _ _ h => h) (Or.inr ⟨by rfl, rfl⟩) (by assumption) ?_))
  try simp only [Act.put, List.setIfInBounds_toArray, List.set_cons_zero, List.set_cons_succ]
  (first | ((refine wpAnyH_take (i := 3) (oi := ⟨_, _, _, _, _, _⟩) (v := ?_) rfl (by kernel_rfl) (by kernel_rfl) (by kernel_rfl) (fun _ _ _ h => h) (Or.inl ⟨by rfl, ?_⟩) (by assumption) ?_); rotate_left; focus ((intro w hSw); (try dsimp only at hSw); go_simp; all_goals (with_reducible rfl))) | (refine wpAnyH_take (i := 3) (oi := ⟨_, _, _, _, _, _⟩) (v := undef) rfl (by kernel_rfl) (by kernel_rfl) (by kernel_rfl) (fun _ _ _ h => h) (Or.inr ⟨by rfl, rfl⟩) (by assumption) ?_))
  try simp only [Act.put, List.setIfInBounds_toArray, List.set_cons_zero, List.set_cons_succ]
  (first | ((refine wpAnyH_take (i := 4) (oi := ⟨_, _, _, _, _, _⟩) (v := ?_) rfl (by kernel_rfl) (by kernel_rfl) (by kernel_rfl) (fun _ _ _ h => h) (Or.inl ⟨by rfl, ?_⟩) (by assumption) ?_); rotate_left; focus ((intro w hSw); (try dsimp only at hSw); go_simp; all_goals (with_reducible rfl))) | (refine wpAnyH_take (i := 4) (oi := ⟨_, _, _, _, _, _⟩) (v := undef) rfl (by kernel_rfl) (by kernel_rfl) (by kernel_rfl) (fun _ _ _ h => h) (Or.inr ⟨by rfl, rfl⟩) (by assumption) ?_))
  try simp only [Act.put, List.setIfInBounds_toArray, List.set_cons_zero, List.set_cons_succ]
  (first | ((refine wpAnyH_take (i := 5) (oi := ⟨_, _, _, _, _, _⟩) (v := ?_) rfl (by kernel_rfl) (by kernel_rfl) (by kernel_rfl) (fun _ _ _ h => h) (Or.inl ⟨by rfl, ?_⟩) (by assumption) ?_); rotate_left; focus ((intro w hSw); (try dsimp only at hSw); go_simp; all_goals (with_reducible rfl))) | (refine wpAnyH_take (i := 5) (oi := ⟨_, _, _, _, _, _⟩) (v := undef) rfl (by kernel_rfl) (by kernel_rfl) (by kernel_rfl) (fun _ _ _ h => h) (Or.inr ⟨by rfl, rfl⟩) (by assumption) ?_))
  try simp only [Act.put, List.setIfInBounds_toArray, List.set_cons_zero, List.set_cons_succ]
  (first | ((refine wpAnyH_take (i := 6) (oi := ⟨_, _, _, _, _, _⟩) (v := ?_) rfl (by kernel_rfl) (by kernel_rfl) (by kernel_rfl) (fun _ _ _ h => h) (Or.inl ⟨by rfl, ?_⟩) (by assumption) ?_); rotate_left; focus ((intro w hSw); (try dsimp only at hSw); go_simp; all_goals (with_reducible rfl))) | (refine wpAnyH_take (i := 6) (oi := ⟨_, _, _, _, _, _⟩) (v := undef) rfl (by kernel_rfl) (by kernel_rfl) (by kernel_rfl) (fun _ _ _ h => h) (Or.inr ⟨by rfl, rfl⟩) (by assumption) ?_))
  try simp only [Act.put, List.setIfInBounds_toArray, List.set_cons_zero, List.set_cons_succ]
  (first | ((refine wpAnyH_take (i := 9) (oi := ⟨_, _, _, _, _, _⟩) (v := ?_) rfl (by kernel_rfl) (by kernel_rfl) (by kernel_rfl) (fun _ _ _ h => h) (Or.inl ⟨by rfl, ?_⟩) (by assumption) ?_); rotate_left; focus ((intro w hSw); (try dsimp only at hSw); go_simp; all_goals (with_reducible rfl))) | (refine wpAnyH_take (i := 9) (oi := ⟨_, _, _, _, _, _⟩) (v := undef) rfl (by kernel_rfl) (by kernel_rfl) (by kernel_rfl) (fun _ _ _ h => h) (Or.inr ⟨by rfl, rfl⟩) (by assumption) ?_))
  try simp only [Act.put, List.setIfInBounds_toArray, List.set_cons_zero, List.set_cons_succ]
  (first | ((refine wpAnyH_take (i := 10) (oi := ⟨_, _, _, _, _, _⟩) (v := ?_) rfl (by kernel_rfl) (by kernel_rfl) (by kernel_rfl) (fun _ _ _ h => h) (Or.inl ⟨by rfl, ?_⟩) (by assumption) ?_); rotate_left; focus ((intro w hSw); (try dsimp only at hSw); go_simp; all_goals (with_reducible rfl))) | (refine wpAnyH_take (i := 10) (oi := ⟨_, _, _, _, _, _⟩) (v := undef) rfl (by kernel_rfl) (by kernel_rfl) (by kernel_rfl) (fun _ _ _ h => h) (Or.inr ⟨by rfl, rfl⟩) (by assumption) ?_))
  try simp only [Act.put, List.setIfInBounds_toArray, List.set_cons_zero, List.set_cons_succ]
  (first | ((refine wpAnyH_take (i := 11) (oi := ⟨_, _, _, _, _, _⟩) (v := ?_) rfl (by kernel_rfl) (by kernel_rfl) (by kernel_rfl) (fun _ _ _ h => h) (Or.inl ⟨by rfl, ?_⟩) (by assumption) ?_); rotate_left; focus ((intro w hSw); (try dsimp only at hSw); go_simp; all_goals (with_reducible rfl))) | (refine wpAnyH_take (i := 11) (oi := ⟨_, _, _, _, _, _⟩) (v := undef) rfl (by kernel_rfl) (by kernel_rfl) (by kernel_rfl) (fun _ _ _ h => h) (Or.inr ⟨by rfl, rfl⟩) (by assumption) ?_))
  try simp only [Act.put, List.setIfInBounds_toArray, List.set_cons_zero, List.set_cons_succ]
  refine wpAnyH_ready (rs := [7, 12]) (by kernel_rfl) (by simp) ?_
  refine AllReadyH.cons (o := ⟨_, _, _, _, _, _⟩) rfl (fun K hK => ?_) ?_
  · go_simp
    refine upon_bytes 91 rfl _ Try.underlying9 Try.underlying54 Try.underlying5 k HES.out (by omega) ?_
    rintro ad1 cc1 w1 hA hbb
    (try have hB := hB.below hbb)
    refine hK.out _ _ (Below.step h0 hbb) (fun h1 => ?_)
    clear hK K
    try simp only [Act.put, List.setIfInBounds_toArray, List.set_cons_zero, List.set_cons_succ]
    refine wpAnyH_ready (rs := [8, 12]) (by kernel_rfl) (by simp) ?_
    refine AllReadyH.cons (o := ⟨_, _, _, _, _, _⟩) rfl (fun K hK => ?_) ?_
    · go_simp
      (with_reducible refine (KH.out _ _ _ hA).mono ?_)
      rintro e w' ⟨rfl, hbb⟩
      (try have hA := hA.below hbb); (try have hB := hB.below hbb)
      go_wp2_with fail
      refine hK.out _ _ (Below.step h1 hbb) (fun h2 => ?_)
      clear hK K
      try simp only [Act.put, List.setIfInBounds_toArray, List.set_cons_zero, List.set_cons_succ]
      refine wpAnyH_ready (rs := [12]) (by kernel_rfl) (by simp) ?_
      refine AllReadyH.cons (o := ⟨_, _, _, _, _, _⟩) rfl (fun K hK => ?_) ?_
      · go_simp
        refine upon_bytes 96 rfl _ Try.underlying9 Try.underlying54 Try.underlying5 k HES.out (by omega) ?_
        rintro ad2 cc2 w2 hB hbb
        (try have hA := hA.below hbb)
        refine hK.out _ _ (Below.step h2 hbb) (fun h3 => ?_)
        clear hK K
        try simp only [Act.put, List.setIfInBounds_toArray, List.set_cons_zero, List.set_cons_succ]
        refine wpAnyH_ready (rs := [13]) (by kernel_rfl) (by simp) ?_
        refine AllReadyH.cons (o := ⟨_, _, _, _, _, _⟩) rfl (fun K hK => ?_) ?_
        · go_simp
          (with_reducible refine (KH.out _ _ _ hB).mono ?_)
          rintro e w' ⟨rfl, hbb⟩
          (try have hA := hA.below hbb); (try have hB := hB.below hbb)
          go_wp2_with fail
          refine hK.out _ _ (Below.step h3 hbb) (fun h4 => ?_)
          clear hK K
          try simp only [Act.put, List.setIfInBounds_toArray, List.set_cons_zero, List.set_cons_succ]
          (first | ((refine wpAnyH_take (i := 14) (oi := ⟨_, _, _, _, _, _⟩) (v := ?_) rfl (by kernel_rfl) (by kernel_rfl) (by kernel_rfl) (fun _ _ _ h => h) (Or.inl ⟨by rfl, ?_⟩) (by assumption) ?_); rotate_left; focus ((intro w hSw); (try dsimp only at hSw); go_simp; all_goals (with_reducible rfl))) | (refine wpAnyH_take (i := 14) (oi := ⟨_, _, _, _, _, _⟩) (v := undef) rfl (by kernel_rfl) (by kernel_rfl) (by kernel_rfl) (fun _ _ _ h => h) (Or.inr ⟨by rfl, rfl⟩) (by assumption) ?_))
          try simp only [Act.put, List.setIfInBounds_toArray, List.set_cons_zero, List.set_cons_succ]
          (first | ((refine wpAnyH_take (i := 15) (oi := ⟨_, _, _, _, _, _⟩) (v := ?_) rfl (by kernel_rfl) (by kernel_rfl) (by kernel_rfl) (fun _ _ _ h => h) (Or.inl ⟨by rfl, ?_⟩) (by assumption) ?_); rotate_left; focus ((intro w hSw); (try dsimp only at hSw); go_simp; all_goals (with_reducible rfl))) | (refine wpAnyH_take (i := 15) (oi := ⟨_, _, _, _, _, _⟩) (v := undef) rfl (by kernel_rfl) (by kernel_rfl) (by kernel_rfl) (fun _ _ _ h => h) (Or.inr ⟨by rfl, rfl⟩) (by assumption) ?_))
          try simp only [Act.put, List.setIfInBounds_toArray, List.set_cons_zero, List.set_cons_succ]
          (first | ((refine wpAnyH_take (i := 16) (oi := ⟨_, _, _, _, _, _⟩) (v := ?_) rfl (by kernel_rfl) (by kernel_rfl) (by kernel_rfl) (fun _ _ _ h => h) (Or.inl ⟨by rfl, ?_⟩) (by assumption) ?_); rotate_left; focus ((intro w hSw); (try dsimp only at hSw); go_simp; all_goals (with_reducible rfl))) | (refine wpAnyH_take (i := 16) (oi := ⟨_, _, _, _, _, _⟩) (v := undef) rfl (by kernel_rfl) (by kernel_rfl) (by kernel_rfl) (fun _ _ _ h => h) (Or.inr ⟨by rfl, rfl⟩) (by assumption) ?_))
          try simp only [Act.put, List.setIfInBounds_toArray, List.set_cons_zero, List.set_cons_succ]
          refine wpAnyH_ready (rs := [17]) (by kernel_rfl) (by simp) ?_
          refine AllReadyH.cons (o := ⟨_, _, _, _, _, _⟩) rfl (fun K hK => ?_) ?_
          · go_simp
            (with_reducible refine (lives_any _).mono ?_)
            rintro e w' ⟨rfl, hbb⟩
            go_wp2_with fail
            refine hK.out _ _ (Below.step h4 hbb) (fun h5 => ?_)
            clear hK K
            try simp only [Act.put, List.setIfInBounds_toArray, List.set_cons_zero, List.set_cons_succ]
            (first | ((refine wpAnyH_take (i := 18) (oi := ⟨_, _, _, _, _, _⟩) (v := ?_) rfl (by kernel_rfl) (by kernel_rfl) (by kernel_rfl) (fun _ _ _ h => h) (Or.inl ⟨by rfl, ?_⟩) (by assumption) ?_); rotate_left; focus ((intro w hSw); (try dsimp only at hSw); go_simp; all_goals (with_reducible rfl))) | (refine wpAnyH_take (i := 18) (oi := ⟨_, _, _, _, _, _⟩) (v := undef) rfl (by kernel_rfl) (by kernel_rfl) (by kernel_rfl) (fun _ _ _ h => h) (Or.inr ⟨by rfl, rfl⟩) (by assumption) ?_))
            try simp only [Act.put, List.setIfInBounds_toArray, List.set_cons_zero, List.set_cons_succ]
            (first | ((refine wpAnyH_take (i := 19) (oi := ⟨_, _, _, _, _, _⟩) (v := ?_) rfl (by kernel_rfl) (by kernel_rfl) (by kernel_rfl) (fun _ _ _ h => h) (Or.inl ⟨by rfl, ?_⟩) (by assumption) ?_); rotate_left; focus ((intro w hSw); (try dsimp only at hSw); go_simp; all_goals (with_reducible rfl))) | (refine wpAnyH_take (i := 19) (oi := ⟨_, _, _, _, _, _⟩) (v := undef) rfl (by kernel_rfl) (by kernel_rfl) (by kernel_rfl) (fun _ _ _ h => h) (Or.inr ⟨by rfl, rfl⟩) (by assumption) ?_))
            try simp only [Act.put, List.setIfInBounds_toArray, List.set_cons_zero, List.set_cons_succ]
            refine wpAnyH_done (by kernel_rfl) ?_ _
            go_wp2
            go_ret
            exact ⟨rfl, Below.step hB15 h5⟩
          exact AllReadyH.nil
        exact AllReadyH.nil
      exact AllReadyH.nil
    refine AllReadyH.cons (o := ⟨_, _, _, _, _, _⟩) rfl (fun K hK => ?_) ?_
    · go_simp
      refine upon_bytes 96 rfl _ Try.underlying9 Try.underlying54 Try.underlying5 k HES.out (by omega) ?_
      rintro ad2 cc2 w2 hB hbb
      (try have hA := hA.below hbb)
      refine hK.out _ _ (Below.step h1 hbb) (fun h2 => ?_)
      clear hK K
      try simp only [Act.put, List.setIfInBounds_toArray, List.set_cons_zero, List.set_cons_succ]
      refine wpAnyH_ready (rs := [8]) (by kernel_rfl) (by simp) ?_
      refine AllReadyH.cons (o := ⟨_, _, _, _, _, _⟩) rfl (fun K hK => ?_) ?_
      · go_simp
        (with_reducible refine (KH.out _ _ _ hA).mono ?_)
        rintro e w' ⟨rfl, hbb⟩
        (try have hA := hA.below hbb); (try have hB := hB.below hbb)
        go_wp2_with fail
        refine hK.out _ _ (Below.step h2 hbb) (fun h3 => ?_)
        clear hK K
        try simp only [Act.put, List.setIfInBounds_toArray, List.set_cons_zero, List.set_cons_succ]
        refine wpAnyH_ready (rs := [13]) (by kernel_rfl) (by simp) ?_
        refine AllReadyH.cons (o := ⟨_, _, _, _, _, _⟩) rfl (fun K hK => ?_) ?_
        · go_simp
          (with_reducible refine (KH.out _ _ _ hB).mono ?_)
          rintro e w' ⟨rfl, hbb⟩
          (try have hA := hA.below hbb); (try have hB := hB.below hbb)
          go_wp2_with fail
          refine hK.out _ _ (Below.step h3 hbb) (fun h4 => ?_)
          clear hK K
          try simp only [Act.put, List.setIfInBounds_toArray, List.set_cons_zero, List.set_cons_succ]
          (first | ((refine wpAnyH_take (i := 14) (oi := ⟨_, _, _, _, _, _⟩) (v := ?_) rfl (by kernel_rfl) (by kernel_rfl) (by kernel_rfl) (fun _ _ _ h => h) (Or.inl ⟨by rfl, ?_⟩) (by assumption) ?_); rotate_left; focus ((intro w hSw); (try dsimp only at hSw); go_simp; all_goals (with_reducible rfl))) | (refine wpAnyH_take (i := 14) (oi := ⟨_, _, _, _, _, _⟩) (v := undef) rfl (by kernel_rfl) (by kernel_rfl) (by kernel_rfl) (fun _ _ _ h => h) (Or.inr ⟨by rfl, rfl⟩) (by assumption) ?_))
          try simp only [Act.put, List.setIfInBounds_toArray, List.set_cons_zero, List.set_cons_succ]
          (first | ((refine wpAnyH_take (i := 15) (oi := ⟨_, _, _, _, _, _⟩) (v := ?_) rfl (by kernel_rfl) (by kernel_rfl) (by kernel_rfl) (fun _ _ _ h => h) (Or.inl ⟨by rfl, ?_⟩) (by assumption) ?_); rotate_left; focus ((intro w hSw); (try dsimp only at hSw); go_simp; all_goals (with_reducible rfl))) | (refine wpAnyH_take (i := 15) (oi := ⟨_, _, _, _, _, _⟩) (v := undef) rfl (by kernel_rfl) (by kernel_rfl) (by kernel_rfl) (fun _ _ _ h => h) (Or.inr ⟨by rfl, rfl⟩) (by assumption) ?_))
          try simp only [Act.put, List.setIfInBounds_toArray, List.set_cons_zero, List.set_cons_succ]
          (first | ((refine wpAnyH_take (i := 16) (oi := ⟨_, _, _, _, _, _⟩) (v := ?_) rfl (by kernel_rfl) (by kernel_rfl) (by kernel_rfl) (fun _ _ _ h => h) (Or.inl ⟨by rfl, ?_⟩) (by assumption) ?_); rotate_left; focus ((intro w hSw); (try dsimp only at hSw); go_simp; all_goals (with_reducible rfl))) | (refine wpAnyH_take (i := 16) (oi := ⟨_, _, _, _, _, _⟩) (v := undef) rfl (by kernel_rfl) (by kernel_rfl) (by kernel_rfl) (fun _ _ _ h => h) (Or.inr ⟨by rfl, rfl⟩) (by assumption) ?_))
          try simp only [Act.put, List.setIfInBounds_toArray, List.set_cons_zero, List.set_cons_succ]
          refine wpAnyH_ready (rs := [17]) (by kernel_rfl) (by simp) ?_
          refine AllReadyH.cons (o := ⟨_, _, _, _, _, _⟩) rfl (fun K hK => ?_) ?_
          · go_simp
            (with_reducible refine (lives_any _).mono ?_)
            rintro e w' ⟨rfl, hbb⟩
            go_wp2_with fail
            refine hK.out _ _ (Below.step h4 hbb) (fun h5 => ?_)
            clear hK K
            try simp only [Act.put, List.setIfInBounds_toArray, List.set_cons_zero, List.set_cons_succ]
            (first | ((refine wpAnyH_take (i := 18) (oi := ⟨_, _, _, _, _, _⟩) (v := ?_) rfl (by kernel_rfl) (by kernel_rfl) (by kernel_rfl) (fun _ _ _ h => h) (Or.inl ⟨by rfl, ?_⟩) (by assumption) ?_); rotate_left; focus ((intro w hSw); (try dsimp only at hSw); go_simp; all_goals (with_reducible rfl))) | (refine wpAnyH_take (i := 18) (oi := ⟨_, _, _, _, _, _⟩) (v := undef) rfl (by kernel_rfl) (by kernel_rfl) (by kernel_rfl) (fun _ _ _ h => h) (Or.inr ⟨by rfl, rfl⟩) (by assumption) ?_))
            try simp only [Act.put, List.setIfInBounds_toArray, List.set_cons_zero, List.set_cons_succ]
            (first | ((refine wpAnyH_take (i := 19) (oi := ⟨_, _, _, _, _, _⟩) (v := ?_) rfl (by kernel_rfl) (by kernel_rfl) (by kernel_rfl) (fun _ _ _ h => h) (Or.inl ⟨by rfl, ?_⟩) (by assumption) ?_); rotate_left; focus ((intro w hSw); (try dsimp only at hSw); go_simp; all_goals (with_reducible rfl))) | (refine wpAnyH_take (i := 19) (oi := ⟨_, _, _, _, _, _⟩) (v := undef) rfl (by kernel_rfl) (by kernel_rfl) (by kernel_rfl) (fun _ _ _ h => h) (Or.inr ⟨by rfl, rfl⟩) (by assumption) ?_))
            try simp only [Act.put, List.setIfInBounds_toArray, List.set_cons_zero, List.set_cons_succ]
            refine wpAnyH_done (by kernel_rfl) ?_ _
            go_wp2
            go_ret
            exact ⟨rfl, Below.step hB15 h5⟩
          exact AllReadyH.nil
        exact AllReadyH.nil
      exact AllReadyH.nil
    exact AllReadyH.nil
  refine AllReadyH.cons (o := ⟨_, _, _, _, _, _⟩) rfl (fun K hK => ?_) ?_
  · go_simp
    refine upon_bytes 96 rfl _ Try.underlying9 Try.underlying54 Try.underlying5 k HES.out (by omega) ?_
    rintro ad2 cc2 w2 hB hbb
    (try have hA := hA.below hbb)
    refine hK.out _ _ (Below.step h0 hbb) (fun h1 => ?_)
    clear hK K
    try simp only [Act.put, List.setIfInBounds_toArray, List.set_cons_zero, List.set_cons_succ]
    refine wpAnyH_ready (rs := [7]) (by kernel_rfl) (by simp) ?_
    refine AllReadyH.cons (o := ⟨_, _, _, _, _, _⟩) rfl (fun K hK => ?_) ?_
    · go_simp
      refine upon_bytes 91 rfl _ Try.underlying9 Try.underlying54 Try.underlying5 k HES.out (by omega) ?_
      rintro ad1 cc1 w1 hA hbb
      (try have hB := hB.below hbb)
      refine hK.out _ _ (Below.step h1 hbb) (fun h2 => ?_)
      clear hK K
      try simp only [Act.put, List.setIfInBounds_toArray, List.set_cons_zero, List.set_cons_succ]
      refine wpAnyH_ready (rs := [8]) (by kernel_rfl) (by simp) ?_
      refine AllReadyH.cons (o := ⟨_, _, _, _, _, _⟩) rfl (fun K hK => ?_) ?_
      · go_simp
        (with_reducible refine (KH.out _ _ _ hA).mono ?_)
        rintro e w' ⟨rfl, hbb⟩
        (try have hA := hA.below hbb); (try have hB := hB.below hbb)
        go_wp2_with fail
        refine hK.out _ _ (Below.step h2 hbb) (fun h3 => ?_)
        clear hK K
        try simp only [Act.put, List.setIfInBounds_toArray, List.set_cons_zero, List.set_cons_succ]
        refine wpAnyH_ready (rs := [13]) (by kernel_rfl) (by simp) ?_
        refine AllReadyH.cons (o := ⟨_, _, _, _, _, _⟩) rfl (fun K hK => ?_) ?_
        · go_simp
          (with_reducible refine (KH.out _ _ _ hB).mono ?_)
          rintro e w' ⟨rfl, hbb⟩
          (try have hA := hA.below hbb); (try have hB := hB.below hbb)
          go_wp2_with fail
          refine hK.out _ _ (Below.step h3 hbb) (fun h4 => ?_)
          clear hK K
          try simp only [Act.put, List.setIfInBounds_toArray, List.set_cons_zero, List.set_cons_succ]
          (first | ((refine wpAnyH_take (i := 14) (oi := ⟨_, _, _, _, _, _⟩) (v := ?_) rfl (by kernel_rfl) (by kernel_rfl) (by kernel_rfl) (fun _ _ _ h => h) (Or.inl ⟨by rfl, ?_⟩) (by assumption) ?_); rotate_left; focus ((intro w hSw); (try dsimp only at hSw); go_simp; all_goals (with_reducible rfl))) | (refine wpAnyH_take (i := 14) (oi := ⟨_, _, _, _, _, _⟩) (v := undef) rfl (by kernel_rfl) (by kernel_rfl) (by kernel_rfl) (fun _ _ _ h => h) (Or.inr ⟨by rfl, rfl⟩) (by assumption) ?_))
          try simp only [Act.put, List.setIfInBounds_toArray, List.set_cons_zero, List.set_cons_succ]
          (first | ((refine wpAnyH_take (i := 15) (oi := ⟨_, _, _, _, _, _⟩) (v := ?_) rfl (by kernel_rfl) (by kernel_rfl) (by kernel_rfl) (fun _ _ _ h => h) (Or.inl ⟨by rfl, ?_⟩) (by assumption) ?_); rotate_left; focus ((intro w hSw); (try dsimp only at hSw); go_simp; all_goals (with_reducible rfl))) | (refine wpAnyH_take (i := 15) (oi := ⟨_, _, _, _, _, _⟩) (v := undef) rfl (by kernel_rfl) (by kernel_rfl) (by kernel_rfl) (fun _ _ _ h => h) (Or.inr ⟨by rfl, rfl⟩) (by assumption) ?_))
          try simp only [Act.put, List.setIfInBounds_toArray, List.set_cons_zero, List.set_cons_succ]
          (first | ((refine wpAnyH_take (i := 16) (oi := ⟨_, _, _, _, _, _⟩) (v := ?_) rfl (by kernel_rfl) (by kernel_rfl) (by kernel_rfl) (fun _ _ _ h => h) (Or.inl ⟨by rfl, ?_⟩) (by assumption) ?_); rotate_left; focus ((intro w hSw); (try dsimp only at hSw); go_simp; all_goals (with_reducible rfl))) | (refine wpAnyH_take (i := 16) (oi := ⟨_, _, _, _, _, _⟩) (v := undef) rfl (by kernel_rfl) (by kernel_rfl) (by kernel_rfl) (fun _ _ _ h => h) (Or.inr ⟨by rfl, rfl⟩) (by assumption) ?_))
          try simp only [Act.put, List.setIfInBounds_toArray, List.set_cons_zero, List.set_cons_succ]
          refine wpAnyH_ready (rs := [17]) (by kernel_rfl) (by simp) ?_
          refine AllReadyH.cons (o := ⟨_, _, _, _, _, _⟩) rfl (fun K hK => ?_) ?_
          · go_simp
            (with_reducible refine (lives_any _).mono ?_)
            rintro e w' ⟨rfl, hbb⟩
            go_wp2_with fail
            refine hK.out _ _ (Below.step h4 hbb) (fun h5 => ?_)
            clear hK K
            try simp only [Act.put, List.setIfInBounds_toArray, List.set_cons_zero, List.set_cons_succ]
            (first | ((refine wpAnyH_take (i := 18) (oi := ⟨_, _, _, _, _, _⟩) (v := ?_) rfl (by kernel_rfl) (by kernel_rfl) (by kernel_rfl) (fun _ _ _ h => h) (Or.inl ⟨by rfl, ?_⟩) (by assumption) ?_); rotate_left; focus ((intro w hSw); (try dsimp only at hSw); go_simp; all_goals (with_reducible rfl))) | (refine wpAnyH_take (i := 18) (oi := ⟨_, _, _, _, _, _⟩) (v := undef) rfl (by kernel_rfl) (by kernel_rfl) (by kernel_rfl) (fun _ _ _ h => h) (Or.inr ⟨by rfl, rfl⟩) (by assumption) ?_))
            try simp only [Act.put, List.setIfInBounds_toArray, List.set_cons_zero, List.set_cons_succ]
            (first | ((refine wpAnyH_take (i := 19) (oi := ⟨_, _, _, _, _, _⟩) (v := ?_) rfl (by kernel_rfl) (by kernel_rfl) (by kernel_rfl) (fun _ _ _ h => h) (Or.inl ⟨by rfl, ?_⟩) (by assumption) ?_); rotate_left; focus ((intro w hSw); (try dsimp only at hSw); go_simp; all_goals (with_reducible rfl))) | (refine wpAnyH_take (i := 19) (oi := ⟨_, _, _, _, _, _⟩) (v := undef) rfl (by kernel_rfl) (by kernel_rfl) (by kernel_rfl) (fun _ _ _ h => h) (Or.inr ⟨by rfl, rfl⟩) (by assumption) ?_))
            try simp only [Act.put, List.setIfInBounds_toArray, List.set_cons_zero, List.set_cons_succ]
            refine wpAnyH_done (by kernel_rfl) ?_ _
            go_wp2
            go_ret
            exact ⟨rfl, Below.step hB15 h5⟩
          exact AllReadyH.nil
        exact AllReadyH.nil
      exact AllReadyH.nil
    exact AllReadyH.nil
  exact AllReadyH.nil
end Go.Proofs.Ytclamcaanoieiaa
