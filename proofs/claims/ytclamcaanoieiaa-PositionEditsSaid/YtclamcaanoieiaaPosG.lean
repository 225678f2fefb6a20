/-
  The contract of the reference's Offset.
-/
import Derived.Test.YtclamcaanoieiaaPosF
import Derived.Deep.DeepCutAuto
import Derived.StillTailTactics
namespace Go.Proofs.Ytclamcaanoieiaa
open Go Go.Proofs
open Go.RowKit
set_option linter.unusedVariables false
set_option linter.unusedSimpArgs false

theorem find_at {B : List Nat} {f : Nat → Bool} {i : Nat} (hi : i < B.length) (h1 : ∀ k (h : k < B.length), k < i → f B[k] = false) (h2 : f B[i] = true) : B.find? f = some B[i] := by
  induction B generalizing i with
  | nil => simp at hi
  | cons x xs ih =>
    cases i with
    | zero => rw [List.find?_cons_of_pos (by simpa using h2)]; rfl
    | succ i =>
      have h0 := h1 0 (by simp) (by omega)
      rw [List.find?_cons_of_neg (by simp at h0; simp [h0])]
      have := ih (i := i) (by simpa using hi) (fun k h hk => by have := h1 (k + 1) (by simpa using h) (by omega); simpa using this) (by simpa using h2)
      rw [this]
      simp
theorem find_no {B : List Nat} {f : Nat → Bool} (h1 : ∀ k (h : k < B.length), f B[k] = false) : B.find? f = none := by
  rw [List.find?_eq_none]
  intro x hx
  obtain ⟨k, hk, rfl⟩ := List.getElem_of_mem hx
  rw [h1 k hk]
  simp

def offG (m : List UInt8) (at0 u : Nat) : Nat × Nat :=
  if unitsL m < u then (0, 5)
  else match (bordL m 0).find? (fun b => decide (unitsL (m.take b) = u)) with
    | some b => (at0 + b, 0)
    | none => (0, 1)
theorem offG_big {m : List UInt8} {at0 u : Nat} (h : unitsL m < u) : offG m at0 u = (0, 5) := by unfold offG; rw [if_pos h]
theorem offG_at {m : List UInt8} {at0 u : Nat} {B : List Nat} (hB : bordL m 0 = B) (h : ¬ unitsL m < u) {i : Nat} (hi : i < B.length) (h1 : ∀ k (h : k < B.length), k < i → unitsL (m.take B[k]) ≠ u) (h2 : unitsL (m.take B[i]) = u) : offG m at0 u = (at0 + B[i], 0) := by
  unfold offG
  rw [if_neg h, hB, find_at hi (fun k hk hki => decide_eq_false (h1 k hk hki)) (decide_eq_true h2)]
theorem offG_no {m : List UInt8} {at0 u : Nat} {B : List Nat} (hB : bordL m 0 = B) (h : ¬ unitsL m < u) (h1 : ∀ k (h : k < B.length), unitsL (m.take B[k]) ≠ u) : offG m at0 u = (0, 1) := by
  unfold offG
  rw [if_neg h, hB, find_no (fun k hk => decide_eq_false (h1 k hk))]
set_option maxRecDepth 100000 in
set_option maxHeartbeats 2000000 in
theorem roffset_any (s : ByteArray) (line unit : Int) (w : World) (hs : s.size ≤ 1099511627776) (hl1 : -9223372036854775808 ≤ line) (hl2 : line ≤ 9223372036854775807) (hu1 : -9223372036854775808 ≤ unit) (hu2 : unit ≤ 9223372036854775807) :
    Calls Try.prog 21 #[.string s, .agg #[.int .i64 line, .int .i64 unit]] w fun e w' => e = .returned (.tuple #[.int .i64 (offC s.data.toList line unit).1, .int .i64 (offC s.data.toList line unit).2]) ∧ Below w.heap.size w w' := by
  rw [offC_eq]
  obtain ⟨l, hl⟩ : ∃ l, s.data.toList = l := ⟨_, rfl⟩
  have hsz : l.length = s.size := by rw [← hl]; rfl
  obtain ⟨w0, hw0⟩ : ∃ w0, w0 = w.alloc (.cells #[.int .i64 line, .int .i64 unit] 32) := ⟨_, rfl⟩
  have hB0 : Below w.heap.size w w0 := by rw [hw0]; exact (Below.refl _ w).alloc (Nat.le_refl _) _
  have hg0 : w0.heap[w.heap.size]? = some (.cells #[.int .i64 line, .int .i64 unit] 32 (0, 0)) := by rw [hw0]; exact heap_alloc_new w _
  have hz0 : w0.heap.size = w.heap.size + 1 := by rw [hw0]; exact World.size_alloc _ _
  have hli := rlines_any s w0 hs
  have hlen := linesL_len l
  rw [hl] at hli ⊢
  have hgd : ∀ j (h : j < (linesL l).length), (linesL l)[j] = (linesL l).getD j 0 := by
    intro j h; rw [List.getD_eq_getElem?_getD, List.getElem?_eq_getElem h]; rfl
  have hseg := fun j => seg_line (l := l) (j := j)
  have hto : ∀ j, toL l j = if j + 1 < (linesL l).length then (linesL l).getD (j + 1) 0 - 1 else l.length := fun j => rfl
  have hpos : ∀ j, j + 1 < (linesL l).length → 1 ≤ (linesL l).getD (j + 1) 0 := by
    intro j hj
    rw [← hgd (j + 1) hj]
    have := sorted_at (linesL_sorted l) (i := j) (j := j + 1) (by omega) hj
    omega
  have hle : ∀ j, j < (linesL l).length → toL l j ≤ l.length ∧ (linesL l).getD j 0 ≤ toL l j := by
    intro j hj
    obtain ⟨g1, g2, g3⟩ := seg_line hj
    have := endOf_le (l.drop ((linesL l).getD j 0))
    rw [List.length_drop] at this
    omega
  have hline : ∀ j, lineL l j = (l.drop ((linesL l).getD j 0)).take (toL l j - (linesL l).getD j 0) := fun j => rfl
  have hof : offR l line unit = if line < 0 ∨ unit < 0 ∨ ((linesL l).length : Int) ≤ line then (0, 5)
    else offG (lineL l line.toNat) ((linesL l).getD line.toNat 0) unit.toNat := rfl
  generalize offR l line unit = R at *
  generalize hLL : linesL l = L at *
  have HW := Lib.hid hw0
  have HLI := Lib.hid hli
  by_cases h1 : line < 0
  · have d1 : decide (line < 0) = true := decide_eq_true h1
    rw [if_pos (.inl h1)] at hof
    rw [hof]
    clear hof h1 hw0 hli hseg hgd hto hpos hle hline hLL
    go_enter Try.func21, Try.ntmps21
    go_wp2_with fail
    rw [← HW.out]
    refine HLI.out.mono ?_
    rintro e w1 ⟨v, rfl, hown, hb1⟩
    obtain ⟨a1, c1, rfl, hs1⟩ := ownsRow_sliceMap hown
    have hg1 : w1.heap[w.heap.size]? = some (.cells #[.int .i64 line, .int .i64 unit] 32 (0, 0)) := by rw [hb1.block _ (by omega)]; exact hg0
    obtain ⟨k0, k1, -⟩ := pos_facts hg1
    go_wp2_with fail
    go_ret2
    exact ⟨rfl, Below.step hB0 hb1⟩
  · have d1 : decide (line < 0) = false := decide_eq_false h1
    by_cases h3 : unit < 0
    · have d3 : decide (unit < 0) = true := decide_eq_true h3
      rw [if_pos (.inr (.inl h3))] at hof
      rw [hof]
      clear hof h1 h3 hw0 hli hseg hgd hto hpos hle hline hLL
      go_enter Try.func21, Try.ntmps21
      go_wp2_with fail
      rw [← HW.out]
      refine HLI.out.mono ?_
      rintro e w1 ⟨v, rfl, hown, hb1⟩
      obtain ⟨a1, c1, rfl, hs1⟩ := ownsRow_sliceMap hown
      have hg1 : w1.heap[w.heap.size]? = some (.cells #[.int .i64 line, .int .i64 unit] 32 (0, 0)) := by rw [hb1.block _ (by omega)]; exact hg0
      obtain ⟨k0, k1, -⟩ := pos_facts hg1
      go_wp2_with fail
      go_ret2
      exact ⟨rfl, Below.step hB0 hb1⟩
    · have d3 : decide (unit < 0) = false := decide_eq_false h3
      by_cases h2 : (L.length : Int) ≤ line
      · have d2 : decide ((L.length : Int) ≤ line) = true := decide_eq_true h2
        rw [if_pos (.inr (.inr h2))] at hof
        rw [hof]
        clear hof h1 h2 h3 hw0 hli hseg hgd hto hpos hle hline hLL
        go_enter Try.func21, Try.ntmps21
        go_wp2_with fail
        rw [← HW.out]
        refine HLI.out.mono ?_
        rintro e w1 ⟨v, rfl, hown, hb1⟩
        obtain ⟨a1, c1, rfl, hs1⟩ := ownsRow_sliceMap hown
        have hg1 : w1.heap[w.heap.size]? = some (.cells #[.int .i64 line, .int .i64 unit] 32 (0, 0)) := by rw [hb1.block _ (by omega)]; exact hg0
        obtain ⟨k0, k1, -⟩ := pos_facts hg1
        go_wp2_with fail
        go_ret2
        exact ⟨rfl, Below.step hB0 hb1⟩
      · have d2 : decide ((L.length : Int) ≤ line) = false := decide_eq_false h2
        rw [if_neg (by omega)] at hof
        obtain ⟨ln, rfl⟩ : ∃ n : Nat, line = n := ⟨line.toNat, by omega⟩
        obtain ⟨u, rfl⟩ : ∃ n : Nat, unit = n := ⟨unit.toNat, by omega⟩
        simp only [Int.toNat_natCast] at hof
        have hixl : ln < L.length := by omega
        have d2' : decide (L.length ≤ ln) = false := decide_eq_false (by omega)
        have hg := hgd ln hixl
        have hle1 := hle ln hixl
        have hto1 := hto ln
        have hln1 := hline ln
        have hpos1 := hpos ln
        rw [hof]
        generalize L.getD ln 0 = at0 at *
        generalize hto2 : toL l ln = tz at *
        generalize hm : lineL l ln = m at *
        have hml : m.length = tz - at0 := by rw [hln1, List.length_take, List.length_drop]; omega
        obtain ⟨t, hext⟩ : ∃ t, s.extract at0 tz = t := ⟨_, rfl⟩
        have htl : t.data.toList = m := by rw [← hext, extract_list, hl, hln1, List.drop_take]
        have hts : t.size = tz - at0 := by rw [← hml, ← htl]; rfl
        have hgd1 : ∀ (h : ln + 1 < L.length), L[ln + 1] = L.getD (ln + 1) 0 := fun h => hgd (ln + 1) h
        have HGD := Lib.hid hg
        have HGD1 := Lib.hid hgd1
        have HTO := Lib.hid hto1
        have HPO := Lib.hid hpos1
        have HTL := Lib.hid htl
        have HM := Lib.hid hln1
        have HL := Lib.hid hl
        have hru := fun w => runits_any t w (by omega)
        have hrb := fun w => rborders_any t w (by omega)
        rw [htl] at hru hrb
        have HRU := Lib.hid hru
        have HRB := Lib.hid hrb
        have HBG : Hid (∀ x ∈ bordL m 0, x ≤ tz - at0) := fun x hx => by have := bord_ge hx; omega
        obtain ⟨B, hB⟩ : ∃ B, bordL m 0 = B := ⟨_, rfl⟩
        rw [hB] at HBG HRB
        have HBB := Lib.hid hB
        have HBL : Hid (1 ≤ B.length ∧ B.length ≤ tz - at0 + 1) := by unfold Hid; have := bord_len m 0; rw [hB, hml] at this; omega
        clear hof h1 h2 h3 hw0 hli hseg hgd hg htl hto hpos hle hline hto1 hln1 hpos1 hgd1 hl hru hrb hB hm hto2 hLL
        go_enter Try.func21, Try.ntmps21
        go_wp2_with fail
        rw [← HW.out]
        refine HLI.out.mono ?_
        rintro e w1 ⟨v, rfl, hown, hb1⟩
        obtain ⟨a1, c1, rfl, hs1⟩ := ownsRow_sliceMap hown
        obtain ⟨b, off', rfl⟩ := hs1.addr (by simp; omega)
        have f1 := hs1.natV hixl
        rw [HGD.out] at f1
        have hg1 : w1.heap[w.heap.size]? = some (.cells #[.int .i64 ln, .int .i64 u] 32 (0, 0)) := by rw [hb1.block _ (by omega)]; exact hg0
        obtain ⟨k0, k1, -⟩ := pos_facts hg1
        have hB1 : Below w.heap.size w w1 := Below.step hB0 hb1
        have HS1 := Lib.hid hs1
        clear hown hb1 HLI hs1
        go_upto_if 34 with fail
        go_cut [7] (fun s7 wx => s7 = .int .i64 tz ∧ wx = w1)
        case first =>
          obtain ⟨q, hq⟩ : ∃ q, q = ln + 1 := ⟨_, rfl⟩
          have e5 : (ln : Int) + 1 = (q : Int) := by omega
          have hto := HTO.out
          have hpo := HPO.out
          have hgd1 : ∀ (h : q < L.length), L[q] = L.getD q 0 := by subst hq; exact HGD1.out
          rw [← hq] at hto hpo
          clear hq
          by_cases h5 : q < L.length
          · have d5 : decide ((q : Int) < (L.length : Int)) = true := decide_eq_true (by omega)
            have d5' : decide (q < L.length) = true := decide_eq_true h5
            have f2 := HS1.out.natV h5
            rw [hgd1 h5] at f2
            rw [if_pos h5] at hto
            have hpo := hpo h5
            generalize L.getD q 0 = y at *
            have e1 : (y : Int) - 1 = (tz : Int) := by omega
            clear hto hgd1
            go_wp2_with fail
            go_meet
            exact ⟨rfl, rfl⟩
          · have d5 : decide ((q : Int) < (L.length : Int)) = false := decide_eq_false (by omega)
            have d5' : decide (q < L.length) = false := decide_eq_false h5
            rw [if_neg h5] at hto
            have e1 : s.size = tz := by omega
            clear hto hsz hgd1 hpo
            go_wp2_with fail
            go_meet
            exact ⟨by rw [e1], rfl⟩
        case rest =>
          obtain ⟨rfl, hwc⟩ := hcut
          have hwc := hwc.symm
          subst hwc
          have kc : Hid (Calls Try.prog 15 #[.string t] w1.drew fun e w'' => e = .returned (.int .i64 (unitsL m)) ∧ w'' = w1.drew) :=
            (HRU.out w1.drew).mono fun e w' ⟨h1, h2⟩ => ⟨h1, h2.symm⟩
          go_upto_region 7 with fail
          have wr1 : IntKind.i64.wrap (ln : Int) = ln := IntWalk.i64_in _ (by omega)
          have wr2 : (ln : Int) < (L.length : Int) := by omega
          have wr3 : (0 : Int) ≤ (ln : Int) := by omega
          have wr4 : tz ≤ s.size := by omega
          have wr5 : at0 ≤ tz := hle1.2
          refine wp_region_still_lit (by kernel_rfl) (by kernel_rfl) ?_
          repeat still_step
          still_call kc.out
          repeat still_step
          refine wpStill_nil ?_
          change Exit.then _ _ _ _ w1.drew
          obtain ⟨wd, hwd⟩ : ∃ wd, wd = w1.drew := ⟨_, rfl⟩
          have hBd : Below w1.heap.size w1 wd := by rw [hwd]; exact Below.drew (Below.refl _ _)
          rw [← hwd]
          have g0 : wd.cell? ⟨w.heap.size, 0, none⟩ = some (.int .i64 ln) := Below.kept hBd (Nat.le_refl _) k0
          have g1 : wd.cell? ⟨w.heap.size, 1, none⟩ = some (.int .i64 u) := Below.kept hBd (Nat.le_refl _) k1
          have g2 : wd.cell? ⟨b, off' + ln, none⟩ = some (.int .i64 at0) := Below.kept hBd (Nat.le_refl _) f1
          have hB2 := Below.step hB1 hBd
          clear hwd hBd kc k0 k1 f1 hg1 hB1 HS1 HGD1 HTO HPO
          by_cases h6 : unitsL m < u
          · have d6 : decide ((unitsL m : Int) < (u : Int)) = true := decide_eq_true (by omega)
            have d6' : decide (unitsL m < u) = true := decide_eq_true h6
            have hfin := Lib.hid (offG_big (at0 := at0) h6)
            go_wp2_with fail
            go_ret2
            exact ⟨by rw [hfin.out]; rfl, hB2⟩
          · have d6 : decide ((unitsL m : Int) < (u : Int)) = false := decide_eq_false (by omega)
            have d6' : decide (unitsL m < u) = false := decide_eq_false h6
            have H6 := Lib.hid h6
            clear h6
            go_wp2_with fail
            refine (HRB.out wd).mono ?_
            rintro e w2 ⟨v, rfl, hown2, hb2⟩
            obtain ⟨a2, c2, rfl, hs2⟩ := ownsRow_sliceMap hown2
            have hbl := HBL.out
            obtain ⟨bb, boff, rfl⟩ := hs2.addr (by simp; omega)
            have g0' : w2.cell? ⟨w.heap.size, 0, none⟩ = some (.int .i64 ln) := Below.kept hb2 (Nat.le_refl _) g0
            have g1' : w2.cell? ⟨w.heap.size, 1, none⟩ = some (.int .i64 u) := Below.kept hb2 (Nat.le_refl _) g1
            have g2' : w2.cell? ⟨b, off' + ln, none⟩ = some (.int .i64 at0) := Below.kept hb2 (Nat.le_refl _) g2
            have hB3 := Below.step hB2 hb2
            have HS2 := Lib.hid hs2
            clear hown2 hb2 g0 g1 g2 hs2 hB2 HRB
            go_wp2_with fail
            go_loopw [9] (fun iv wr => ∃ i : Nat, i ≤ B.length ∧ iv = .int .i64 i ∧ Below w2.heap.size w2 wr ∧ Hid (∀ k (h : k < B.length), k < i → unitsL (m.take B[k]) ≠ u)) (fun iv _ => B.length - (intOf iv).toNat)
            case atStart => exact ⟨0, by omega, rfl, Below.refl _ _, fun k h hk => by omega⟩
            case round =>
              obtain ⟨i, hi, rfl, hBr, HN⟩ := hrel
              have hBw := Below.step hB3 hBr
              by_cases hlt : i < B.length
              · have d7 : decide ((i : Int) < (B.length : Int)) = true := decide_eq_true (by omega)
                have d7' : decide (i < B.length) = true := decide_eq_true hlt
                have p0 : wr.cell? ⟨w.heap.size, 0, none⟩ = some (.int .i64 ln) := Below.kept hBr (Nat.le_refl _) g0'
                have p1 : wr.cell? ⟨w.heap.size, 1, none⟩ = some (.int .i64 u) := Below.kept hBr (Nat.le_refl _) g1'
                have p2 : wr.cell? ⟨b, off' + ln, none⟩ = some (.int .i64 at0) := Below.kept hBr (Nat.le_refl _) g2'
                have p3 := (HS2.out.below hBr).natV hlt
                have hbx := HBG.out B[i] (List.getElem_mem _)
                have hx1 : (s.extract at0 (at0 + B[i])).data.toList = m.take B[i] := by
                  rw [extract_list, HL.out, HM.out, List.drop_take, List.take_take, Nat.add_sub_cancel_left, Nat.min_eq_left hbx]
                have HOK : Hid (unitsL (m.take B[i]) = u → offG m at0 u = (at0 + B[i], 0)) := fun h2 => offG_at HBB.out H6.out hlt HN.out h2
                have HNX : Hid (unitsL (m.take B[i]) ≠ u → ∀ k (h : k < B.length), k < i + 1 → unitsL (m.take B[k]) ≠ u) := by
                  intro h2 k h hk
                  rcases Nat.lt_or_ge k i with h3 | h3
                  · exact HN.out k h h3
                  · obtain rfl : k = i := by omega
                    exact h2
                generalize B[i] = x at *
                obtain ⟨z, hz⟩ : ∃ z, at0 + x = z := ⟨_, rfl⟩
                rw [hz] at hx1 HOK
                have wr9 : z ≤ s.size := by omega
                have wr10 : at0 ≤ z := by omega
                have wr11 : (at0 : Int) + (x : Int) = (z : Int) := by omega
                clear hz
                obtain ⟨tx, htx⟩ : ∃ tx, s.extract at0 z = tx := ⟨_, rfl⟩
                rw [htx] at hx1
                have htxs : tx.size ≤ s.size := by rw [← htx]; simp [ByteArray.size_extract]; omega
                have hrx : Calls Try.prog 15 #[.string tx] wr.drew fun e w'' => e = .returned (.int .i64 (unitsL (m.take x))) ∧ w'' = wr.drew := by
                  have := runits_any tx wr.drew (by omega)
                  rw [hx1] at this
                  exact this.mono fun e w' ⟨h1, h2⟩ => ⟨h1, h2.symm⟩
                generalize unitsL (m.take x) = y at *
                have HRX := Lib.hid hrx
                clear hrx hx1 HN
                go_upto_region 13 with fail
                have wr1 : IntKind.i64.wrap (ln : Int) = ln := IntWalk.i64_in _ (by omega)
                have wr2 : (ln : Int) < (L.length : Int) := by omega
                have wr3 : (0 : Int) ≤ (ln : Int) := by omega
                have wr6 : (i : Int) < (B.length : Int) := by omega
                have wr7 : (0 : Int) ≤ (i : Int) := by omega
                have wr8 : IntKind.i64.wrap (i : Int) = i := IntWalk.i64_in _ (by omega)
                have wr12 : IntKind.i64.wrap (z : Int) = z := IntWalk.i64_in _ (by omega)
                refine wp_region_still_lit (by kernel_rfl) (by kernel_rfl) ?_
                repeat still_step
                still_call HRX.out
                repeat still_step
                refine wpStill_nil ?_
                change Exit.then _ _ _ _ wr.drew
                obtain ⟨wd2, hwd⟩ : ∃ x, x = wr.drew := ⟨_, rfl⟩
                have hBd : Below wr.heap.size wr wd2 := by rw [hwd]; exact Below.drew (Below.refl _ _)
                rw [← hwd]
                have q0 : wd2.cell? ⟨w.heap.size, 0, none⟩ = some (.int .i64 ln) := Below.kept hBd (Nat.le_refl _) p0
                have q1 : wd2.cell? ⟨w.heap.size, 1, none⟩ = some (.int .i64 u) := Below.kept hBd (Nat.le_refl _) p1
                have q2 : wd2.cell? ⟨b, off' + ln, none⟩ = some (.int .i64 at0) := Below.kept hBd (Nat.le_refl _) p2
                have q3 := Below.kept hBd (Nat.le_refl _) p3
                have hBd2 := Below.step hBw hBd
                have hBr2 := hBr.trans (hBd.mono hBr.size)
                clear hwd hBd p0 p1 p2 p3 HRX
                by_cases h8 : y = u
                · have d8 : ((y : Int) == (u : Int)) = true := by simp; omega
                  have HF := Lib.hid (HOK.out h8)
                  go_wp2_with fail
                  go_quiet (fail)
                  go_wp2_with fail
                  go_ret2
                  exact ⟨by rw [HF.out]; rfl, Below.step hBd2 (Below.drewN _)⟩
                · have d8 : ((y : Int) == (u : Int)) = false := by simp; omega
                  have HF := Lib.hid (HNX.out h8)
                  go_wp2_with fail
                  go_roundw
                  case rel => exact ⟨i + 1, by omega, by go_num, hBr2, HF.out⟩
                  case measure => simp [intOf]; omega
              · obtain rfl : i = B.length := by omega
                have hfin := Lib.hid (offG_no (at0 := at0) HBB.out H6.out (fun k hk => HN.out k hk hk))
                go_wp2_with fail
                go_ret2
                exact ⟨by rw [hfin.out]; rfl, hBw⟩
end Go.Proofs.Ytclamcaanoieiaa
