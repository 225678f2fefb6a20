/-
  Contracts of At and of the reference's At.
-/
import Derived.Test.YtclamcaanoieiaaPosD
namespace Go.Proofs.Ytclamcaanoieiaa
open Go Go.Proofs
open Go.RowKit
set_option linter.unusedVariables false
set_option linter.unusedSimpArgs false

def posV (p : Nat × Nat) : Value := .agg #[.int .i64 p.1, .int .i64 p.2]
theorem count_le (L : List Nat) (k : Nat) : L.countP (fun y => decide (y < k + 1)) = L.countP (fun y => decide (y ≤ k)) := by
  congr 1
  funext y
  rw [Bool.eq_iff_iff]
  simp
  omega
theorem extract_list (s : ByteArray) (a b : Nat) : (s.extract a b).data.toList = (s.data.toList.take b).drop a := by
  simp [ByteArray.data_extract, List.extract_eq_take_drop, List.drop_take]
theorem results_cell_two {P : Program} {fn : Func} {p u : Tmp} {ty : TypeId} (h : fn.results = #[.cell p ty, .tmp u]) (tmps : Array Value) (w : World) (g : Nat) (t : TypeId) (cs : Array Value) (fr : Nat × Nat) (d : TypeDesc)
    (hp : tmps.getD p undef = .pointer (some ⟨g, 0, none⟩)) (hg : w.heap[g]? = some (.cells cs t fr))
    (hu : P.underlying ty = some d) (hd : (match d with | .struct _ | .array _ _ => true | _ => false) = true) (hi : (P.info? ty).map (·.size) = some cs.size) :
    (results fn tmps).run P w = .ok (.tuple #[.agg cs, tmps.getD u undef]) w := by
  have hp' : tmps[p]?.getD undef = .pointer (some ⟨g, 0, none⟩) := by simpa using hp
  simp [results, h, hp', asAddr, run_loadVar_row w g t ty cs fr d hg hu hd hi]
theorem set_block {W : World} {b t j : Nat} {cs : Array Value} {u : Value} (h : W.heap[b]? = some (.cells cs t (0, 0))) : (W.setCell ⟨b, j, none⟩ u).heap[b]? = some (.cells (cs.setIfInBounds j u) t (0, 0)) := by
  have hlt := lt_of_block h
  have hh : W.heap[b] = .cells cs t (0, 0) := by simpa [Array.getElem?_eq_getElem hlt] using h
  show (W.heap.modify b _)[b]? = _
  rw [Array.getElem?_eq_getElem (by simpa using hlt), Array.getElem_modify_self, hh]
  simp
theorem two_set {W : World} {b t : Nat} {x y u v : Value} (h : W.heap[b]? = some (.cells #[x, y] t (0, 0))) : ((W.setCell ⟨b, 0, none⟩ u).setCell ⟨b, 1, none⟩ v).heap[b]? = some (.cells #[u, v] t (0, 0)) :=
  set_block (set_block h)
theorem pos_facts {W : World} {b t : Nat} {x y : Value} (h : W.heap[b]? = some (.cells #[x, y] t (0, 0))) :
    W.cell? ⟨b, 0, none⟩ = some x ∧ W.cell? ⟨b, 1, none⟩ = some y ∧ ∀ j, W.frozen? ⟨b, j, none⟩ = false :=
  ⟨by rw [cell_of_row W b 0 _ t (0, 0) h]; rfl, by rw [cell_of_row W b 1 _ t (0, 0) h]; rfl, fun j => by simp [World.frozen?, h]⟩
theorem atF_nil' {ln p n off : Nat} (h : off ≥ p) : atF ln [] p n off = ((ln, n), 0) := by rw [atF_nil, if_neg (by omega)]

set_option maxHeartbeats 1000000 in
theorem at_any (s : ByteArray) (off : Int) (w : World) (hs : s.size ≤ 1099511627776) (ho1 : -9223372036854775808 ≤ off) (ho2 : off ≤ 9223372036854775807) :
    Calls Try.prog 22 #[.string s, .int .i64 off] w fun e w' => e = .returned (.tuple #[posV (atC s.data.toList off).1, .int .i64 (atC s.data.toList off).2]) ∧ Below w.heap.size w w' := by
  obtain ⟨l, hl⟩ : ∃ l, s.data.toList = l := ⟨_, rfl⟩
  have hsz : l.length = s.size := by rw [← hl]; rfl
  rw [hl]
  obtain ⟨w0, hw0⟩ : ∃ w0, w0 = w.alloc (.cells #[.int .i64 0, .int .i64 0] 32) := ⟨_, rfl⟩
  have hB0 : Below w.heap.size w w0 := by rw [hw0]; exact (Below.refl _ w).alloc (Nat.le_refl _) _
  have hg0 : w0.heap[w.heap.size]? = some (.cells #[.int .i64 0, .int .i64 0] 32 (0, 0)) := by rw [hw0]; exact heap_alloc_new w _
  have hz0 : w0.heap.size = w.heap.size + 1 := by rw [hw0]; exact World.size_alloc _ _
  by_cases h1 : off < 0
  · have d1 : decide (off < 0) = true := decide_eq_true h1
    have hfin : atC l off = ((0, 0), 5) := by unfold atC; rw [if_pos (.inl h1)]
    rw [hfin]
    have HW := Lib.hid hw0
    clear hfin h1 hw0
    go_enter Try.func22, Try.ntmps22
    go_wp2_with fail
    rw [← HW.out]
    exact bodyPost_ret (results_cell_two (fn := Try.f22) (p := 4) (u := 5) rfl _ _ _ _ _ _ _ rfl hg0 rfl rfl rfl) rfl ⟨rfl, hB0⟩
  · have d1 : decide (off < 0) = false := decide_eq_false h1
    by_cases h2 : (s.size : Int) < off
    · have d2 : decide ((s.size : Int) < off) = true := decide_eq_true h2
      have hfin : atC l off = ((0, 0), 5) := by unfold atC; rw [if_pos (.inr (by omega))]
      rw [hfin]
      have HW := Lib.hid hw0
      clear hfin h1 h2 hw0
      go_enter Try.func22, Try.ntmps22
      go_wp2_with fail
      rw [← HW.out]
      exact bodyPost_ret (results_cell_two (fn := Try.f22) (p := 4) (u := 5) rfl _ _ _ _ _ _ _ rfl hg0 rfl rfl rfl) rfl ⟨rfl, hB0⟩
    · obtain ⟨o, rfl⟩ : ∃ o : Nat, off = o := ⟨off.toNat, by omega⟩
      have hos : o ≤ s.size := by omega
      have d2 : decide ((s.size : Int) < (o : Int)) = false := decide_eq_false (by omega)
      have d2' : decide (s.size < o) = false := decide_eq_false (by omega)
      have hfin : atC l (o : Int) = atF (lineIx l o) (l.drop ((linesL l).getD (lineIx l o) 0)) ((linesL l).getD (lineIx l o) 0) 0 o := by unfold atC; rw [if_neg (by omega)]; simp only [Int.toNat_natCast]
      rw [hfin]
      have hli := lines_any s w0 hs
      rw [hl] at hli
      have hix : (linesL l).countP (fun y => decide (y < o + 1)) = lineIx l o + 1 := by
        rw [count_le, lineIx_eq]; unfold linesL; rw [List.countP_cons_of_pos (by simp)]
      have hixl := lineIx_lt l o
      have hatl := lineAt_le (l := l) (off := o) (by omega)
      have hsrt := linesL_sorted l
      have hlen := linesL_len l
      have hgd : ∀ j (h : j < (linesL l).length), (linesL l)[j] = (linesL l).getD j 0 := by
        intro j h; rw [List.getD_eq_getElem?_getD, List.getElem?_eq_getElem h]; rfl
      generalize linesL l = L at *
      generalize lineIx l o = ln at *
      have hg := hgd ln hixl
      generalize L.getD ln 0 = at0 at *
      have HW := Lib.hid hw0
      have HLI := Lib.hid hli
      have HS := Lib.hid hsrt
      have HIX := Lib.hid hix
      have HGD := Lib.hid hg
      clear hfin h1 h2 hw0 hli hsrt hix hgd hg
      go_enter Try.func22, Try.ntmps22
      go_wp2_with fail
      rw [← HW.out]
      refine HLI.out.mono ?_
      rintro e w1 ⟨v, rfl, hown, hb1⟩
      obtain ⟨a1, c1, rfl, hs1⟩ := ownsRow_sliceMap hown
      clear hown
      go_wp2_with fail
      refine (searchInts_any a1 c1 L (o + 1) w1 hs1 HS.out (by omega)).mono ?_
      rw [HIX.out]
      rintro e w2 ⟨rfl, hb2⟩
      have hs2 := hs1.below hb2
      obtain ⟨b, off', rfl⟩ := hs2.addr (by simp; omega)
      have f1 := hs2.natV hixl
      rw [HGD.out] at f1
      have hg2 : w2.heap[w.heap.size]? = some (.cells #[.int .i64 0, .int .i64 0] 32 (0, 0)) := by
        rw [hb2.block _ (by have := hb1.size; omega), hb1.block _ (by omega)]; exact hg0
      have hB2 : Below w.heap.size w w2 := Below.step (Below.step hB0 hb1) hb2
      have e1 : ((ln : Int) + 1 - 1) = (ln : Int) := by omega
      have e2 : (((ln + 1 : Nat) : Int) - 1) = (ln : Int) := by omega
      obtain ⟨t, hext⟩ : ∃ t, s.extract at0 s.size = t := ⟨_, rfl⟩
      have htl : t.data.toList = l.drop at0 := by rw [← hext, extract_list, hl, List.take_of_length_le (by omega)]
      have hts : t.size = s.size - at0 := by rw [← hext]; simp [ByteArray.size_extract]
      have f2 : ∀ p, (w2.iter t p).cell? ⟨b, off' + ln, none⟩ = some (.int .i64 at0) := fun p => Below.kept (below_iter w2 t p) (Nat.le_refl _) f1
      have hg3 : ∀ p, (w2.iter t p).heap[w.heap.size]? = some (.cells #[.int .i64 0, .int .i64 0] 32 (0, 0)) := fun p => by
        rw [(below_iter w2 t p).block _ (lt_of_block hg2)]; exact hg2
      have k0 : ∀ p, (w2.iter t p).cell? ⟨w.heap.size, 0, none⟩ = some (.int .i64 0) := fun p => (pos_facts (hg3 p)).1
      have k1 : ∀ p, (w2.iter t p).cell? ⟨w.heap.size, 1, none⟩ = some (.int .i64 0) := fun p => (pos_facts (hg3 p)).2.1
      have k2 : ∀ p j, (w2.iter t p).frozen? ⟨w.heap.size, j, none⟩ = false := fun p => (pos_facts (hg3 p)).2.2
      have HTL := Lib.hid htl
      have HG3 := Lib.hid hg3
      clear hs1 hb1 hb2 HLI HIX HS htl hg3
      go_wp2_with fail
      go_loopw [8] (fun nv wr => ∃ pos acc : Nat, wr = w2.iter t pos ∧ nv = .int .i64 acc ∧ pos ≤ t.size ∧ acc ≤ pos ∧ Hid (atF ln (l.drop (at0 + pos)) (at0 + pos) acc o = atF ln (l.drop at0) at0 0 o)) (fun _ wr => t.size - wr.iterPos w2.heap.size)
      case atStart => exact ⟨0, 0, rfl, rfl, by omega, by omega, rfl⟩
      case round =>
        obtain ⟨pos, acc, rfl, rfl, hp, hap, hE⟩ := hrel
        have hBi : ∀ q, Below w.heap.size w (w2.iter t q) := fun q => Below.step hB2 (below_iter w2 t q)
        by_cases hlt : pos < t.size
        · obtain ⟨r, hr, hu, -, hnx⟩ := next_at Try.prog w2 t pos hlt
          rw [HTL.out, List.drop_drop] at hu hnx
          have hne := drop_ne (l := l) (p := at0 + pos) (by omega)
          have hc1 := chL_pos (l.drop (at0 + pos))
          have hc2 := chL_le hne
          have hc3 := chL_u2 (l.drop (at0 + pos))
          have hdl : (l.drop (at0 + pos)).length = l.length - (at0 + pos) := List.length_drop
          have hst := atF_cons hne ln (at0 + pos) acc o
          rw [List.drop_drop] at hst
          obtain ⟨cw, cu, hcc⟩ : ∃ cw cu, chL (l.drop (at0 + pos)) = (cw, cu) := ⟨_, _, rfl⟩
          rw [hcc] at hu hnx hc1 hc2 hc3 hst
          simp only at hu hnx hc1 hc2 hc3 hst
          by_cases h1 : at0 + pos = o
          · rw [if_pos h1] at hst
            have x1 : ((at0 : Int) + (pos : Int) == (o : Int)) = true := by simp; omega
            have HE : Hid (atF ln (l.drop at0) at0 0 o = ((ln, acc), 0)) := by unfold Hid; rw [← hE.out, hst]
            clear hst hE hcc hne
            go_wp2_with fail
            have hfin := two_set (u := .int .i64 (ln : Int)) (v := .int .i64 (acc : Int)) (HG3.out (pos + cw))
            rw [HE.out]
            exact bodyPost_ret (results_cell_two (fn := Try.f22) (p := 4) (u := 5) rfl _ _ _ _ _ _ _ rfl hfin rfl rfl rfl) rfl ⟨rfl, ((hBi _).setCell (p := ⟨w.heap.size, 0, none⟩) (Nat.le_refl _) _).setCell (p := ⟨w.heap.size, 1, none⟩) (Nat.le_refl _) _⟩
          · have x1 : ((at0 : Int) + (pos : Int) == (o : Int)) = false := by simp; omega
            rw [if_neg h1] at hst
            by_cases h2 : o < at0 + pos
            · rw [if_pos h2] at hst
              have x2 : decide ((o : Int) < (at0 : Int) + (pos : Int)) = true := decide_eq_true (by omega)
              have HE : Hid (atF ln (l.drop at0) at0 0 o = ((0, 0), 1)) := by unfold Hid; rw [← hE.out, hst]
              clear hst hE hcc hne h1
              go_wp2_with fail
              have hfin := two_set (u := .int .i64 0) (v := .int .i64 0) (HG3.out (pos + cw))
              rw [HE.out]
              exact bodyPost_ret (results_cell_two (fn := Try.f22) (p := 4) (u := 5) rfl _ _ _ _ _ _ _ rfl hfin rfl rfl rfl) rfl ⟨rfl, ((hBi _).setCell (p := ⟨w.heap.size, 0, none⟩) (Nat.le_refl _) _).setCell (p := ⟨w.heap.size, 1, none⟩) (Nat.le_refl _) _⟩
            · rw [if_neg h2] at hst
              have x2 : decide ((o : Int) < (at0 : Int) + (pos : Int)) = false := decide_eq_false (by omega)
              have HE : Hid (atF ln (l.drop (at0 + (pos + cw))) (at0 + (pos + cw)) (acc + cu) o = atF ln (l.drop at0) at0 0 o) := by unfold Hid; rw [← hE.out, hst, Nat.add_assoc]
              clear hst hE hcc hne h1 h2
              go_wp2_with fail
              refine (units1_any r _ hr).mono ?_
              rintro e w5 ⟨rfl, rfl⟩
              rw [hu]
              go_wp2_with fail
              go_roundw
              case rel => exact ⟨pos + cw, acc + cu, rfl, by go_num, by omega, by omega, HE⟩
              case measure => simp; omega
        · have hnx : ∀ ty, (Instr.next (.pointer (some ⟨w2.heap.size, 0, none⟩)) true ty).run Try.prog (w2.iter t pos) = _ := fun ty => run_next_end w2 t pos ty hlt
          have hst : atF ln (l.drop (at0 + pos)) (at0 + pos) acc o = if o < s.size then ((0, 0), 1) else ((ln, acc), 0) := by
            rw [List.drop_of_length_le (by omega), atF_nil, show at0 + pos = s.size by omega]
          by_cases h2 : o < s.size
          · have x2 : decide ((o : Int) < (s.size : Int)) = true := decide_eq_true (by omega)
            have x2' : decide (o < s.size) = true := decide_eq_true h2
            rw [if_pos h2] at hst
            have HE : Hid (atF ln (l.drop at0) at0 0 o = ((0, 0), 1)) := by unfold Hid; rw [← hE.out, hst]
            clear hst hE h2
            go_wp2_with fail
            have hfin := two_set (u := .int .i64 0) (v := .int .i64 0) (HG3.out pos)
            rw [HE.out]
            exact bodyPost_ret (results_cell_two (fn := Try.f22) (p := 4) (u := 5) rfl _ _ _ _ _ _ _ rfl hfin rfl rfl rfl) rfl ⟨rfl, ((hBi _).setCell (p := ⟨w.heap.size, 0, none⟩) (Nat.le_refl _) _).setCell (p := ⟨w.heap.size, 1, none⟩) (Nat.le_refl _) _⟩
          · have x2 : decide ((o : Int) < (s.size : Int)) = false := decide_eq_false (by omega)
            have x2' : decide (o < s.size) = false := decide_eq_false h2
            rw [if_neg h2] at hst
            have HE : Hid (atF ln (l.drop at0) at0 0 o = ((ln, acc), 0)) := by unfold Hid; rw [← hE.out, hst]
            clear hst hE h2
            go_wp2_with fail
            have hfin := two_set (u := .int .i64 (ln : Int)) (v := .int .i64 (acc : Int)) (HG3.out pos)
            rw [HE.out]
            exact bodyPost_ret (results_cell_two (fn := Try.f22) (p := 4) (u := 5) rfl _ _ _ _ _ _ _ rfl hfin rfl rfl rfl) rfl ⟨rfl, ((hBi _).setCell (p := ⟨w.heap.size, 0, none⟩) (Nat.le_refl _) _).setCell (p := ⟨w.heap.size, 1, none⟩) (Nat.le_refl _) _⟩
end Go.Proofs.Ytclamcaanoieiaa
