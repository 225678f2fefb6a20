/-
  Contracts: the reference's At, position.Offset.
-/
import Derived.Test.YtmonpnikdheokaaEnds
import Derived.Test.YtmonpnikdheokaaSxA
namespace Go.Proofs.Ytmonpnikdheokaa
open Go Go.Proofs
open Go.RowKit
set_option linter.unusedVariables false
set_option linter.unusedSimpArgs false


def posV (p : Nat × Nat) : Value := .agg #[.int .i64 p.1, .int .i64 p.2]
theorem count_le (L : List Nat) (k : Nat) : L.countP (fun y => decide (y < k + 1)) = L.countP (fun y => decide (y ≤ k)) := by
  congr 1
  funext y
  rw [Bool.eq_iff_iff]
  simp
  omega
theorem extract_list (s : ByteArray) (a b : Nat) : (s.extract a b).data.toList = (s.data.toList.take b).drop a := by
  simp [ByteArray.data_extract, List.extract_eq_take_drop, List.drop_take]
theorem two_set {W : World} {b t : Nat} {x y u v : Value} (h : W.heap[b]? = some (.cells #[x, y] t (0, 0))) : ((W.setCell ⟨b, 0, none⟩ u).setCell ⟨b, 1, none⟩ v).heap[b]? = some (.cells #[u, v] t (0, 0)) :=
  set_block (set_block h)
theorem pos_facts {W : World} {b t : Nat} {x y : Value} (h : W.heap[b]? = some (.cells #[x, y] t (0, 0))) :
    W.cell? ⟨b, 0, none⟩ = some x ∧ W.cell? ⟨b, 1, none⟩ = some y ∧ ∀ j, W.frozen? ⟨b, j, none⟩ = false :=
  ⟨by rw [cell_of_row W b 0 _ t (0, 0) h]; rfl, by rw [cell_of_row W b 1 _ t (0, 0) h]; rfl, fun j => by simp [World.frozen?, h]⟩
theorem atF_nil' {ln p n off : Nat} (h : off ≥ p) : atF ln [] p n off = ((ln, n), 0) := by rw [atF_nil, if_neg (by omega)]

theorem natV_int (L : List Nat) : L.map natV = (L.map Int.ofNat).map intV := by
  rw [List.map_map]; rfl
theorem mem_ofNat (L : List Nat) (n : Nat) : ((n : Int) ∈ L.map Int.ofNat) ↔ n ∈ L := by
  rw [List.mem_map]
  constructor
  · rintro ⟨m, hm, he⟩
    have : m = n := Int.ofNat.inj he
    rwa [← this]
  · intro h; exact ⟨n, h, rfl⟩
theorem scan_step {l : List UInt8} {k ln fr : Nat} (h : k < l.length) : scanNl (l.drop k) k ln fr = if by8 l k = 10 then scanNl (l.drop (k + 1)) (k + 1) (ln + 1) (k + 1) else scanNl (l.drop (k + 1)) (k + 1) ln fr := by
  rw [List.drop_eq_getElem_cons h, scan_cons]
  have : l[k].toNat = by8 l k := by unfold by8; rw [List.getD_eq_getElem?_getD, List.getElem?_eq_getElem h]; rfl
  rw [this]
set_option maxRecDepth 100000 in
set_option maxHeartbeats 1000000 in
theorem rat_any (s : ByteArray) (off : Int) (w : World) (hs : s.size ≤ 1099511627776) (ho1 : -9223372036854775808 ≤ off) (ho2 : off ≤ 9223372036854775807) :
    Calls Try.prog 83 #[.string s, .int .i64 off] w fun e w' => e = .returned (.tuple #[posV (atC s.data.toList off).1, .int .i64 (atC s.data.toList off).2]) ∧ Below w.heap.size w w' := by
  rw [atC_eq]
  obtain ⟨l, hl⟩ : ∃ l, s.data.toList = l := ⟨_, rfl⟩
  have hsz : l.length = s.size := by rw [← hl]; rfl
  have hby : ∀ i (h : i < s.size), (s[i]'h).toNat = by8 l i := by intro i h; rw [get_by s h, hl]
  have hrb := fun w => rborders_any s w hs
  rw [hl] at hrb ⊢
  obtain ⟨w0, hw0⟩ : ∃ w0, w0 = w.alloc (.cells #[.int .i64 0, .int .i64 0] 125) := ⟨_, rfl⟩
  have hB0 : Below w.heap.size w w0 := by rw [hw0]; exact (Below.refl _ w).alloc (Nat.le_refl _) _
  have hg0 : w0.heap[w.heap.size]? = some (.cells #[.int .i64 0, .int .i64 0] 125 (0, 0)) := by rw [hw0]; exact heap_alloc_new w _
  have hz0 : w0.heap.size = w.heap.size + 1 := by rw [hw0]; exact World.size_alloc _ _
  by_cases h1 : off < 0
  · have d1 : decide (off < 0) = true := decide_eq_true h1
    have hfin : atR l off = ((0, 0), 5) := by unfold atR; rw [if_pos (.inl h1)]
    rw [hfin]
    have HW := Lib.hid hw0
    clear hfin h1 hw0 hby hrb
    go_enter Try.func83, Try.ntmps83
    go_wp2_with fail
    rw [← HW.out]
    exact bodyPost_ret (results_cell_two (fn := Try.f83) (p := 4) (u := 5) rfl _ _ _ _ _ _ _ rfl hg0 rfl rfl rfl) rfl ⟨rfl, hB0⟩
  · have d1 : decide (off < 0) = false := decide_eq_false h1
    by_cases h2 : (s.size : Int) < off
    · have d2 : decide ((s.size : Int) < off) = true := decide_eq_true h2
      have hfin : atR l off = ((0, 0), 5) := by unfold atR; rw [if_pos (.inr (by omega))]
      rw [hfin]
      have HW := Lib.hid hw0
      clear hfin h1 h2 hw0 hby hrb
      go_enter Try.func83, Try.ntmps83
      go_wp2_with fail
      rw [← HW.out]
      exact bodyPost_ret (results_cell_two (fn := Try.f83) (p := 4) (u := 5) rfl _ _ _ _ _ _ _ rfl hg0 rfl rfl rfl) rfl ⟨rfl, hB0⟩
    · obtain ⟨o, rfl⟩ : ∃ o : Nat, off = o := ⟨off.toNat, by omega⟩
      have hos : o ≤ s.size := by omega
      have d2 : decide ((s.size : Int) < (o : Int)) = false := decide_eq_false (by omega)
      have d2' : decide (s.size < o) = false := decide_eq_false (by omega)
      have hfin : atR l (o : Int) = if o ∈ bordL l 0 then (((scanNl (l.take o) 0 0 0).1, unitsL ((l.take o).drop (scanNl (l.take o) 0 0 0).2)), 0) else ((0, 0), 1) := by
        unfold atR; rw [if_neg (by omega)]; simp only [Int.toNat_natCast]
      rw [hfin]
      have HW := Lib.hid hw0
      have HBY := Lib.hid hby
      have HRB := Lib.hid (hrb w0)
      clear hfin h1 h2 hw0 hby hrb
      obtain ⟨L, hL⟩ : ∃ L, bordL l 0 = L := ⟨_, rfl⟩
      rw [hL] at HRB ⊢
      by_cases hm : o ∈ L
      · have hdm : decide ((o : Int) ∈ L.map Int.ofNat) = true := decide_eq_true ((mem_ofNat L o).2 hm)
        rw [if_pos hm]
        have HDM := Lib.hid hdm
        clear hdm hm hL
        go_enter Try.func83, Try.ntmps83
        go_wp2_with fail
        rw [← HW.out]
        refine HRB.out.mono ?_
        rintro e w1 ⟨v, rfl, hown, hb1⟩
        rw [natV_int] at hown
        obtain ⟨a1, c1, rfl, hs1⟩ := ownsRow_sliceMap hown
        have hha := hasI_any a1 c1 (L.map Int.ofNat) o w1 hs1
        rw [HDM.out] at hha
        rw [List.length_map] at hha ⊢
        have HHA := Lib.hid hha
        have hg1 : w1.heap[w.heap.size]? = some (.cells #[.int .i64 0, .int .i64 0] 125 (0, 0)) := by
          rw [hb1.block _ (by omega)]; exact hg0
        have hB1 : Below w.heap.size w w1 := Below.step hB0 hb1
        obtain ⟨k0, k1, k2⟩ := pos_facts hg1
        clear hown hb1 hs1 hha HRB
        go_wp2_with fail
        refine HHA.out.mono ?_
        rintro e w2 ⟨rfl, rfl⟩
        go_wp2_with fail
        go_loop [7, 8, 9] (fun lv fv iv => ∃ i ln fr : Nat, i ≤ o ∧ iv = .int .i64 i ∧ lv = .int .i64 ln ∧ fv = .int .i64 fr ∧ ln ≤ i ∧ fr ≤ i ∧ Hid (scanNl ((l.take o).drop i) i ln fr = scanNl (l.take o) 0 0 0)) (fun _ _ iv => o - (intOf iv).toNat)
        case atStart => exact ⟨0, 0, 0, by omega, rfl, rfl, rfl, by omega, by omega, by unfold Hid; simp⟩
        case round =>
          obtain ⟨i, ln, fr, hio, rfl, rfl, rfl, hln, hfr, hE⟩ := hrel
          by_cases hlt : i < o
          · have d3 : decide ((i : Int) < (o : Int)) = true := decide_eq_true (by omega)
            have d3' : decide (i < o) = true := decide_eq_true hlt
            have his : i < s.size := by omega
            have hg := HBY.out i his
            have hg8 := by8_lt l i
            have hst := scan_step (l := l.take o) (k := i) (ln := ln) (fr := fr) (by rw [List.length_take]; omega)
            rw [by8_take hlt] at hst
            by_cases hnl : by8 l i = 10
            · have hq : ((s[i].toNat : Int) == 10) = true := by rw [hg]; simp; omega
              rw [if_pos hnl] at hst
              have hE2 : Hid (scanNl ((l.take o).drop (i + 1)) (i + 1) (ln + 1) (i + 1) = scanNl (l.take o) 0 0 0) := by unfold Hid; rw [← hE.out, hst]
              clear hst hE hg hnl
              go_wp2_with fail
              go_round
              case rel => exact ⟨i + 1, ln + 1, i + 1, by omega, by go_num, by go_num, by go_num, by omega, by omega, hE2⟩
              case measure => simp [intOf]; omega
            · have hq : ((s[i].toNat : Int) == 10) = false := by rw [hg]; simp; omega
              rw [if_neg hnl] at hst
              have hE2 : Hid (scanNl ((l.take o).drop (i + 1)) (i + 1) ln fr = scanNl (l.take o) 0 0 0) := by unfold Hid; rw [← hE.out, hst]
              clear hst hE hg hnl
              go_wp2_with fail
              go_round
              case rel => exact ⟨i + 1, ln, fr, by omega, by go_num, rfl, rfl, by omega, by omega, hE2⟩
              case measure => simp [intOf]; omega
          · have d3 : decide ((i : Int) < (o : Int)) = false := decide_eq_false (by omega)
            have d3' : decide (i < o) = false := decide_eq_false hlt
            obtain rfl : i = o := by omega
            have hsc : scanNl (l.take i) 0 0 0 = (ln, fr) := by
              rw [← hE.out, List.drop_of_length_le (by rw [List.length_take]; omega)]; rfl
            have HSC := Lib.hid hsc
            obtain ⟨t, hext⟩ : ∃ t, s.extract fr i = t := ⟨_, rfl⟩
            have htl : t.data.toList = (l.take i).drop fr := by rw [← hext, extract_list, hl]
            have hts : t.size ≤ s.size := by rw [← hext]; simp [ByteArray.size_extract]; omega
            have hru := runits_any t w1 (by omega)
            rw [htl] at hru
            have HRU := Lib.hid hru
            clear hsc hE htl hru
            go_wp2_with fail
            refine HRU.out.mono ?_
            rintro e w2 ⟨rfl, rfl⟩
            go_wp2_with fail
            have hfin := two_set (u := .int .i64 (ln : Int)) (v := .int .i64 (unitsL ((l.take i).drop fr) : Int)) hg1
            exact bodyPost_ret (results_cell_two (fn := Try.f83) (p := 4) (u := 5) rfl _ _ _ _ _ _ _ rfl hfin rfl rfl rfl) rfl ⟨by rw [HSC.out]; rfl, (hB1.setCell (p := ⟨w.heap.size, 0, none⟩) (Nat.le_refl _) _).setCell (p := ⟨w.heap.size, 1, none⟩) (Nat.le_refl _) _⟩
      · have hdm : decide ((o : Int) ∈ L.map Int.ofNat) = false := decide_eq_false (fun h => hm ((mem_ofNat L o).1 h))
        rw [if_neg hm]
        have HDM := Lib.hid hdm
        clear hdm hm hL
        go_enter Try.func83, Try.ntmps83
        go_wp2_with fail
        rw [← HW.out]
        refine HRB.out.mono ?_
        rintro e w1 ⟨v, rfl, hown, hb1⟩
        rw [natV_int] at hown
        obtain ⟨a1, c1, rfl, hs1⟩ := ownsRow_sliceMap hown
        have hha := hasI_any a1 c1 (L.map Int.ofNat) o w1 hs1
        rw [HDM.out] at hha
        rw [List.length_map] at hha ⊢
        have HHA := Lib.hid hha
        have hg1 : w1.heap[w.heap.size]? = some (.cells #[.int .i64 0, .int .i64 0] 125 (0, 0)) := by
          rw [hb1.block _ (by omega)]; exact hg0
        have hB1 : Below w.heap.size w w1 := Below.step hB0 hb1
        obtain ⟨k0, k1, k2⟩ := pos_facts hg1
        clear hown hb1 hs1 hha HRB
        go_wp2_with fail
        refine HHA.out.mono ?_
        rintro e w2 ⟨rfl, rfl⟩
        go_wp2_with fail
        have hfin := two_set (u := .int .i64 0) (v := .int .i64 0) hg1
        exact bodyPost_ret (results_cell_two (fn := Try.f83) (p := 4) (u := 5) rfl _ _ _ _ _ _ _ rfl hfin rfl rfl rfl) rfl ⟨rfl, (hB1.setCell (p := ⟨w.heap.size, 0, none⟩) (Nat.le_refl _) _).setCell (p := ⟨w.heap.size, 1, none⟩) (Nat.le_refl _) _⟩
set_option maxRecDepth 100000 in
set_option maxHeartbeats 1000000 in
theorem offset_any (s : ByteArray) (line unit : Int) (w : World) (hs : s.size ≤ 1099511627776) (hl1 : -9223372036854775808 ≤ line) (hl2 : line ≤ 9223372036854775807) (hu1 : -9223372036854775808 ≤ unit) (hu2 : unit ≤ 9223372036854775807) :
    Calls Try.prog 100 #[.string s, .agg #[.int .i64 line, .int .i64 unit]] w fun e w' => e = .returned (.tuple #[.int .i64 (offC s.data.toList line unit).1, .int .i64 (offC s.data.toList line unit).2]) ∧ Below w.heap.size w w' := by
  obtain ⟨l, hl⟩ : ∃ l, s.data.toList = l := ⟨_, rfl⟩
  have hsz : l.length = s.size := by rw [← hl]; rfl
  obtain ⟨w0, hw0⟩ : ∃ w0, w0 = w.alloc (.cells #[.int .i64 line, .int .i64 unit] 125) := ⟨_, rfl⟩
  have hB0 : Below w.heap.size w w0 := by rw [hw0]; exact (Below.refl _ w).alloc (Nat.le_refl _) _
  have hg0 : w0.heap[w.heap.size]? = some (.cells #[.int .i64 line, .int .i64 unit] 125 (0, 0)) := by rw [hw0]; exact heap_alloc_new w _
  have hz0 : w0.heap.size = w.heap.size + 1 := by rw [hw0]; exact World.size_alloc _ _
  have hli := lines_any s w0 hs
  have hlen := linesL_len l
  rw [hl] at hli ⊢
  have hgd : ∀ j (h : j < (linesL l).length), (linesL l)[j] = (linesL l).getD j 0 := by
    intro j h; rw [List.getD_eq_getElem?_getD, List.getElem?_eq_getElem h]; rfl
  have hseg := fun j => seg_line (l := l) (j := j)
  have hof : offC l line unit = if line < 0 ∨ ((linesL l).length : Int) ≤ line ∨ unit < 0 then (0, 5) else offF (l.drop ((linesL l).getD line.toNat 0)) ((linesL l).getD line.toNat 0) 0 unit.toNat := rfl
  generalize offC l line unit = R at *
  generalize linesL l = L at *
  have HW := Lib.hid hw0
  have HLI := Lib.hid hli
  by_cases h1 : line < 0
  · have d1 : decide (line < 0) = true := decide_eq_true h1
    rw [if_pos (.inl h1)] at hof
    rw [hof]
    clear hof h1 hw0 hli hseg hgd
    go_enter Try.func100, Try.ntmps100
    go_wp2_with fail
    rw [← HW.out]
    refine HLI.out.mono ?_
    rintro e w1 ⟨v, rfl, hown, hb1⟩
    obtain ⟨a1, c1, rfl, hs1⟩ := ownsRow_sliceMap hown
    have hg1 : w1.heap[w.heap.size]? = some (.cells #[.int .i64 line, .int .i64 unit] 125 (0, 0)) := by rw [hb1.block _ (by omega)]; exact hg0
    obtain ⟨k0, k1, -⟩ := pos_facts hg1
    go_wp2_with fail
    go_ret2
    exact ⟨rfl, Below.step hB0 hb1⟩
  · have d1 : decide (line < 0) = false := decide_eq_false h1
    by_cases h2 : (L.length : Int) ≤ line
    · have d2 : decide ((L.length : Int) ≤ line) = true := decide_eq_true h2
      rw [if_pos (.inr (.inl h2))] at hof
      rw [hof]
      clear hof h1 h2 hw0 hli hseg hgd
      go_enter Try.func100, Try.ntmps100
      go_wp2_with fail
      rw [← HW.out]
      refine HLI.out.mono ?_
      rintro e w1 ⟨v, rfl, hown, hb1⟩
      obtain ⟨a1, c1, rfl, hs1⟩ := ownsRow_sliceMap hown
      have hg1 : w1.heap[w.heap.size]? = some (.cells #[.int .i64 line, .int .i64 unit] 125 (0, 0)) := by rw [hb1.block _ (by omega)]; exact hg0
      obtain ⟨k0, k1, -⟩ := pos_facts hg1
      go_wp2_with fail
      go_ret2
      exact ⟨rfl, Below.step hB0 hb1⟩
    · have d2 : decide ((L.length : Int) ≤ line) = false := decide_eq_false h2
      by_cases h3 : unit < 0
      · have d3 : decide (unit < 0) = true := decide_eq_true h3
        rw [if_pos (.inr (.inr h3))] at hof
        rw [hof]
        clear hof h1 h2 h3 hw0 hli hseg hgd
        go_enter Try.func100, Try.ntmps100
        go_wp2_with fail
        rw [← HW.out]
        refine HLI.out.mono ?_
        rintro e w1 ⟨v, rfl, hown, hb1⟩
        obtain ⟨a1, c1, rfl, hs1⟩ := ownsRow_sliceMap hown
        have hg1 : w1.heap[w.heap.size]? = some (.cells #[.int .i64 line, .int .i64 unit] 125 (0, 0)) := by rw [hb1.block _ (by omega)]; exact hg0
        obtain ⟨k0, k1, -⟩ := pos_facts hg1
        go_wp2_with fail
        go_ret2
        exact ⟨rfl, Below.step hB0 hb1⟩
      · have d3 : decide (unit < 0) = false := decide_eq_false h3
        rw [if_neg (by omega)] at hof
        obtain ⟨ln, rfl⟩ : ∃ n : Nat, line = n := ⟨line.toNat, by omega⟩
        obtain ⟨u, rfl⟩ : ∃ n : Nat, unit = n := ⟨unit.toNat, by omega⟩
        simp only [Int.toNat_natCast] at hof
        have hixl : ln < L.length := by omega
        have d2' : decide (L.length ≤ ln) = false := decide_eq_false (by omega)
        have hg := hgd ln hixl
        have hatl := (hseg ln hixl).1
        rw [hof]
        generalize L.getD ln 0 = at0 at *
        have HGD := Lib.hid hg
        obtain ⟨t, hext⟩ : ∃ t, s.extract at0 s.size = t := ⟨_, rfl⟩
        have htl : t.data.toList = l.drop at0 := by rw [← hext, extract_list, hl, List.take_of_length_le (by omega)]
        have hts : t.size = s.size - at0 := by rw [← hext]; simp [ByteArray.size_extract]
        have HTL := Lib.hid htl
        clear hof h1 h2 h3 hw0 hli hseg hgd hg htl
        go_enter Try.func100, Try.ntmps100
        go_wp2_with fail
        rw [← HW.out]
        refine HLI.out.mono ?_
        rintro e w1 ⟨v, rfl, hown, hb1⟩
        obtain ⟨a1, c1, rfl, hs1⟩ := ownsRow_sliceMap hown
        obtain ⟨b, off', rfl⟩ := hs1.addr (by simp; omega)
        have f1 := hs1.natV hixl
        rw [HGD.out] at f1
        have hg1 : w1.heap[w.heap.size]? = some (.cells #[.int .i64 ln, .int .i64 u] 125 (0, 0)) := by rw [hb1.block _ (by omega)]; exact hg0
        obtain ⟨k0, k1, -⟩ := pos_facts hg1
        have hB1 : Below w.heap.size w w1 := Below.step hB0 hb1
        have q1 : ∀ p, (w1.iter t p).cell? ⟨w.heap.size, 1, none⟩ = some (.int .i64 u) := fun p => Below.kept (below_iter w1 t p) (Nat.le_refl _) k1
        clear hown hb1 HLI hs1
        go_wp2_with fail
        go_loopw [8] (fun nv wr => ∃ pos acc : Nat, wr = w1.iter t pos ∧ nv = .int .i64 acc ∧ pos ≤ t.size ∧ acc ≤ pos ∧ Hid (offF (l.drop (at0 + pos)) (at0 + pos) acc u = offF (l.drop at0) at0 0 u)) (fun _ wr => t.size - wr.iterPos w1.heap.size)
        case atStart => exact ⟨0, 0, rfl, rfl, by omega, by omega, rfl⟩
        case round =>
          obtain ⟨pos, acc, rfl, rfl, hp, hap, hE⟩ := hrel
          have hBi : ∀ q, Below w.heap.size w (w1.iter t q) := fun q => Below.step hB1 (below_iter w1 t q)
          by_cases hlt : pos < t.size
          · obtain ⟨r, hr, hu, h10, hnx⟩ := next_at Try.prog w1 t pos hlt
            rw [HTL.out, List.drop_drop] at hu hnx h10
            have hne := drop_ne (l := l) (p := at0 + pos) (by omega)
            have hc1 := chL_pos (l.drop (at0 + pos))
            have hc2 := chL_le hne
            have hc3 := chL_u2 (l.drop (at0 + pos))
            have hdl : (l.drop (at0 + pos)).length = l.length - (at0 + pos) := List.length_drop
            have hst := offF_cons hne (at0 + pos) acc u
            rw [List.drop_drop] at hst
            obtain ⟨cw, cu, hcc⟩ : ∃ cw cu, chL (l.drop (at0 + pos)) = (cw, cu) := ⟨_, _, rfl⟩
            rw [hcc] at hu hnx hc1 hc2 hc3 hst
            simp only at hu hnx hc1 hc2 hc3 hst
            by_cases h1 : acc = u
            · rw [if_pos h1] at hst
              have x1 : ((acc : Int) == (u : Int)) = true := by simp; omega
              have HE : Hid (offF (l.drop at0) at0 0 u = (at0 + pos, 0)) := by unfold Hid; rw [← hE.out, hst]
              clear hst hE hcc hne
              go_wp2_with fail
              go_ret2
              exact ⟨by rw [HE.out]; rfl, hBi _⟩
            · have x1 : ((acc : Int) == (u : Int)) = false := by simp; omega
              rw [if_neg h1] at hst
              by_cases h2 : u < acc
              · rw [if_pos h2] at hst
                have x2 : decide ((u : Int) < (acc : Int)) = true := decide_eq_true (by omega)
                have x2' : decide (u < acc) = true := decide_eq_true h2
                have HE : Hid (offF (l.drop at0) at0 0 u = (0, 1)) := by unfold Hid; rw [← hE.out, hst]
                clear hst hE hcc hne h1
                go_wp2_with fail
                go_ret2
                exact ⟨by rw [HE.out]; rfl, hBi _⟩
              · rw [if_neg h2] at hst
                have x2 : decide ((u : Int) < (acc : Int)) = false := decide_eq_false (by omega)
                have x2' : decide (u < acc) = false := decide_eq_false h2
                by_cases h3 : by8 (l.drop (at0 + pos)) 0 = 10
                · rw [if_pos h3] at hst
                  have x3 : ((r : Int) == 10) = true := by have := h10.2 h3; simp; omega
                  have HE : Hid (offF (l.drop at0) at0 0 u = (0, 5)) := by unfold Hid; rw [← hE.out, hst]
                  clear hst hE hcc hne h1 h10 h3
                  go_wp2_with fail
                  go_ret2
                  exact ⟨by rw [HE.out]; rfl, hBi _⟩
                · rw [if_neg h3] at hst
                  have x3 : ((r : Int) == 10) = false := by have : r ≠ 10 := fun h => h3 (h10.1 h)
                                                            simp; omega
                  have HE : Hid (offF (l.drop (at0 + (pos + cw))) (at0 + (pos + cw)) (acc + cu) u = offF (l.drop at0) at0 0 u) := by unfold Hid; rw [← hE.out, hst, Nat.add_assoc]
                  clear hst hE hcc hne h1 h2 h10 h3
                  go_wp2_with fail
                  refine (units1_any r _ hr).mono ?_
                  rintro e w5 ⟨rfl, rfl⟩
                  rw [hu]
                  go_wp2_with fail
                  go_roundw
                  case rel => exact ⟨pos + cw, acc + cu, rfl, by go_num, by omega, by omega, HE⟩
                  case measure => simp; omega
          · have hnx : ∀ ty, (Instr.next (.pointer (some ⟨w1.heap.size, 0, none⟩)) true ty).run Try.prog (w1.iter t pos) = _ := fun ty => run_next_end w1 t pos ty hlt
            have hst : offF (l.drop (at0 + pos)) (at0 + pos) acc u = if acc = u then (s.size, 0) else if u < acc then (0, 1) else (0, 5) := by
              rw [List.drop_of_length_le (by omega), offF_nil, show at0 + pos = s.size by omega]
            by_cases h1 : acc = u
            · rw [if_pos h1] at hst
              have x1 : ((acc : Int) == (u : Int)) = true := by simp; omega
              have HE : Hid (offF (l.drop at0) at0 0 u = (s.size, 0)) := by unfold Hid; rw [← hE.out, hst]
              clear hst hE
              go_wp2_with fail
              go_ret2
              exact ⟨by rw [HE.out]; rfl, hBi _⟩
            · have x1 : ((acc : Int) == (u : Int)) = false := by simp; omega
              rw [if_neg h1] at hst
              by_cases h2 : u < acc
              · rw [if_pos h2] at hst
                have x2 : decide ((u : Int) < (acc : Int)) = true := decide_eq_true (by omega)
                have x2' : decide (u < acc) = true := decide_eq_true h2
                have HE : Hid (offF (l.drop at0) at0 0 u = (0, 1)) := by unfold Hid; rw [← hE.out, hst]
                clear hst hE h1
                go_wp2_with fail
                go_ret2
                exact ⟨by rw [HE.out]; rfl, hBi _⟩
              · rw [if_neg h2] at hst
                have x2 : decide ((u : Int) < (acc : Int)) = false := decide_eq_false (by omega)
                have x2' : decide (u < acc) = false := decide_eq_false h2
                have HE : Hid (offF (l.drop at0) at0 0 u = (0, 5)) := by unfold Hid; rw [← hE.out, hst]
                clear hst hE h1 h2
                go_wp2_with fail
                go_ret2
                exact ⟨by rw [HE.out]; rfl, hBi _⟩
end Go.Proofs.Ytmonpnikdheokaa
