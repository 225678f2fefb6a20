/-
  The law SessionOrder.
-/
import Derived.Test.YtaonhmdifinadaaSesI
import Derived.Test.YtaonhmdifinadaaSesK0
import Derived.StillTailTactics
import Derived.Deep.DeepCutAuto
import Derived.Deep.CutBlock
namespace Go.Proofs.Ytaonhmdifinadaa
open Go Go.Proofs
open Go.RowKit
set_option linter.unusedVariables false
set_option linter.unusedSimpArgs false

/-! ### The law's state in memory -/
structure RW (w wr : World) (o : Nat → Nat) (b : Nat) (S : SesS) (ov : Value) (ops : List OpM) (tb : Nat) (t : Rq) : Prop where
  since : Step (fun x => x ≠ 0) w (fun _ => 0) wr o
  ses : SesP wr o 1 b S
  ops : OpsL wr o 21 ov ops
  tk : Blk wr o 24 tb (rqC t)
section
variable {L : Nat → Prop} {w wr w' : World} {o o' : Nat → Nat} {b : Nat} {S S' : SesS} {ov : Value} {ops : List OpM} {tb : Nat} {t t' : Rq}
theorem RW.step (h : RW w wr o b S ov ops tb t) (hs : Step L wr o w' o') (h0 : ∀ l, l < 25 → ¬ L l) : RW w w' o' b S ov ops tb t :=
  ⟨h.since.trans (hs.mono fun l hl e => h0 l (by omega) hl), h.ses.step hs fun l hl => h0 l (by unfold Own at hl; omega), h.ops.step hs (h0 0 (by omega)) (h0 21 (by omega)), h.tk.step hs (h0 24 (by omega))⟩
theorem RW.same (h : RW w wr o b S ov ops tb t) (hb : Below wr.heap.size wr w') : RW w w' o b S ov ops tb t := h.step (L := fun _ => False) (Step.same hb) fun _ _ h => h
theorem RW.setS (h : RW w wr o b S ov ops tb t) (hs : Step (Own 1) wr o w' o') (hS : SesP w' o' 1 b S') : RW w w' o' b S' ov ops tb t :=
  ⟨h.since.trans (hs.mono fun l hl e => by unfold Own at hl; omega), hS, h.ops.step hs (by unfold Own; omega) (by unfold Own; omega), h.tk.step hs (by unfold Own; omega)⟩
theorem RW.setT (h : RW w wr o b S ov ops tb t) (hs : Step (· = 24) wr o w' o') (hT : Blk w' o' 24 tb (rqC t')) : RW w w' o' b S ov ops tb t' :=
  ⟨h.since.trans (hs.mono fun l hl e => by omega), h.ses.step hs fun l hl => by unfold Own at hl; omega, h.ops.step hs (by omega) (by omega), hT⟩
theorem RW.below (h : RW w wr o b S ov ops tb t) : Below w.heap.size w wr := h.since.toBelow (Nat.le_refl _) fun k _ h => h rfl
end
theorem Blk.setSixL {w : World} {o : Nat → Nat} {l b : Nat} {z0 z1 z2 z3 z4 z5 : Value} (h : Blk w o l b [z0, z1, z2, z3, z4, z5]) (v0 v1 v2 v3 v4 v5 : Value) :
    Step (· = l) w o ((((((w.setCell ⟨b, 0, none⟩ v0).setCell ⟨b, 1, none⟩ v1).setCell ⟨b, 2, none⟩ v2).setCell ⟨b, 3, none⟩ v3).setCell ⟨b, 4, none⟩ v4).setCell ⟨b, 5, none⟩ v5) o ∧
    Blk ((((((w.setCell ⟨b, 0, none⟩ v0).setCell ⟨b, 1, none⟩ v1).setCell ⟨b, 2, none⟩ v2).setCell ⟨b, 3, none⟩ v3).setCell ⟨b, 4, none⟩ v4).setCell ⟨b, 5, none⟩ v5) o l b [v0, v1, v2, v3, v4, v5] := by
  have hl := h.lab
  exact ⟨((((((Step.refl _ w o).set (p := ⟨b, 0, none⟩) hl v0).set (p := ⟨b, 1, none⟩) hl v1).set (p := ⟨b, 2, none⟩) hl v2).set (p := ⟨b, 3, none⟩) hl v3).set (p := ⟨b, 4, none⟩) hl v4).set (p := ⟨b, 5, none⟩) hl v5,
    (((((h.set 0 v0).set 1 v1).set 2 v2).set 3 v3).set 4 v4).set 5 v5⟩
theorem OrdStep.len {last : Int} {taken : Rq} {ats v : List Vn} {t : ByteArray} {S : SesS} (h : OrdStep last taken ats v t S) : S.rq.length ≤ 65 := h.next.good.len

set_option maxRecDepth 100000 in
set_option maxHeartbeats 8000000 in
theorem sessionOrder_walk (a : Option Addr) (cap : Nat) (xs : List Int) (w : World) (hx : SliceAt w a cap (xs.map intV)) (hb : ∀ n ∈ xs, -9223372036854775808 ≤ n ∧ n ≤ 9223372036854775807) :
    Calls Try.prog 4 #[.slice a xs.length cap] w fun e w' => e = .returned (.bool true) ∧ Below w.heap.size w w' := by
  have hxl := hx.len
  simp only [List.length_map] at hxl
  have HX := Lib.hid hx
  have HB := Lib.hid hb
  clear hx hb
  go_enter Try.func4, Try.ntmps4
  go_wp2_with fail
  refine (snew_any 1 w (fun _ => 0)).mono ?_
  rintro e w1 ⟨b, rfl, o1, hs1, hS1⟩
  have hd1 : Dat w1 o1 0 a cap (xs.map intV) := Dat.step ⟨HX.out, fun _ _ _ _ => rfl⟩ hs1 (fun h => h)
  have K1 := Lib.hid (ops_any a cap xs 21 w1 o1 hd1 HB.out (by decide))
  have HST1 := Lib.hid (hs1.mono (L' := fun x => x ≠ 0) fun _ h => h.elim)
  have HS1 := Lib.hid hS1
  clear hs1 hS1 hd1
  go_wp2_with fail
  refine K1.out.mono ?_
  rintro e w2 ⟨v, o2, ops, rfl, hs2, hops, hlen⟩
  obtain ⟨ra, rc, rfl⟩ := hops.1.form
  have hle := hops.1.recAt.2.le
  have hcl := hops.1.recAt.2.cap_le
  obtain ⟨n, hn⟩ : ∃ n, ops.length = n := ⟨_, rfl⟩
  have hn30 : n ≤ 30 := by omega
  obtain ⟨w3, hw3⟩ : ∃ x, x = w2.alloc (.cells #[.int .i64 0, .int .i64 0, .string ⟨#[]⟩, .int .i64 0, .int .i64 0, .string ⟨#[]⟩] 44) := ⟨_, rfl⟩
  obtain ⟨o3, ho3⟩ : ∃ x, newLab w2 o2 24 = x := ⟨_, rfl⟩
  have hs3 : Step (fun _ => False) w2 o2 w3 o3 := by rw [hw3, ← ho3]; exact Step.newBlk _ _ _
  have hb3 : Blk w3 o3 24 w2.heap.size (rqC zeroR) := by rw [hw3, ← ho3]; exact ⟨_, heap_alloc_new _ _, newLab_new _ _ _ (Nat.le_refl _)⟩
  have hOW : RW w w3 o3 b newS (.slice ra ops.length rc) ops w2.heap.size zeroR :=
    ⟨(HST1.out.trans (hs2.mono fun l hl => by omega)).trans (hs3.mono fun _ h => h.elim), (HS1.out.step hs2 (fun l hl => by unfold Own at hl; omega)).step hs3 (fun _ _ h => h), hops.step hs3 (fun h => h) (fun h => h), hb3⟩
  rw [hn] at hOW hle ⊢
  have HN := Lib.hid hn
  have HW3 := Lib.hid hw3
  have HOW := Lib.hid hOW
  clear hs2 hops hlen hn hOW K1 HST1 HS1 hw3 ho3 hs3 hb3
  go_wp2_with fail
  rw [← HW3.out]
  obtain ⟨tb, htb⟩ : ∃ tb, w2.heap.size = tb := ⟨_, rfl⟩
  rw [htb] at HOW ⊢
  clear htb HW3
  go_loopw [5, 7, 8] (fun lv tv iv wr => ∃ (i : Nat) (o : Nat → Nat) (S : SesS) (last : Int) (t : Rq) (ta : Option Addr) (tc : Nat) (ts : List Vn), i ≤ n ∧ iv = .int .i64 i ∧ lv = .int .i64 last ∧ tv = .slice ta ts.length tc ∧ ts.length ≤ 2 ∧ Hid (Ord last t ts S) ∧ Hid (RW w wr o b S (.slice ra n rc) ops tb t) ∧ Hid (RecD vnC 2 wr o 0 ta tc ts)) (fun _ _ iv _ => 100 - (intOf iv).toNat)
  case atStart => exact ⟨0, o3, newS, 0, zeroR, none, 0, [], by omega, rfl, rfl, rfl, by decide, ord_new _ _, HOW.out, RecAt.nil _, fun h => by simp at h⟩
  case round =>
    clear HOW
    obtain ⟨i, o, S, last, tk, ta, tc, ts, hi, rfl, rfl, rfl, hts, HI, HM, HL⟩ := hrel
    have hrl := HI.out.good.len
    have hrn := HI.out.good.run
    have hz := HI.out.an
    have HZ := Lib.hid hz
    have HRN := Lib.hid hrn
    have HG := Lib.hid HI.out.good
    clear hz hrn
    by_cases hin2 : i < n
    · have d2 : decide (i < n) = true := decide_eq_true hin2
      have d2' : decide ((i : Int) < (n : Int)) = true := decide_eq_true (by omega)
      obtain ⟨m, hm⟩ : ∃ m, ops[i]? = some m := ⟨ops[i]'(by rw [HN.out]; exact hin2), List.getElem?_eq_getElem _⟩
      obtain ⟨g, c, hsl, hgc, hgm, hop, hcells⟩ := HM.out.ops.cells hm
      rw [HN.out] at hgc
      simp only [Value.slice.injEq] at hsl
      obtain ⟨rfl, -, rfl⟩ := hsl
      obtain ⟨kd, ⟨ri, rk, rd, rv, rof, rt⟩, nn, ee, oa, oc, ol⟩ := m
      have c0 := hcells 0 _ rfl
      have c1 := hcells 1 _ rfl
      have c2 := hcells 2 _ rfl
      have c3 := hcells 3 _ rfl
      have c4 := hcells 4 _ rfl
      have c5 := hcells 5 _ rfl
      have c6 := hcells 6 _ rfl
      have c7 := hcells 7 _ rfl
      have c8 := hcells 8 _ rfl
      have c9 := hcells 9 _ rfl
      simp only [Nat.add_zero] at c0
      obtain ⟨hob, hol⟩ := hop
      have hkk := opB_kind hob
      have hod := hob.d
      have hot := hob.t
      have hl2 := hob.l
      simp only at c0 c1 c2 c3 c4 c5 c6 c7 c8 c9 hkk hod hot hl2
      obtain ⟨w4, hw4⟩ : ∃ x, x = wr.alloc (.cells #[.int .i64 kd, .int .i64 ri, .int .i64 rk, .string rd, .int .i64 rv, .int .i64 rof, .string rt, .int .i64 nn, .int .i64 ee, .slice oa ol.length oc] 63) := ⟨_, rfl⟩
      obtain ⟨o4, ho4⟩ : ∃ x, newLab wr o 0 = x := ⟨_, rfl⟩
      have hs4 : Step (fun _ => False) wr o w4 o4 := by rw [hw4, ← ho4]; exact Step.newBlk _ _ _
      have hb4 : Blk w4 o4 0 wr.heap.size [.int .i64 kd, .int .i64 ri, .int .i64 rk, .string rd, .int .i64 rv, .int .i64 rof, .string rt, .int .i64 nn, .int .i64 ee, .slice oa ol.length oc] := by
        rw [hw4, ← ho4]; exact ⟨_, heap_alloc_new _ _, newLab_new _ _ _ (Nat.le_refl _)⟩
      have hol4 := hol.step hs4 (fun h => h)
      have hocm := hol.1.cap_le
      have hocl := hol.1.le
      simp only at hol4 hocm hocl
      have K4 := Lib.hid (versions_any oa oc ol w4 hol4.1 (by omega))
      have HM4 := Lib.hid (HM.out.step hs4 fun _ _ h => h)
      have HL4 := Lib.hid (HL.out.step hs4 fun h => h)
      have HB4 := Lib.hid hb4
      have HW4 := Lib.hid hw4
      clear hm hcells hob hol hw4 ho4 hs4 hb4 hol4 HM
      go_wp2_with fail
      rw [← HW4.out]
      clear c1 c2 c3 c4 c5 c6 c7 c8 c9
      refine K4.out.mono ?_
      rintro e w5 ⟨v5, rfl, hown5, hb5⟩
      obtain ⟨va, vc, rfl, hxd⟩ := RecD.new (o := o4) (l := 0) hown5
      obtain ⟨o5, ho5⟩ : ∃ x, newLab w4 o4 0 = x := ⟨_, rfl⟩
      rw [ho5] at hxd
      have hs5 : Step (fun _ => False) w4 o4 w5 o5 := by rw [← ho5]; exact Step.below hb5 fun k hk => newLab_old _ _ _ hk
      have HM5 := Lib.hid (HM4.out.step hs5 fun _ _ h => h)
      have HL5 := Lib.hid (HL4.out.step hs5 fun h => h)
      have hB5 := HB4.out.step hs5 fun h => h
      have HX5 := Lib.hid hxd
      have hvcm := hxd.1.cap_le
      have hvcl := hxd.1.le
      have c0 := hB5.cell (j := 0) rfl
      have c1 := hB5.cell (j := 1) rfl
      have c2 := hB5.cell (j := 2) rfl
      have c3 := hB5.cell (j := 3) rfl
      have c4 := hB5.cell (j := 4) rfl
      have c5 := hB5.cell (j := 5) rfl
      have c6 := hB5.cell (j := 6) rfl
      have c7 := hB5.cell (j := 7) rfl
      have c8 := hB5.cell (j := 8) rfl
      have c9 := hB5.cell (j := 9) rfl
      have HB5 := Lib.hid hB5
      obtain ⟨gw, hgw⟩ : ∃ gw, wr.heap.size = gw := ⟨_, rfl⟩
      rw [hgw] at c0 c1 c2 c3 c4 c5 c6 c7 c8 c9 HB5 ⊢
      clear hown5 ho5 hs5 hb5 hB5 hxd K4 HM4 HL4 HB4 HW4 hgw
      go_upto_block 2 with fail
      go_cut [7] (fun s7 wx => ∃ (o : Nat → Nat) (S : SesS) (t : Rq) (ta : Option Addr) (tc : Nat) (ts : List Vn), s7 = .slice ta ts.length tc ∧ ts.length ≤ 2 ∧ Hid (OrdStep last t ts ol ⟨#[116]⟩ S) ∧ Hid (Good S) ∧ Hid (S.an.length ≤ 100) ∧ Hid (RW w wx o b S (.slice (some ⟨g, 0, none⟩) n rc) ops tb t) ∧ Hid (RecD vnC 2 wx o 0 ta tc ts) ∧ Hid (RecD vnC 2 wx o 0 va vc ol))
      case first =>
        rcases hkk with rfl | rfl | rfl | rfl | rfl
        · as_aux_lemma =>
          clear c7 c8 c9
          go_wp2_with fail
          refine (of_any ⟨ri, rk, rd, rv, rof, rt⟩ w5).mono ?_
          rintro e w6 ⟨rfl, hb6⟩
          have HM6 := Lib.hid (HM5.out.same hb6)
          have HL6 := Lib.hid (HL5.out.same hb6)
          have HX6 := Lib.hid (HX5.out.same hb6)
          have K6 := Lib.hid (begin_any 1 b S ⟨ri, rk, rd, rv, rof, rt⟩ w6 o5 (by omega) HM6.out.ses HG.out (by show rd.size ≤ _; omega) (by show rt.size ≤ _; omega))
          have HI2 := Lib.hid ((HI.out.beg ⟨ri, rk, rd, rv, rof, rt⟩).none ol ⟨#[116]⟩)
          have HG2 := Lib.hid (good_beg HG.out ⟨ri, rk, rd, rv, rof, rt⟩)
          have HA2 : Hid ((begS S ⟨ri, rk, rd, rv, rof, rt⟩).an.length ≤ 100) := by
            have : (begS S ⟨ri, rk, rd, rv, rof, rt⟩).an = [] := by unfold begS; split <;> exact HZ.out
            unfold Hid; rw [this]; decide
          clear hb6 HM5 HX5 HB5 HL5 c1 c2 c3 c4 c5 c6
          go_wp2_with fail
          refine K6.out.mono ?_
          rintro e w7 ⟨rfl, o7, hs7, hS7⟩
          have HM7 := Lib.hid (HM6.out.setS hs7 hS7)
          have HX7 := Lib.hid (HX6.out.step hs7 (by unfold Own; omega))
          have HL7 := Lib.hid (HL6.out.step hs7 (by unfold Own; omega))
          clear hs7 hS7
          go_wp2_with fail
          go_meet
          exact ⟨_, _, tk, ta, tc, ts, rfl, hts, HI2.out, HG2.out, HA2.out, HM7.out, HL7.out, HX7.out⟩
        · as_aux_lemma =>
          clear c1 c2 c3 c4 c5 c6 c8 c9
          go_wp2_with fail
          refine (cancel_any 1 b S nn w5 o5 (by omega) HM5.out.ses (by omega) (by rw [HZ.out]; decide)).mono ?_
          rintro e w6 ⟨rfl, o6, hs6, hS6⟩
          have HM6 := Lib.hid (HM5.out.setS hs6 hS6)
          have HX6 := Lib.hid (HX5.out.step hs6 (by unfold Own; omega))
          have HL6 := Lib.hid (HL5.out.step hs6 (by unfold Own; omega))
          have HI2 := Lib.hid (HI.out.can nn ol ⟨#[116]⟩)
          have HG2 := Lib.hid (good_can HG.out nn)
          have HA2 : Hid ((canS S nn).an.length ≤ 100) := by
            unfold Hid canS ansS
            split
            · rw [HZ.out]; decide
            · rw [HZ.out]; simp
          clear hs6 hS6 c7
          go_wp2_with fail
          go_meet
          exact ⟨_, _, tk, ta, tc, ts, rfl, hts, HI2.out, HG2.out, HA2.out, HM6.out, HL6.out, HX6.out⟩
        · as_aux_lemma =>
          clear c1 c2 c3 c4 c5 c6 c7 c8 c9
          go_wp2_with fail
          refine (next_any 1 b 0 S va vc ol w5 o5 (by omega) HM5.out.ses (by omega) (by rw [HZ.out]; decide) HX5.out (by unfold Own; omega)).mono ?_
          rintro e w6 ⟨⟨r, hr, rfl⟩, o6, hs6, hS6⟩
          have HM6 := Lib.hid (HM5.out.setS hs6 hS6)
          have HX6 := Lib.hid (HX5.out.step hs6 (by unfold Own; omega))
          have HL6 := Lib.hid (HL5.out.step hs6 (by unfold Own; omega))
          have hI2 := HI.out.next ol ⟨#[116]⟩
          have HG2 := Lib.hid (good_next HG.out ol)
          have HA2 : Hid ((nextS S ol).an.length ≤ 100) := by
            have h : ((nextS S ol).an).length ≤ S.an.length + S.rq.length := by
              unfold nextS
              split
              · omega
              · unfold dropS
                simp only [List.length_append, List.length_map]
                have := (List.takeWhile_sublist (l := S.rq) (stale ol)).length_le
                omega
            unfold Hid
            rw [HZ.out] at h
            simp at h
            omega
          obtain ⟨w7, hw7⟩ : ∃ x, x = w6.alloc (.cells #[.int .i64 r.id, .int .i64 r.kind, .string r.doc, .int .i64 r.ver, .int .i64 r.off, .string r.txt] 44) := ⟨_, rfl⟩
          have hs7 : Step (fun _ => False) w6 o6 w7 (newLab w6 o6 0) := by rw [hw7]; exact Step.newBlk _ _ _
          have hb7 : Blk w7 (newLab w6 o6 0) 0 w6.heap.size (rqC r) := by rw [hw7]; exact ⟨_, heap_alloc_new _ _, newLab_new _ _ _ (Nat.le_refl _)⟩
          have HM7 := Lib.hid (HM6.out.step hs7 fun _ _ h => h)
          have HX7 := Lib.hid (HX6.out.step hs7 fun h => h)
          have HL7 := Lib.hid (HL6.out.step hs7 fun h => h)
          have hxl7 := HX7.out.1.le
          have hxm7 := HX7.out.1.cap_le
          obtain ⟨g0, g1, g2, g3, g4, g5⟩ := hb7.six
          have HW7 := Lib.hid hw7
          have HB7 := Lib.hid hb7
          cases hno : nextO S ol with
          | none =>
            rw [hno] at hI2 hr
            have HI2 := Lib.hid hI2
            clear hs6 hS6 hr hno hI2 hw7 hs7 hb7 g0 g1 g2 g3 g4 g5
            simp only [Option.isSome_none]
            go_wp2_with fail
            rw [← HW7.out]
            go_meet
            exact ⟨_, _, tk, ta, tc, ts, rfl, hts, HI2.out, HG2.out, HA2.out, HM7.out, HL7.out, HX7.out⟩
          | some q =>
            rw [hno] at hI2 hr
            have hr' : r = q := hr
            subst hr'
            have HI2 := Lib.hid hI2.1
            have hhv : hasV ol r.doc r.ver = true := by rw [hasV_eq, hI2.2]; rfl
            have HHT := HM7.out.tk
            obtain ⟨ri7, rk7, rd7, rv7, ro7, rt7⟩ := r
            have HHV := Lib.hid hhv
            obtain ⟨y0, y1, y2, y3, y4, y5⟩ : w7.frozen? ⟨tb, 0, none⟩ = false ∧ w7.frozen? ⟨tb, 1, none⟩ = false ∧ w7.frozen? ⟨tb, 2, none⟩ = false ∧ w7.frozen? ⟨tb, 3, none⟩ = false ∧ w7.frozen? ⟨tb, 4, none⟩ = false ∧ w7.frozen? ⟨tb, 5, none⟩ = false := ⟨HHT.frozen 0, HHT.frozen 1, HHT.frozen 2, HHT.frozen 3, HHT.frozen 4, HHT.frozen 5⟩
            obtain ⟨z0, z1, z2, z3, z4, z5⟩ := HHT.six
            have hne : tb ≠ w6.heap.size := fun e => by
              have h1 := HHT.lab
              have h2 := hb7.lab
              rw [e, h2] at h1
              omega
            have hne' : w6.heap.size ≠ tb := fun e => hne e.symm
            obtain ⟨hs8, hb8⟩ := HHT.setSixL (.int .i64 ri7) (.int .i64 rk7) (.string rd7) (.int .i64 rv7) (.int .i64 ro7) (.string rt7)
            have HS8 := Lib.hid hs8
            have HB8 := Lib.hid hb8
            have HHT := Lib.hid HHT
            simp only at g0 g1 g2 g3 g4 g5
            clear hs6 hS6 hr hno hI2 hw7 hs7 hb7 hhv hs8 hb8
            simp only [Option.isSome_some]
            go_upto_region 21 with fail
            rw [← HW7.out]
            go_upto_region 22 with fail
            obtain ⟨w8, hw8⟩ : ∃ x, x = (((((w7.setCell ⟨tb, 0, none⟩ (.int .i64 ri7)).setCell ⟨tb, 1, none⟩ (.int .i64 rk7)).setCell ⟨tb, 2, none⟩ (.string rd7)).setCell ⟨tb, 3, none⟩ (.int .i64 rv7)).setCell ⟨tb, 4, none⟩ (.int .i64 ro7)).setCell ⟨tb, 5, none⟩ (.string rt7) := ⟨_, rfl⟩
            rw [← hw8]
            rw [← hw8] at HS8 HB8
            have HM8 := Lib.hid (HM7.out.setT HS8.out (t' := ⟨ri7, rk7, rd7, rv7, ro7, rt7⟩) HB8.out)
            have HX8 := Lib.hid (HX7.out.step HS8.out (by omega))
            have KH8 := Lib.hid (has_any va vc ol rd7 rv7 w8 HX8.out.1)
            rw [HHV.out] at KH8
            obtain ⟨g0, g1, g2, g3, g4, g5⟩ := (HB7.out.step HS8.out (by omega)).six
            clear hw8 y0 y1 y2 y3 y4 y5 z0 z1 z2 z3 z4 z5
            go_wp2_with fail
            refine KH8.out.mono ?_
            rintro e w9 ⟨rfl, rfl⟩
            go_wp2_with fail
            go_meet
            exact ⟨_, _, ⟨ri7, rk7, rd7, rv7, ro7, rt7⟩, va, vc, ol, rfl, hl2, HI2.out, HG2.out, HA2.out, HM8.out, HX8.out, HX8.out⟩
        · as_aux_lemma =>
          clear c1 c2 c3 c4 c5 c6 c7 c8 c9
          obtain ⟨z0, z1, z2, z3, z4, z5⟩ := HM5.out.tk.six
          have HI2 := Lib.hid (HI.out.fin ol ⟨#[116]⟩)
          have HG2 := Lib.hid (good_fin HG.out tk.id 0 ⟨#[116]⟩ ol)
          have HA2 : Hid ((finS S tk.id 0 ⟨#[116]⟩ ol).an.length ≤ 100) := by
            have h : ∀ (e : Int) (t : ByteArray), (ansS S 0 e t).an.length ≤ 100 := fun e t => by
              unfold ansS
              split
              · rw [HZ.out]; decide
              · rw [HZ.out]; simp
            unfold Hid finS
            split
            · split
              · split
                · exact h _ _
                · split <;> exact h _ _
              · rw [HZ.out]; decide
            · rw [HZ.out]; decide
          have K6 := Lib.hid (finish_any 1 b 0 S tk.id 0 ⟨#[116]⟩ va vc ol w5 o5 (by omega) HM5.out.ses HRN.out (by omega) (by rw [HZ.out]; decide) HX5.out.1)
          go_wp2_with fail
          refine K6.out.mono ?_
          rintro e w6 ⟨rfl, o6, hs6, hS6⟩
          have HM6 := Lib.hid (HM5.out.setS hs6 hS6)
          have HX6 := Lib.hid (HX5.out.step hs6 (by unfold Own; omega))
          have HL6 := Lib.hid (HL5.out.step hs6 (by unfold Own; omega))
          clear hs6 hS6 z0 z1 z2 z3 z4 z5
          go_wp2_with fail
          go_meet
          exact ⟨_, _, tk, ta, tc, ts, rfl, hts, HI2.out, HG2.out, HA2.out, HM6.out, HL6.out, HX6.out⟩
        · as_aux_lemma =>
          clear c1 c2 c3 c4 c5 c6 c7 c8 c9
          have HI2 := Lib.hid (HI.out.none ol ⟨#[116]⟩)
          go_wp2_with fail
          go_meet
          exact ⟨_, S, tk, ta, tc, ts, rfl, hts, HI2.out, HG.out, by unfold Hid; rw [HZ.out]; decide, HM5.out, HL5.out, HX5.out⟩
      case rest => as_aux_lemma =>
        obtain ⟨o', S', tk', ta', tc', ts', rfl, hts', HI', HG', HA', HM', HL', HX'⟩ := hcut
        clear HM5 HL5 HX5 HB5 HI HL HG HZ HRN c0 c1 c2 c3 c4 c5 c6 c7 c8 c9
        go_wp2_with fail
        refine (answers_any 1 b S' wc o' (by omega) HM'.out.ses).mono ?_
        rintro e w2 ⟨v, rfl, hs2, hS2, hrow⟩
        obtain ⟨xa, xc, rfl, hrec⟩ := hrow.at
        have hxcl := hrec.le
        have hxcm := hrec.cap_le
        have han := HA'.out
        obtain ⟨xn, hxn⟩ : ∃ xn, S'.an.length = xn := ⟨_, rfl⟩
        rw [hxn] at hrow hxcl han ⊢
        have HM2 := Lib.hid (HM'.out.setS hs2 hS2)
        have HL2 := Lib.hid (HL'.out.step hs2 (by unfold Own; omega))
        have HX2 := Lib.hid (HX'.out.step hs2 (by unfold Own; omega))
        have HR2 := Lib.hid hrow
        have HXN := Lib.hid hxn
        clear hs2 hS2 hrow hrec hxn HM' HL' HX'
        go_wp2_with fail
        go_loopw [5, 14] (fun lv kv wr => ∃ (k : Nat) (o : Nat → Nat), k ≤ xn ∧ kv = .int .i64 k ∧ lv = .int .i64 (lastA last (S'.an.take k)) ∧ Hid (RW w wr o b (clrS S') (.slice (some ⟨g, 0, none⟩) n rc) ops tb tk') ∧ Hid (RowA wr o 12 (.slice xa xn xc) S'.an) ∧ Hid (RecD vnC 2 wr o 0 ta' tc' ts') ∧ Hid (RecD vnC 2 wr o 0 va vc ol)) (fun _ kv _ => xn - (intOf kv).toNat)
        case atStart => exact ⟨0, o', by omega, rfl, rfl, HM2.out, HR2.out, HL2.out, HX2.out⟩
        case round =>
          clear HM2 HR2 HL2 HX2
          obtain ⟨k, o, hk, rfl, rfl, HM, HR, HL, HX⟩ := hrel
          by_cases hkx : k < xn
          · have hkl : k < S'.an.length := by rw [HXN.out]; exact hkx
            obtain ⟨r, hr⟩ : ∃ r, S'.an[k] = r := ⟨_, rfl⟩
            have hr' : S'.an[k]? = some r := by rw [List.getElem?_eq_getElem hkl, hr]
            have hrec := HR.out.recAt.2
            obtain ⟨xb, xoff, rfl⟩ := RecAt.addr anZ (by decide) hrec (by rw [HXN.out]; omega)
            obtain ⟨f0, f1, f2, f3⟩ := Ans.cells hrec hr'
            obtain ⟨e1, e2, e3⟩ := HI'.out.each k hkl
            have e4 := lastA_take last S'.an hkl
            rw [hr] at e1 e2 e3 e4
            obtain ⟨z0, z1, z2, z3, z4, z5⟩ := HM.out.tk.six
            obtain ⟨lk, hlk⟩ : ∃ lk, lastA last (S'.an.take k) = lk := ⟨_, rfl⟩
            rw [hlk] at e3 e4 ⊢
            obtain ⟨ri, re, rv, rt⟩ := r
            simp only at f0 f1 f2 f3 e1 e2 e3 e4
            have E4 := Lib.hid e4
            have hd : Below wr.heap.size wr wr.drew := Below.drew (Below.refl _ _)
            by_cases he0 : re = 0
            · subst he0
              obtain ⟨rfl, rfl, rfl, h1, h2⟩ := e1 rfl
              have e3' := e3 (by decide)
              have dl : decide (tk'.id ≤ lk) = false := decide_eq_false (by omega)
              have E5 : Hid (lastA last (S'.an.take (k + 1)) = tk'.id) := by rw [E4.out]; exact if_neg (by decide)
              have k1 := has_any ta' tc' ts' tk'.doc tk'.ver wr.drew ((HL.out.same hd).1)
              rw [hasV_eq, h1] at k1
              have K1 : Hid (Calls Try.prog 29 #[.slice ta' ts'.length tc', .string tk'.doc, .int .i64 tk'.ver] wr.drew fun e w'' => e = .returned (.bool true) ∧ w'' = wr.drew) := k1.mono fun e w' ⟨h1, h2⟩ => ⟨h1, h2.symm⟩
              have k2 := has_any va vc ol tk'.doc tk'.ver wr.drew ((HX.out.same hd).1)
              rw [hasV_eq, h2] at k2
              have K2 : Hid (Calls Try.prog 29 #[.slice va ol.length vc, .string tk'.doc, .int .i64 tk'.ver] wr.drew fun e w'' => e = .returned (.bool true) ∧ w'' = wr.drew) := k2.mono fun e w' ⟨h1, h2⟩ => ⟨h1, h2.symm⟩
              have HMd := Lib.hid (HM.out.same hd)
              have HRd := Lib.hid (HR.out.step (Step.same (L := fun _ => False) hd) fun h => h)
              have HLd := Lib.hid (HL.out.same hd)
              have HXd := Lib.hid (HX.out.same hd)
              have hxnb : (k : Int) < (xn : Int) := by omega
              have hk0 : (0 : Int) ≤ (k : Int) := by omega
              clear e1 e2 e3 e3' e4 E4 hr hr' hrec hlk h1 h2 k1 k2
              go_upto_region 31 with fail
              refine wp_region_still_lit (by kernel_rfl) (by kernel_rfl) ?_
              repeat still_step
              still_call K1.out
              repeat still_step
              still_call K2.out
              repeat still_step
              refine wpStill_nil ?_
              change Exit.then _ _ _ _ wr.drew
              have f0 := Below.kept hd (Nat.le_refl _) f0
              have f1 := Below.kept hd (Nat.le_refl _) f1
              have f2 := Below.kept hd (Nat.le_refl _) f2
              have f3 := Below.kept hd (Nat.le_refl _) f3
              clear z0 z1 z2 z3 z4 z5 hd K1 K2
              generalize wr.drew = wd at *
              go_wp2_with fail
              go_roundw
              case rel => exact ⟨k + 1, o, by omega, by go_num, by rw [E5.out], HMd.out, HRd.out, HLd.out, HXd.out⟩
              case measure => simp [intOf]; omega
            · have hbe : (re == 0) = false := by simp [he0]
              have hbe' : (re != 0) = true := by simp [he0]
              have e2' := e2 he0
              subst e2'
              clear z0 z1 z2 z3 z4 z5 hd
              go_upto_region 31 with fail
              go_quiet (fail)
              obtain ⟨wd, hwd⟩ : ∃ x, x = wr.drewN nq := ⟨_, rfl⟩
              have hd : Below wr.heap.size wr wd := by rw [hwd]; exact Below.drewN nq
              rw [← hwd]
              have HMd := Lib.hid (HM.out.same hd)
              have HRd := Lib.hid (HR.out.step (Step.same (L := fun _ => False) hd) fun h => h)
              have HLd := Lib.hid (HL.out.same hd)
              have HXd := Lib.hid (HX.out.same hd)
              have f0 := Below.kept hd (Nat.le_refl _) f0
              have f1 := Below.kept hd (Nat.le_refl _) f1
              have f2 := Below.kept hd (Nat.le_refl _) f2
              have f3 : wd.cell? ⟨xb, xoff + k * 4 + 3, none⟩ = some (.string ⟨#[]⟩) := Below.kept hd (Nat.le_refl _) f3
              by_cases h18 : re = 18
              · subst h18
                have E5 : Hid (lastA last (S'.an.take (k + 1)) = lk) := by rw [E4.out]; exact if_pos rfl
                clear e1 e2 e3 e4 E4 hr hr' hrec hlk hwd hd he0 hbe hbe'
                go_wp2_with fail
                go_roundw
                case rel => exact ⟨k + 1, o, by omega, by go_num, by rw [E5.out], HMd.out, HRd.out, HLd.out, HXd.out⟩
                case measure => simp [intOf]; omega
              · have hb18 : (re != 18) = true := by simp [h18]
                have e3' := e3 h18
                have dl : decide (ri ≤ lk) = false := decide_eq_false (by omega)
                have E5 : Hid (lastA last (S'.an.take (k + 1)) = ri) := by rw [E4.out]; exact if_neg h18
                clear e1 e2 e3 e3' e4 E4 hr hr' hrec hlk hwd hd he0 h18
                go_wp2_with fail
                go_roundw
                case rel => exact ⟨k + 1, o, by omega, by go_num, by rw [E5.out], HMd.out, HRd.out, HLd.out, HXd.out⟩
                case measure => simp [intOf]; omega
          · have hkk : k = xn := by omega
            have hI2 := HI'.out.next
            have htk : S'.an.take k = S'.an := by rw [hkk]; exact List.take_of_length_le (by rw [← HXN.out]; exact Nat.le_refl _)
            rw [htk]
            obtain ⟨lk, hlk⟩ : ∃ lk, lastA last S'.an = lk := ⟨_, rfl⟩
            rw [hlk] at hI2 ⊢
            have HI2 := Lib.hid hI2
            clear htk hI2 hlk
            subst hkk
            go_wp2_with fail
            go_roundw
            case rel => exact ⟨i + 1, o, clrS S', lk, tk', ta', tc', ts', by omega, by go_num, rfl, rfl, hts', HI2.out, HM.out, HL.out⟩
            case measure => simp [intOf]; omega
    · have hin : i = n := by omega
      subst hin
      go_wp2_with fail
      refine (lives_any wr).mono ?_
      rintro e w4 ⟨rfl, hb4⟩
      have hB4 := Below.step HM.out.below hb4
      go_wp2_with fail
      go_ret
      exact ⟨rfl, hB4⟩
end Go.Proofs.Ytaonhmdifinadaa
