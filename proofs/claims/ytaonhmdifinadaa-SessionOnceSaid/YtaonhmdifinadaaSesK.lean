/-
  The law SessionOnce.
-/
import Derived.Test.YtaonhmdifinadaaSesI
import Derived.Test.YtaonhmdifinadaaSesK0
import Derived.Test.YtaonhmdifinadaaHas
import Derived.StillTailTactics
import Derived.Deep.DeepCutAuto
import Derived.Deep.CutBlock
namespace Go.Proofs.Ytaonhmdifinadaa
open Go Go.Proofs
open Go.RowKit
set_option linter.unusedVariables false
set_option linter.unusedSimpArgs false

/-! ### The law's state, plain -/
structure OnceI (i n : Nat) (B A : List Int) (S : SesS) : Prop where
  once : Once B A S
  bi : B.length ≤ i
  bn : B.length ≤ n
  dr : i ≤ n ∨ S.rq.length ≤ n + B.length - i
theorem OnceI.total {i n : Nat} {B A : List Int} {S : SesS} (h : OnceI i n B A S) : A.length + S.rq.length + S.an.length = B.length := by
  have := h.once.perm.length_eq
  unfold tot at this
  simp [idsR, idsA] at this
  omega
theorem OnceI.new (n : Nat) : OnceI 0 n [] [] newS := ⟨once_new, Nat.le_refl _, Nat.zero_le _, .inl (Nat.zero_le _)⟩
theorem OnceI.up {i n : Nat} {B A : List Int} {S : SesS} (h : OnceI i n B A S) (hi : i < n) : OnceI (i + 1) n B A S := ⟨h.once, Nat.le_succ_of_le h.bi, h.bn, .inl hi⟩
theorem OnceI.beg {i n : Nat} {B A : List Int} {S : SesS} (h : OnceI i n B A S) (hi : i < n) (r : Rq) : OnceI (i + 1) n (if begE S r = 0 then B ++ [r.id] else B) A (begS S r) := by
  refine ⟨h.once.beg r, ?_, ?_, .inl hi⟩
  · have := h.bi
    split
    · simp; omega
    · omega
  · have := h.bi
    have := h.bn
    split
    · simp; omega
    · omega
theorem OnceI.can {i n : Nat} {B A : List Int} {S : SesS} (h : OnceI i n B A S) (hi : i < n) (id : Int) : OnceI (i + 1) n B A (canS S id) := ⟨h.once.can id, Nat.le_succ_of_le h.bi, h.bn, .inl hi⟩
theorem OnceI.next {i n : Nat} {B A : List Int} {S : SesS} (h : OnceI i n B A S) (hi : i < n) (l : List Vn) : OnceI (i + 1) n B A (nextS S l) := ⟨h.once.next l, Nat.le_succ_of_le h.bi, h.bn, .inl hi⟩
theorem OnceI.fin {i n : Nat} {B A : List Int} {S : SesS} (h : OnceI i n B A S) (hi : i < n) (id e : Int) (t : ByteArray) (l : List Vn) : OnceI (i + 1) n B A (finS S id e t l) := ⟨h.once.fin id e t l, Nat.le_succ_of_le h.bi, h.bn, .inl hi⟩
theorem OnceI.clr {i n : Nat} {B A : List Int} {S : SesS} (h : OnceI i n B A S) : OnceI i n B (A ++ idsA S.an) (clrS S) := ⟨h.once.clr, h.bi, h.bn, h.dr⟩
theorem OnceI.next' {i n : Nat} {B A : List Int} {S : SesS} (h : OnceI i n B A S) (l : List Vn) : OnceI (i + 1) (n + i + 1) B A (nextS S l) := ⟨h.once.next l, Nat.le_succ_of_le h.bi, by have := h.bn; omega, .inl (by omega)⟩
theorem OnceI.drain0 {i n : Nat} {B A : List Int} {S : SesS} (h : OnceI i n B A S) (hi : n ≤ i) (l : List Vn) (h0 : (nextS S l).rq = []) : OnceI (i + 1) n B A (nextS S l) :=
  ⟨h.once.next l, Nat.le_succ_of_le h.bi, h.bn, .inr (by rw [h0]; exact Nat.zero_le _)⟩
theorem OnceI.drain1 {i n : Nat} {B A : List Int} {S : SesS} (h : OnceI i n B A S) (hi : n ≤ i) (l : List Vn) (t : ByteArray) {r : Rq} (h0 : (nextS S l).rq.head? = some r) : OnceI (i + 1) n B A (finS (nextS S l) r.id 0 t l) := by
  refine ⟨(h.once.next l).fin _ _ _ _, Nat.le_succ_of_le h.bi, h.bn, .inr ?_⟩
  have hd := drain_step h.once.good l t (fun e => by rw [e] at h0; cases h0) r h0
  have ht := h.total
  have hb := h.bi
  rcases h.dr with h | h <;> omega

/-! ### The law's state in memory -/
structure OW (w wr : World) (o : Nat → Nat) (b : Nat) (S : SesS) (ov : Value) (ops : List OpM) (bv av : Value) (B A : List Int) : Prop where
  since : Step (fun x => x ≠ 0) w (fun _ => 0) wr o
  ses : SesP wr o 1 b S
  ops : OpsL wr o 21 ov ops
  beg : RowL wr o 22 3 1 bv B.length (B.map intV)
  ans : RowL wr o 23 3 1 av A.length (A.map intV)
section
variable {L : Nat → Prop} {w wr w' : World} {o o' : Nat → Nat} {b : Nat} {S S' : SesS} {ov : Value} {ops : List OpM} {bv av bv' av' : Value} {B A B' A' : List Int}
theorem OW.step (h : OW w wr o b S ov ops bv av B A) (hs : Step L wr o w' o') (h0 : ∀ l, l < 24 → ¬ L l) : OW w w' o' b S ov ops bv av B A :=
  ⟨h.since.trans (hs.mono fun l hl e => h0 l (by omega) hl), h.ses.step hs fun l hl => h0 l (by unfold Own at hl; omega), h.ops.step hs (h0 0 (by omega)) (h0 21 (by omega)), h.beg.step hs (h0 22 (by omega)), h.ans.step hs (h0 23 (by omega))⟩
theorem OW.same (h : OW w wr o b S ov ops bv av B A) (hb : Below wr.heap.size wr w') : OW w w' o b S ov ops bv av B A := h.step (L := fun _ => False) (Step.same hb) fun _ _ h => h
theorem OW.setS (h : OW w wr o b S ov ops bv av B A) (hs : Step (Own 1) wr o w' o') (hS : SesP w' o' 1 b S') : OW w w' o' b S' ov ops bv av B A :=
  ⟨h.since.trans (hs.mono fun l hl e => by unfold Own at hl; omega), hS, h.ops.step hs (by unfold Own; omega) (by unfold Own; omega), h.beg.step hs (by unfold Own; omega), h.ans.step hs (by unfold Own; omega)⟩
theorem OW.setB (h : OW w wr o b S ov ops bv av B A) (hs : Step (· = 22) wr o w' o') (hB : RowL w' o' 22 3 1 bv' B'.length (B'.map intV)) : OW w w' o' b S ov ops bv' av B' A :=
  ⟨h.since.trans (hs.mono fun l hl e => by omega), h.ses.step hs fun l hl => by unfold Own at hl; omega, h.ops.step hs (by omega) (by omega), hB, h.ans.step hs (by omega)⟩
theorem OW.setA (h : OW w wr o b S ov ops bv av B A) (hs : Step (· = 23) wr o w' o') (hA : RowL w' o' 23 3 1 av' A'.length (A'.map intV)) : OW w w' o' b S ov ops bv av' B A' :=
  ⟨h.since.trans (hs.mono fun l hl e => by omega), h.ses.step hs fun l hl => by unfold Own at hl; omega, h.ops.step hs (by omega) (by omega), h.beg.step hs (by omega), hA⟩
theorem OW.below (h : OW w wr o b S ov ops bv av B A) : Below w.heap.size w wr := h.since.toBelow (Nat.le_refl _) fun k _ h => h rfl
end

set_option maxRecDepth 100000 in
set_option maxHeartbeats 8000000 in
theorem sessionOnce_walk (a : Option Addr) (cap : Nat) (xs : List Int) (w : World) (hx : SliceAt w a cap (xs.map intV)) (hb : ∀ n ∈ xs, -9223372036854775808 ≤ n ∧ n ≤ 9223372036854775807) :
    Calls Try.prog 7 #[.slice a xs.length cap] w fun e w' => e = .returned (.bool true) ∧ Below w.heap.size w w' := by
  have hxl := hx.len
  simp only [List.length_map] at hxl
  have HX := Lib.hid hx
  have HB := Lib.hid hb
  clear hx hb
  go_enter Try.func7, Try.ntmps7
  go_wp2_with fail
  refine (snew_any 1 w (fun _ => 0)).mono ?_
  rintro e w1 ⟨b, rfl, o1, hs1, hS1⟩
  have hd1 : Dat w1 o1 0 a cap (xs.map intV) := Dat.step ⟨HX.out, fun _ _ _ _ => rfl⟩ hs1 (fun h => h)
  have K1 := Lib.hid (ops_any a cap xs 21 w1 o1 hd1 HB.out (by decide))
  have HST1 := Lib.hid (hs1.mono (L' := fun x => x ≠ 0) fun _ h => h.elim)
  have HS1 := Lib.hid hS1
  clear hs1 hS1 hd1
  go_wp2_with fail
  refine K1.out.mono ?_
  rintro e w2 ⟨v, o2, ops, rfl, hs2, hops, hlen⟩
  obtain ⟨ra, rc, rfl⟩ := hops.1.form
  have hle := hops.1.recAt.2.le
  have hcl := hops.1.recAt.2.cap_le
  obtain ⟨n, hn⟩ : ∃ n, ops.length = n := ⟨_, rfl⟩
  have hn30 : n ≤ 30 := by omega
  have hOW : OW w w2 o2 b newS (.slice ra ops.length rc) ops (.slice none 0 0) (.slice none 0 0) [] [] :=
    ⟨HST1.out.trans (hs2.mono fun l hl => by omega), HS1.out.step hs2 (fun l hl => by unfold Own at hl; omega), hops, RowL.nil _ _ _ _ _, RowL.nil _ _ _ _ _⟩
  rw [hn] at hOW hle ⊢
  have HN := Lib.hid hn
  have HOW := Lib.hid hOW
  clear hs2 hops hlen hn hOW K1 HST1 HS1
  go_wp2_with fail
  obtain ⟨w3, hw3⟩ : ∃ x, x = w2.alloc (.cells #[.string ⟨#[97]⟩, .int .i64 1, .string ⟨#[98]⟩, .int .i64 1] 34) := ⟨_, rfl⟩
  rw [← hw3]
  obtain ⟨o3, ho3⟩ : ∃ x, newLab w2 o2 0 = x := ⟨_, rfl⟩
  have hs3 : Step (fun _ => False) w2 o2 w3 o3 := by rw [hw3, ← ho3]; exact Step.newBlk _ _ _
  have hx3 : RecD vnC 2 w3 o3 0 (some ⟨w2.heap.size, 0, none⟩) 2 [⟨⟨#[97]⟩, 1⟩, ⟨⟨#[98]⟩, 1⟩] := by
    rw [hw3, ← ho3]
    exact ⟨rec_new (f := vnC) (z := 2) vnZ (w := w2) (xs := [⟨⟨#[97]⟩, 1⟩, ⟨⟨#[98]⟩, 1⟩]) (e := 34) (by simp), fun _ b off h => by simp at h; obtain ⟨rfl, rfl⟩ := h; exact ⟨newLab_new _ _ _ (Nat.le_refl _), by simp⟩⟩
  have HOW3 := Lib.hid (HOW.out.step hs3 fun _ _ h => h)
  have HX3 := Lib.hid hx3
  clear hw3 ho3 hs3 hx3 HOW
  go_loopw [5, 6, 7, 8] (fun bv av lv iv wr => ∃ (i : Nat) (o : Nat → Nat) (S : SesS) (B A : List Int) (la : Option Addr) (lc : Nat) (ll : List Vn), i ≤ n + B.length + 1 ∧ iv = .int .i64 i ∧ lv = .slice la ll.length lc ∧ ll.length ≤ 2 ∧ Hid (OnceI i n B A S) ∧ Hid (S.an = []) ∧ Hid (OW w wr o b S (.slice ra n rc) ops bv av B A) ∧ Hid (RecD vnC 2 wr o 0 la lc ll)) (fun _ _ _ iv _ => 100 - (intOf iv).toNat)
  case atStart => exact ⟨0, o3, newS, [], [], _, 2, _, by omega, rfl, rfl, by decide, OnceI.new n, rfl, HOW3.out, HX3.out⟩
  case round =>
    clear HOW3 HX3
    obtain ⟨i, o, S, B, A, la, lc, ll, hi, rfl, rfl, hll, HI, HZ, HM, HL⟩ := hrel
    have htot := HI.out.total
    have hbn := HI.out.bn
    rw [HZ.out] at htot
    simp only [List.length_nil, Nat.add_zero] at htot
    obtain ⟨ba, bc, rfl⟩ := HM.out.beg.form
    obtain ⟨aa, ac, rfl⟩ := HM.out.ans.form
    have hlm := HL.out.1.le
    have hlcm := HL.out.1.cap_le
    by_cases hin : i ≤ n + B.length
    · have d1 : decide ((i : Int) ≤ (n : Int) + (B.length : Int)) = true := decide_eq_true (by omega)
      obtain ⟨nb, hnb⟩ : ∃ nb, B.length = nb := ⟨_, rfl⟩
      obtain ⟨na, hna⟩ : ∃ na, A.length = na := ⟨_, rfl⟩
      rw [hnb, hna] at HM
      have hB := HM.out.beg
      have hA := HM.out.ans
      rw [hnb] at hbn htot hin d1 hi hB ⊢
      rw [hna] at htot hA ⊢
      have HNB := Lib.hid hnb
      have HNA := Lib.hid hna
      have HBR := Lib.hid hB
      clear hnb hna hB hA
      go_upto_if 34 with fail
      go_cut [5, 7] (fun s5 s7 wx => ∃ (o : Nat → Nat) (S : SesS) (B : List Int) (la : Option Addr) (lc : Nat) (ll : List Vn), s7 = .slice la ll.length lc ∧ ll.length ≤ 2 ∧ nb ≤ B.length ∧ Hid (OnceI (i + 1) n B A S) ∧ Hid (OW w wx o b S (.slice ra n rc) ops s5 (.slice aa na ac) B A) ∧ Hid (RecD vnC 2 wx o 0 la lc ll))
      case first => as_aux_lemma =>
        by_cases hin2 : i < n
        · have d2 : decide (i < n) = true := decide_eq_true hin2
          have d2' : decide ((i : Int) < (n : Int)) = true := decide_eq_true (by omega)
          obtain ⟨m, hm⟩ : ∃ m, ops[i]? = some m := ⟨ops[i]'(by rw [HN.out]; exact hin2), List.getElem?_eq_getElem _⟩
          obtain ⟨g, c, hsl, hgc, hgm, hop, hcells⟩ := HM.out.ops.cells hm
          rw [HN.out] at hgc
          simp only [Value.slice.injEq] at hsl
          obtain ⟨rfl, -, rfl⟩ := hsl
          obtain ⟨kd, ⟨ri, rk, rd, rv, rof, rt⟩, nn, ee, oa, oc, ol⟩ := m
          have c0 := hcells 0 _ rfl
          have c1 := hcells 1 _ rfl
          have c2 := hcells 2 _ rfl
          have c3 := hcells 3 _ rfl
          have c4 := hcells 4 _ rfl
          have c5 := hcells 5 _ rfl
          have c6 := hcells 6 _ rfl
          have c7 := hcells 7 _ rfl
          have c8 := hcells 8 _ rfl
          have c9 := hcells 9 _ rfl
          simp only [Nat.add_zero] at c0
          obtain ⟨hob, hol⟩ := hop
          have hkk := opB_kind hob
          have hod := hob.d
          have hot := hob.t
          have hl2 := hob.l
          simp only at c0 c1 c2 c3 c4 c5 c6 c7 c8 c9 hkk hod hot hl2
          obtain ⟨w4, hw4⟩ : ∃ x, x = wr.alloc (.cells #[.int .i64 kd, .int .i64 ri, .int .i64 rk, .string rd, .int .i64 rv, .int .i64 rof, .string rt, .int .i64 nn, .int .i64 ee, .slice oa ol.length oc] 63) := ⟨_, rfl⟩
          obtain ⟨o4, ho4⟩ : ∃ x, newLab wr o 0 = x := ⟨_, rfl⟩
          have hs4 : Step (fun _ => False) wr o w4 o4 := by rw [hw4, ← ho4]; exact Step.newBlk _ _ _
          have hb4 : Blk w4 o4 0 wr.heap.size [.int .i64 kd, .int .i64 ri, .int .i64 rk, .string rd, .int .i64 rv, .int .i64 rof, .string rt, .int .i64 nn, .int .i64 ee, .slice oa ol.length oc] := by
            rw [hw4, ← ho4]; exact ⟨_, heap_alloc_new _ _, newLab_new _ _ _ (Nat.le_refl _)⟩
          have hol4 := hol.step hs4 (fun h => h)
          have hocm := hol.1.cap_le
          have hocl := hol.1.le
          simp only at hol4 hocm hocl
          have K4 := Lib.hid (versions_any oa oc ol w4 hol4.1 (by omega))
          have HM4 := Lib.hid (HM.out.step hs4 fun _ _ h => h)
          have HB4 := Lib.hid hb4
          have HW4 := Lib.hid hw4
          clear hm hcells hob hol hw4 ho4 hs4 hb4 hol4 HM HL
          go_wp2_with fail
          rw [← HW4.out]
          clear c1 c2 c3 c4 c5 c6 c7 c8 c9
          refine K4.out.mono ?_
          rintro e w5 ⟨v5, rfl, hown5, hb5⟩
          obtain ⟨va, vc, rfl, hxd⟩ := RecD.new (o := o4) (l := 0) hown5
          obtain ⟨o5, ho5⟩ : ∃ x, newLab w4 o4 0 = x := ⟨_, rfl⟩
          rw [ho5] at hxd
          have hs5 : Step (fun _ => False) w4 o4 w5 o5 := by rw [← ho5]; exact Step.below hb5 fun k hk => newLab_old _ _ _ hk
          have HM5 := Lib.hid (HM4.out.step hs5 fun _ _ h => h)
          have hB5 := HB4.out.step hs5 fun h => h
          have HX5 := Lib.hid hxd
          have hvcm := hxd.1.cap_le
          have hvcl := hxd.1.le
          have c0 := hB5.cell (j := 0) rfl
          have c1 := hB5.cell (j := 1) rfl
          have c2 := hB5.cell (j := 2) rfl
          have c3 := hB5.cell (j := 3) rfl
          have c4 := hB5.cell (j := 4) rfl
          have c5 := hB5.cell (j := 5) rfl
          have c6 := hB5.cell (j := 6) rfl
          have c7 := hB5.cell (j := 7) rfl
          have c8 := hB5.cell (j := 8) rfl
          have c9 := hB5.cell (j := 9) rfl
          have HB5 := Lib.hid hB5
          have HO := Lib.hid HI.out.once.good
          have hrl := HI.out.once.good.len
          have hrn := HI.out.once.good.run
          obtain ⟨gw, hgw⟩ : ∃ gw, wr.heap.size = gw := ⟨_, rfl⟩
          rw [hgw] at c0 c1 c2 c3 c4 c5 c6 c7 c8 c9 HB5 ⊢
          have HRN := Lib.hid hrn
          clear hown5 ho5 hs5 hb5 hB5 hxd K4 HM4 HB4 HW4 hgw hrn
          rcases hkk with rfl | rfl | rfl | rfl | rfl
          · as_aux_lemma =>
            clear c7 c8 c9
            go_wp2_with fail
            refine (of_any ⟨ri, rk, rd, rv, rof, rt⟩ w5).mono ?_
            rintro e w6 ⟨rfl, hb6⟩
            have HM6 := Lib.hid (HM5.out.same hb6)
            have HX6 := Lib.hid (HX5.out.same hb6)
            have c1 := Below.kept hb6 (Nat.le_refl _) c1
            have HB6 := Lib.hid (HB5.out.step (Step.same (L := fun _ => False) hb6) fun h => h)
            have K6 := Lib.hid (begin_any 1 b S ⟨ri, rk, rd, rv, rof, rt⟩ w6 o5 (by omega) HM6.out.ses HO.out (by show rd.size ≤ _; omega) (by show rt.size ≤ _; omega))
            have hI := HI.out.beg hin2 ⟨ri, rk, rd, rv, rof, rt⟩
            obtain ⟨E, hE⟩ : ∃ E, begE S ⟨ri, rk, rd, rv, rof, rt⟩ = E := ⟨_, rfl⟩
            rw [hE] at hI K6
            have HI2 := Lib.hid hI
            clear hb6 hI hE c2 c3 c4 c5 c6 HM5 HX5 HB5
            go_wp2_with fail
            refine K6.out.mono ?_
            rintro e w7 ⟨rfl, o7, hs7, hS7⟩
            have hM7 := HM6.out.setS hs7 hS7
            have HX7 := Lib.hid (HX6.out.step hs7 (by unfold Own; omega))
            have c1 := (HB6.out.step hs7 (by unfold Own; omega)).cell (j := 1) rfl
            have hrow := hM7.beg
            rw [HNB.out] at hrow
            have HR7 := Lib.hid hrow
            have HM7 := Lib.hid hM7
            clear hs7 hS7 hM7 hrow K6 HM6 HX6 HB6
            by_cases hE : E = 0
            · subst hE
              have HI4 : Hid (OnceI (i + 1) n (B ++ [ri]) A (begS S ⟨ri, rk, rd, rv, rof, rt⟩)) := by
                have := HI2.out; rw [if_pos rfl] at this; exact this
              clear HI2
              have c1a := fun ob => Below.kept ((Below.refl _ w7).alloc (Nat.le_refl _) ob) (Nat.le_refl _) c1
              go_wp2_with (at_builtin; refine wpList_append_row rfl (.tmp 52) (.tmp 56) 22 rfl elemI rfl HR7.out ((Below.refl _ w7).alloc (Nat.le_refl _) _) (some ⟨w7.heap.size, 0, none⟩) 1 1 [.int .i64 ri] rfl (row_new (cs := [.int .i64 ri]) (by rfl) (by omega)) (by simp [Value.oneCell']) (by omega) (by omega) ?_)
              intro v8 w8 hrow8 hs8
              obtain ⟨a8, k8, rfl⟩ := hrow8.form
              have HR8 := Lib.hid hrow8
              have HS8 := Lib.hid hs8
              clear hrow8 hs8 c1 c1a
              go_wp2_with fail
              go_meet
              refine ⟨_, _, B ++ [ri], va, vc, ol, rfl, hl2, by rw [List.length_append, HNB.out]; omega, HI4.out, HM7.out.setB HS8.out ?_, HX7.out.step HS8.out (by omega)⟩
              · have := HR8.out
                rw [List.length_append, HNB.out, List.map_append]
                exact this
            · have hE' : (E == 0) = false := by simp [hE]
              have HI3 : Hid (OnceI (i + 1) n B A (begS S ⟨ri, rk, rd, rv, rof, rt⟩)) := by
                have := HI2.out; rw [if_neg hE] at this; exact this
              clear hE c1
              go_wp2_with fail
              go_meet
              exact ⟨_, _, B, va, vc, ol, rfl, hl2, by rw [HNB.out]; omega, HI3.out, by have := HM7.out; exact this, HX7.out⟩
          · as_aux_lemma =>
            clear c1 c2 c3 c4 c5 c6 c8 c9
            go_wp2_with fail
            refine (cancel_any 1 b S nn w5 o5 (by omega) HM5.out.ses (by omega) (by rw [HZ.out]; decide)).mono ?_
            rintro e w6 ⟨rfl, o6, hs6, hS6⟩
            have HM6 := Lib.hid (HM5.out.setS hs6 hS6)
            have HX6 := Lib.hid (HX5.out.step hs6 (by unfold Own; omega))
            have HI2 := Lib.hid (HI.out.can hin2 nn)
            clear hs6 hS6 c7
            go_wp2_with fail
            go_meet
            exact ⟨_, _, B, va, vc, ol, rfl, hl2, by rw [HNB.out]; omega, HI2.out, HM6.out, HX6.out⟩
          · as_aux_lemma =>
            clear c1 c2 c3 c4 c5 c6 c7 c8 c9
            go_wp2_with fail
            refine (next_any 1 b 0 S va vc ol w5 o5 (by omega) HM5.out.ses (by omega) (by rw [HZ.out]; decide) HX5.out (by unfold Own; omega)).mono ?_
            rintro e w6 ⟨⟨r, hr, rfl⟩, o6, hs6, hS6⟩
            have HM6 := Lib.hid (HM5.out.setS hs6 hS6)
            have HX6 := Lib.hid (HX5.out.step hs6 (by unfold Own; omega))
            have HI2 := Lib.hid (HI.out.next hin2 ol)
            clear hs6 hS6 hr
            go_wp2_with fail
            go_meet
            exact ⟨_, _, B, va, vc, ol, rfl, hl2, by rw [HNB.out]; omega, HI2.out, HM6.out, HX6.out⟩
          · as_aux_lemma =>
            clear c1 c2 c3 c4 c5 c6 c7 c9
            go_wp2_with fail
            refine (swaiting_any 1 b S w5 o5 HM5.out.ses (by omega)).mono ?_
            rintro e w6 ⟨v6, rfl, hown6, hb6⟩
            obtain ⟨ia, ic, rfl, hsl6⟩ := ownsRow_sliceMap hown6
            have HM6 := Lib.hid (HM5.out.same hb6)
            have HX6 := Lib.hid (HX5.out.same hb6)
            have c8 := Below.kept hb6 (Nat.le_refl _) c8
            have hil : (idsR S.rq).length = S.rq.length := by simp [idsR]
            rw [hil]
            have hicm := hsl6.max
            have hicl := hsl6.le
            rw [List.length_map, hil] at hicl
            cases hrq : S.rq with
            | nil =>
              have HI2 := Lib.hid (HI.out.up hin2)
              simp only [List.length_nil]
              clear hrq hil hsl6 hown6 hb6 hicl hicm htot
              go_wp2_with fail
              go_meet
              exact ⟨_, S, B, va, vc, ol, rfl, hl2, by rw [HNB.out]; omega, HI2.out, HM6.out, HX6.out⟩
            | cons r rs =>
              have hrn1 : S.rq.length = rs.length + 1 := by rw [hrq]; rfl
              obtain ⟨rn, hrn⟩ : ∃ rn, (r :: rs).length = rn := ⟨_, rfl⟩
              have hrn0 : 0 < rn := by rw [← hrn]; simp
              have hrnI : (0 : Int) < rn := by omega
              have hrne : S.rq.length = rn := by rw [hrq]; exact hrn
              rw [hrn]
              rw [hrne] at hicl
              obtain ⟨ib, ioff, rfl⟩ := hsl6.addr (by rw [List.length_map, hil]; omega)
              have x0 : w6.cell? ⟨ib, ioff, none⟩ = some (.int .i64 r.id) := by
                have := hsl6.cell (i := 0) (v := .int .i64 r.id) (by rw [hrq]; rfl)
                simpa using this
              have K7 := Lib.hid fun W (hb : Below w6.heap.size w6 W) => finish_any 1 b 0 S r.id ee ⟨#[116]⟩ va vc ol W o5 (by omega) (HM6.out.same hb).ses HRN.out (by omega) (by rw [HZ.out]; decide) (HX6.out.same hb).1
              have HI2 := Lib.hid (HI.out.fin hin2 r.id ee ⟨#[116]⟩ ol)
              obtain ⟨rid, hrid⟩ : ∃ rid, r.id = rid := ⟨_, rfl⟩
              rw [hrid] at x0 K7 HI2
              clear hrq hil hsl6 hown6 hb6 hrn hrn1 hrne hrid
              go_upto_region 25 with fail
              go_still_tail 7, (by kernel_rfl)
              change wpList _ _ _ _ _ w6.drew
              have hd : Below w6.heap.size w6 w6.drew := Below.drew (Below.refl _ _)
              have HM7 := Lib.hid (HM6.out.same hd)
              have HX7 := Lib.hid (HX6.out.same hd)
              have K8 := Lib.hid (K7.out w6.drew hd)
              clear hd x0 c8 K7
              generalize w6.drew = w7 at *
              go_wp2_with fail
              refine K8.out.mono ?_
              rintro e w8 ⟨rfl, o8, hs8, hS8⟩
              have HM8 := Lib.hid (HM7.out.setS hs8 hS8)
              have HX8 := Lib.hid (HX7.out.step hs8 (by unfold Own; omega))
              clear hs8 hS8
              go_wp2_with fail
              go_meet
              exact ⟨_, _, B, va, vc, ol, rfl, hl2, by rw [HNB.out]; omega, HI2.out, HM8.out, HX8.out⟩
          · as_aux_lemma =>
            clear c1 c2 c3 c4 c5 c6 c7 c8 c9
            have HI2 := Lib.hid (HI.out.up hin2)
            go_wp2_with fail
            go_meet
            exact ⟨_, S, B, va, vc, ol, rfl, hl2, by rw [HNB.out]; omega, HI2.out, HM5.out, HX5.out⟩
        · have d2 : decide (i < n) = false := decide_eq_false hin2
          have d2' : decide ((i : Int) < (n : Int)) = false := decide_eq_false (by omega)
          have hin3 : n ≤ i := by omega
          have hrl := HI.out.once.good.len
          have HG := Lib.hid HI.out.once.good
          go_wp2_with fail
          refine (next_any 1 b 0 S la lc ll wr o (by omega) HM.out.ses (by omega) (by rw [HZ.out]; decide) HL.out (by unfold Own; omega)).mono ?_
          rintro e w6 ⟨⟨r, hr, rfl⟩, o6, hs6, hS6⟩
          have HM6 := Lib.hid (HM.out.setS hs6 hS6)
          have HX6 := Lib.hid (HL.out.step hs6 (by unfold Own; omega))
          have hnl := next_le S ll
          have hI0 := fun h => HI.out.drain0 hin3 ll h
          have hI1 := fun r (h : (nextS S ll).rq.head? = some r) => HI.out.drain1 hin3 ll ⟨#[116]⟩ h
          have han := (HI.out.next' ll).total
          rw [HNB.out, HNA.out] at han
          have hrun := (good_next HG.out ll).run
          obtain ⟨T, hT⟩ : ∃ T, nextS S ll = T := ⟨_, rfl⟩
          rw [hT] at HM6 hnl hI0 hI1 hrun han
          have HI0 := Lib.hid hI0
          have HI1 := Lib.hid hI1
          have HRUN := Lib.hid hrun
          clear hs6 hS6 hr hI0 hI1 hT hrun HM HL
          go_wp2_with fail
          refine (swaiting_any 1 b T w6 o6 HM6.out.ses (by omega)).mono ?_
          rintro e w7 ⟨v7, rfl, hown7, hb7⟩
          obtain ⟨ia, ic, rfl, hsl7⟩ := ownsRow_sliceMap hown7
          have HM7 := Lib.hid (HM6.out.same hb7)
          have HX7 := Lib.hid (HX6.out.same hb7)
          have hil : (idsR T.rq).length = T.rq.length := by simp [idsR]
          rw [hil]
          have hicm := hsl7.max
          have hicl := hsl7.le
          rw [List.length_map, hil] at hicl
          cases hrq : T.rq with
          | nil =>
            have HI2 := Lib.hid (HI0.out hrq)
            simp only [List.length_nil]
            clear hrq hil hsl7 hown7 hb7 hicl hicm htot hnl han
            go_wp2_with fail
            go_meet
            exact ⟨_, T, B, la, lc, ll, rfl, hll, by rw [HNB.out]; omega, HI2.out, HM7.out, HX7.out⟩
          | cons r rs =>
            obtain ⟨rn, hrn⟩ : ∃ rn, (r :: rs).length = rn := ⟨_, rfl⟩
            have hrn0 : 0 < rn := by rw [← hrn]; simp
            have hrnI : (0 : Int) < rn := by omega
            have hrne : T.rq.length = rn := by rw [hrq]; exact hrn
            rw [hrn]
            rw [hrne] at hicl
            obtain ⟨ib, ioff, rfl⟩ := hsl7.addr (by rw [List.length_map, hil]; omega)
            have x0 : w7.cell? ⟨ib, ioff, none⟩ = some (.int .i64 r.id) := by
              have := hsl7.cell (i := 0) (v := .int .i64 r.id) (by rw [hrq]; rfl)
              simpa using this
            have K8 := Lib.hid (finish_any 1 b 0 T r.id 0 ⟨#[116]⟩ la lc ll w7 o6 (by omega) HM7.out.ses HRUN.out (by omega) (by omega) HX7.out.1)
            have HI2 := Lib.hid (HI1.out r (by rw [hrq]; rfl))
            obtain ⟨rid, hrid⟩ : ∃ rid, r.id = rid := ⟨_, rfl⟩
            rw [hrid] at x0 K8 HI2
            clear hrq hil hsl7 hown7 hb7 hrn hrne hrid
            go_wp2_with fail
            refine K8.out.mono ?_
            rintro e w8 ⟨rfl, o8, hs8, hS8⟩
            have HM8 := Lib.hid (HM7.out.setS hs8 hS8)
            have HX8 := Lib.hid (HX7.out.step hs8 (by unfold Own; omega))
            clear hs8 hS8 x0
            go_wp2_with fail
            go_meet
            exact ⟨_, _, B, la, lc, ll, rfl, hll, by rw [HNB.out]; omega, HI2.out, HM8.out, HX8.out⟩
      case rest => as_aux_lemma =>
        obtain ⟨o', S', B', la', lc', ll', rfl, hll', hnb', HI', HM', HL'⟩ := hcut
        clear HI HM HL HZ HBR HNB
        obtain ⟨ba', bc', rfl⟩ := HM'.out.beg.form
        have htt := HI'.out.total
        rw [HNA.out] at htt
        have hbn' := HI'.out.bn
        go_wp2_with fail
        refine (answers_any 1 b S' wc o' (by omega) HM'.out.ses).mono ?_
        rintro e w2 ⟨v, rfl, hs2, hS2, hrow⟩
        obtain ⟨xa, xc, rfl, hrec⟩ := hrow.at
        have hxcl := hrec.le
        have hxcm := hrec.cap_le
        obtain ⟨xn, hxn⟩ : ∃ xn, S'.an.length = xn := ⟨_, rfl⟩
        rw [hxn] at hrow hxcl htt ⊢
        have HM2 := Lib.hid (HM'.out.setS hs2 hS2)
        have HL2 := Lib.hid (HL'.out.step hs2 (by unfold Own; omega))
        have HR2 := Lib.hid hrow
        have HXN := Lib.hid hxn
        clear hs2 hS2 hrow hrec hxn HM' HL'
        obtain ⟨bn, hbnn⟩ : ∃ bn, B'.length = bn := ⟨_, rfl⟩
        rw [hbnn] at HM2 htt hbn' hnb' ⊢
        have HBN := Lib.hid hbnn
        clear hbnn
        go_wp2_with fail
        go_loopw [6, 13] (fun av kv wr => ∃ (k : Nat) (o : Nat → Nat), k ≤ xn ∧ kv = .int .i64 k ∧ Hid (OW w wr o b (clrS S') (.slice ra n rc) ops (.slice ba' bn bc') av B' (A ++ (idsA S'.an).take k)) ∧ Hid (RowA wr o 12 (.slice xa xn xc) S'.an) ∧ Hid (RecD vnC 2 wr o 0 la' lc' ll')) (fun _ kv _ => xn - (intOf kv).toNat)
        case atStart => exact ⟨0, o', by omega, rfl, by have := HM2.out; unfold Hid; simpa using this, HR2.out, HL2.out⟩
        case round =>
          clear HM2 HR2 HL2
          obtain ⟨k, o, hk, rfl, HM, HR, HL⟩ := hrel
          obtain ⟨aa', ac', rfl⟩ := HM.out.ans.form
          have hal : (A ++ (idsA S'.an).take k).length = na + k := by
            rw [List.length_append, HNA.out, List.length_take, show (idsA S'.an).length = xn from by rw [← HXN.out]; simp [idsA]]
            omega
          by_cases hkx : k < xn
          · obtain ⟨r, hr⟩ : ∃ r, S'.an[k]? = some r := ⟨S'.an[k]'(by rw [HXN.out]; exact hkx), List.getElem?_eq_getElem _⟩
            have hrec := HR.out.recAt.2
            obtain ⟨xb, xoff, rfl⟩ := RecAt.addr anZ (by decide) hrec (by rw [HXN.out]; omega)
            obtain ⟨f0, f1, f2, f3⟩ := Ans.cells hrec hr
            have heach := HI'.out.once.each (k := k) (by rw [HXN.out]; exact hkx)
            have hrr : S'.an[k]'(by rw [HXN.out]; exact hkx) = r := by rw [List.getElem?_eq_getElem (by rw [HXN.out]; exact hkx), Option.some.injEq] at hr; exact hr
            rw [hrr] at heach
            have hsa := HM.out.ans.slice
            have hsb := HM.out.beg.slice
            rw [hal]
            have k1 := hasI_any aa' ac' (A ++ (idsA S'.an).take k) r.id wr (by simpa using hsa)
            have k2 := hasI_any ba' bc' B' r.id wr (by simpa using hsb)
            rw [hal, decide_eq_false heach.1] at k1
            rw [HBN.out, decide_eq_true heach.2] at k2
            have htk : (idsA S'.an).take (k + 1) = (idsA S'.an).take k ++ [r.id] := by
              rw [List.take_succ_eq_append_getElem (by simp [idsA]; rw [HXN.out]; exact hkx)]
              simp [idsA, hrr]
            have hrow := HM.out.ans
            rw [hal] at hrow
            have K1 := Lib.hid k1
            have K2 := Lib.hid k2
            have HTK := Lib.hid htk
            have HROW := Lib.hid hrow
            have HAL := Lib.hid hal
            obtain ⟨rid, hrid⟩ : ∃ rid, r.id = rid := ⟨_, rfl⟩
            rw [hrid] at f0 K1 K2 HTK
            clear hr hrec heach hrr hsa hsb k1 k2 htk hrow hal hrid f1 f2 f3
            go_wp2_with fail
            refine K1.out.mono ?_
            rintro e w3 ⟨rfl, rfl⟩
            go_wp2_with fail
            refine K2.out.mono ?_
            rintro e w3 ⟨rfl, rfl⟩
            go_wp2_with (at_builtin; refine wpList_append_row rfl (.tmp 123) (.tmp 129) 22 rfl elemI rfl HROW.out ((Below.refl _ wr).alloc (Nat.le_refl _) _) (some ⟨wr.heap.size, 0, none⟩) 1 1 [.int .i64 rid] rfl (row_new (cs := [.int .i64 rid]) (by rfl) (by omega)) (by simp [Value.oneCell']) (by omega) (by omega) ?_)
            intro v8 w8 hrow8 hs8
            obtain ⟨a8, k8, rfl⟩ := hrow8.form
            have hM8 : OW w w8 (newLab wr o 23) b (clrS S') (.slice ra n rc) ops (.slice ba' bn bc') (.slice a8 (na + k + 1) k8) B' (A ++ (idsA S'.an).take (k + 1)) := by
              refine HM.out.setA hs8 ?_
              rw [HTK.out, ← List.append_assoc, List.length_append, HAL.out, List.map_append, List.map_append, List.map_take, List.append_assoc]
              exact hrow8
            have HM8 := Lib.hid hM8
            have HR8 := Lib.hid (HR.out.step hs8 (by omega))
            have HL8 := Lib.hid (HL.out.step hs8 (by omega))
            clear hM8 hrow8 hs8 f0
            go_wp2_with fail
            go_roundw
            case rel => first | exact ⟨k + 1, _, by omega, by go_num, HM8.out, HR8.out, HL8.out⟩ | ((repeat apply Exists.intro); refine ⟨?_, rfl⟩; exact ⟨k + 1, _, by omega, by go_num, HM8.out, HR8.out, HL8.out⟩)
            case measure => simp [intOf]; omega
          · have hkk : k = xn := by omega
            have hI2 := HI'.out.clr
            rw [hal] at HM ⊢
            have htk : (idsA S'.an).take k = idsA S'.an := by rw [hkk]; exact List.take_of_length_le (by rw [← HXN.out]; simp [idsA])
            rw [htk] at HM
            clear htk
            have HI2 := Lib.hid hI2
            obtain ⟨rn, hrn⟩ : ∃ rn, S'.rq.length = rn := ⟨_, rfl⟩
            rw [hrn] at htt
            have hw2 := swaiting_any 1 b (clrS S') wr o HM.out.ses (by show S'.rq.length ≤ _; omega)
            rw [show (clrS S').rq.length = rn from hrn] at hw2
            have HW2 := Lib.hid hw2
            have hsum : (((na + k : Nat) : Int) + (rn : Int) != (bn : Int)) = false := by simp; omega
            clear hal hI2 hrn hw2
            go_wp2_with fail
            refine HW2.out.mono ?_
            rintro e w3 ⟨v3, rfl, hown3, hb3⟩
            obtain ⟨ia, ic, rfl⟩ : ∃ a c, v3 = .slice a rn c := by
              rcases hown3.2 with ⟨rfl, h0⟩ | ⟨g, cap, cur, rfl, _⟩
              · exact ⟨_, _, by rw [h0]⟩
              · exact ⟨_, _, rfl⟩
            have HM3 := Lib.hid (HM.out.same hb3)
            have HL3 := Lib.hid (HL.out.same hb3)
            clear hown3 hb3 HM HL HW2
            subst hkk
            go_wp2_with fail
            go_roundw
            case rel => exact ⟨i + 1, o, clrS S', B', A ++ idsA S'.an, la', lc', ll', by rw [HBN.out]; omega, by go_num, rfl, hll', HI2.out, rfl, HM3.out, HL3.out⟩
            case measure => simp [intOf]; omega
    · have hrq0 : S.rq.length = 0 := by rcases HI.out.dr with h | h <;> omega
      have d1 : decide ((i : Int) ≤ (n : Int) + (B.length : Int)) = false := decide_eq_false (by omega)
      have hw2 := swaiting_any 1 b S wr o HM.out.ses (by omega)
      rw [hrq0] at hw2 htot
      have HW2 := Lib.hid hw2
      have hal : A.length = B.length := by omega
      rw [hal] at HM ⊢
      clear hw2 hrq0 hal htot
      go_wp2_with fail
      refine HW2.out.mono ?_
      rintro e w3 ⟨v3, rfl, hown3, hb3⟩
      obtain ⟨ia, ic, rfl⟩ : ∃ a c, v3 = .slice a 0 c := by
        rcases hown3.2 with ⟨rfl, _⟩ | ⟨g, cap, cur, rfl, _⟩
        · exact ⟨_, _, rfl⟩
        · exact ⟨_, _, rfl⟩
      have hB3 := Below.step HM.out.below hb3
      clear hown3 hb3
      go_wp2_with fail
      refine (lives_any w3).mono ?_
      rintro e w4 ⟨rfl, hb4⟩
      have hB4 := Below.step hB3 hb4
      go_wp2_with fail
      go_ret
      exact ⟨rfl, hB4⟩
end Go.Proofs.Ytaonhmdifinadaa
