/-
  The walk of the law SessionTexts.
-/
import Derived.Test.YtaonhmdifinadaaSxL
import Derived.Test.YtaonhmdifinadaaSxM
import Derived.Test.YtaonhmdifinadaaSesI
import Derived.StillTailTactics
namespace Go.Proofs.Ytaonhmdifinadaa
open Go Go.Proofs
open Go.RowKit
set_option linter.unusedVariables false
set_option linter.unusedSimpArgs false

structure TW (w wr : World) (o : Nat → Nat) (bs bd : Nat) (S : SesS) (ver : Nat) (txt : List UInt8) : Prop where
  since : Step (fun x => x ≠ 0) w (fun _ => 0) wr o
  ses : SesP wr o 1 bs S
  doc : DocAt wr o 2 bd ver txt ver
section
variable {L : Nat → Prop} {w wr w' : World} {o o' : Nat → Nat} {bs bd ver ver' : Nat} {S S' : SesS} {txt txt' : List UInt8}
theorem TW.step (h : TW w wr o bs bd S ver txt) (hs : Step L wr o w' o') (h0 : ∀ l, l < 30 → ¬ L l) : TW w w' o' bs bd S ver txt :=
  ⟨h.since.trans (hs.mono fun l hl e => h0 l (by omega) hl), h.ses.step hs fun l hl => h0 l (by unfold Own at hl; omega), h.doc.step hs fun l hl => h0 l (by unfold Own at hl; omega)⟩
theorem TW.same (h : TW w wr o bs bd S ver txt) (hb : Below wr.heap.size wr w') : TW w w' o bs bd S ver txt := h.step (L := fun _ => False) (Step.same hb) fun _ _ h => h
theorem TW.setS (h : TW w wr o bs bd S ver txt) (hs : Step (Own 1) wr o w' o') (hS : SesP w' o' 1 bs S') : TW w w' o' bs bd S' ver txt :=
  ⟨h.since.trans (hs.mono fun l hl e => by unfold Own at hl; omega), hS, h.doc.step hs fun l hl => by unfold Own at *; omega⟩
theorem TW.setD (h : TW w wr o bs bd S ver txt) (hs : Step (Own 2) wr o w' o') (hD : DocAt w' o' 2 bd ver' txt' ver') : TW w w' o' bs bd S ver' txt' :=
  ⟨h.since.trans (hs.mono fun l hl e => by unfold Own at hl; omega), h.ses.step hs fun l hl => by unfold Own at *; omega, hD⟩
theorem TW.below (h : TW w wr o bs bd S ver txt) : Below w.heap.size w wr := h.since.toBelow (Nat.le_refl _) fun k _ h => h rfl
end
theorem chC_cells {w : World} {cg off cap : Nat} {vs : List Value} (h : RowAt w (some ⟨cg, off, none⟩) vs.length cap 2 (chC 0 vs)) {j : Nat} {v : Value} (hj : vs[j]? = some v) :
    w.cell? ⟨cg, off + j * 2, none⟩ = some (.int .i64 ((j : Int) + 1)) ∧ w.cell? ⟨cg, off + j * 2 + 1, none⟩ = some v := by
  obtain ⟨h1, h2⟩ := chC_get vs 0 j hj
  rw [Nat.zero_add] at h1
  have hlt := (List.getElem?_eq_some_iff.1 hj).1
  obtain ⟨b, o, he, hc⟩ := h.2.2.2.2 (by rw [chC_len]; omega)
  simp only [Option.some.injEq, Addr.mk.injEq, and_true] at he
  obtain ⟨rfl, rfl⟩ := he
  exact ⟨hc _ _ h1, by rw [Nat.add_assoc]; exact hc _ _ h2⟩

set_option maxRecDepth 100000 in
set_option maxHeartbeats 16000000 in
theorem sessionTexts_walk (a : Option Addr) (c : Nat) (xs : List Int) (a2 : Option Addr) (c2 : Nat) (ys : List Int) (w : World)
    (hx : SliceAt w a c (xs.map intV)) (hxb : ∀ n ∈ xs, -9223372036854775808 ≤ n ∧ n ≤ 9223372036854775807) (hy : SliceAt w a2 c2 (ys.map intV)) (hyb : ∀ n ∈ ys, -9223372036854775808 ≤ n ∧ n ≤ 9223372036854775807) :
    Calls Try.prog 3 #[.slice a xs.length c, .slice a2 ys.length c2] w fun e w' => e = .returned (.bool true) ∧ Below w.heap.size w w' := by
  have hylm := hy.len
  simp only [List.length_map] at hylm
  have K1 := Lib.hid (chain_any a c xs w hx hxb)
  have KP := Lib.hid fun (W : World) (hW : Below w.heap.size w W) (i m : Int) (h1 : 1 ≤ m) (h2 : m ≤ 9223372036854775807) (hi : 0 ≤ i) (hi2 : i ≤ 1000000) => pick_b a2 c2 ys i m W (hy.below hW) hyb h1 h2 hi hi2
  clear hx hxb hy hyb
  generalize ys.length = yl at *
  go_enter Try.func3, Try.ntmps3
  go_wp2_with fail
  refine K1.out.mono ?_
  rintro e w1 ⟨l, l', v, vs, cs, rfl, hll, hch, hc6, hrow, hcs, hb1⟩
  obtain ⟨av, cv, rfl, hrat⟩ := ownsRow_row hrow
  have hvl : vs.length = cs.length := hcs.1
  have hrc := hrat.2.1
  have hrm := hrat.2.2.1
  have HRAT := Lib.hid hrat
  have HCS := Lib.hid hcs
  have HCH := Lib.hid hch
  have HB1 := Lib.hid hb1
  obtain ⟨n, hn⟩ : ∃ n, cs.length = n := ⟨_, rfl⟩
  rw [hvl, hn] at hrc ⊢
  rw [hn] at hc6
  have HVL := Lib.hid hvl
  have HN := Lib.hid hn
  clear hch hrow hcs hb1 hrat hvl hn K1
  go_wp2_with fail
  refine (docNew_any l 2 w1 (fun _ => 0) (by omega)).mono ?_
  rintro e w2 ⟨bd, rfl, o2, hs2, hd2⟩
  go_wp2_with fail
  refine (snew_any 1 w2 o2).mono ?_
  rintro e w3 ⟨bs, rfl, o3, hs3, hS3⟩
  have hTW : TW w1 w3 o3 bs bd newS 0 l := ⟨(hs2.mono fun _ h => h.elim).trans (hs3.mono fun _ h => h.elim), hS3, hd2.step hs3 fun _ _ h => h⟩
  have HTW := Lib.hid hTW
  clear hs2 hd2 hs3 hS3 hTW
  go_wp2_with fail
  go_loopw [10, 11, 12, 13] (fun dv nv tv iv wr => ∃ (i id j : Nat) (o : Nat → Nat) (S : SesS) (txt : List UInt8) (tb : ByteArray), i ≤ 24 ∧ iv = .int .i64 i ∧ id ≤ i ∧ dv = .int .i64 id ∧ j ≤ n ∧ nv = .int .i64 j ∧ tv = .string tb ∧ txt.length ≤ 4096 ∧
      Hid (ChainR txt (cs.drop j) l') ∧ Hid (TxI j (strB txt) tb S) ∧ Hid (TW w1 wr o bs bd S j txt)) (fun _ _ _ iv _ => 24 - (intOf iv).toNat)
  case atStart => exact ⟨0, 0, 0, o3, newS, l, ⟨#[]⟩, by omega, rfl, by omega, rfl, by omega, rfl, rfl, by omega, by unfold Hid; rw [List.drop_zero]; exact HCH.out, TxI.new _ _, HTW.out⟩
  case round =>
    clear HTW HCH
    obtain ⟨i, id, j, o, S, txt, tb, hi, rfl, hid, rfl, hj, rfl, rfl, htl, HC, HI, HM⟩ := hrel
    have hBw := Lib.hid (HB1.out.trans (HM.out.below.mono HB1.out.size))
    by_cases hiy : i < yl
    · have d1 : decide ((i : Int) < (yl : Int)) = true := decide_eq_true (by omega)
      have d1' : decide (i < yl) = true := decide_eq_true hiy
      by_cases hi24 : i < 24
      · have d2 : decide ((i : Int) < 24) = true := decide_eq_true (by omega)
        have d2' : decide (i < 24) = true := decide_eq_true hi24
        go_wp2_with fail
        refine (docVersion_any 2 bd j j txt wr o HM.out.doc).mono ?_
        rintro e w4 ⟨rfl, rfl⟩
        obtain ⟨w5, hw5⟩ : ∃ x, x = wr.alloc (.cells #[.string ⟨#[100]⟩, .int .i64 j] 34) := ⟨_, rfl⟩
        obtain ⟨o5, ho5⟩ : ∃ x, newLab wr o 0 = x := ⟨_, rfl⟩
        have hs5 : Step (fun _ => False) wr o w5 o5 := by rw [hw5, ← ho5]; exact Step.newBlk _ _ _
        have hx5 : RecD vnC 2 w5 o5 0 (some ⟨wr.heap.size, 0, none⟩) 1 (verL j) := by
          rw [hw5, ← ho5]
          exact ⟨rec_new (f := vnC) (z := 2) vnZ (w := wr) (xs := verL j) (e := 34) (by simp [verL]), fun _ b off h => by simp at h; obtain ⟨rfl, rfl⟩ := h; exact ⟨newLab_new _ _ _ (Nat.le_refl _), by simp⟩⟩
        have HM5 := Lib.hid (HM.out.step hs5 fun _ _ h => h)
        have HX5 := Lib.hid hx5
        have HW5 := Lib.hid hw5
        have hbw5 : Below w.heap.size w w5 := hBw.out.trans (by rw [hw5]; exact ((Below.refl _ wr).alloc hBw.out.size _))
        have HBW5 := Lib.hid hbw5
        clear hw5 ho5 hs5 hx5 HM hbw5
        generalize hgw : wr.heap.size = gw at *
        go_wp2_with fail
        rw [← HW5.out]
        refine (KP.out w5 HBW5.out i 4 (by decide) (by decide) (by omega) (by omega)).mono ?_
        rintro e w6 ⟨z, hz, rfl, rfl⟩
        go_upto_block 2 with fail
        go_cut [10, 11, 12] (fun s10 s11 s12 wx => ∃ (id' j' : Nat) (o : Nat → Nat) (S' : SesS) (txt' : List UInt8) (tb' : ByteArray), id' ≤ i + 1 ∧ s10 = .int .i64 id' ∧ j' ≤ n ∧ s11 = .int .i64 j' ∧ s12 = .string tb' ∧ txt'.length ≤ 4096 ∧ Hid (ChainR txt' (cs.drop j') l') ∧ Hid (TxO j' (strB txt') tb' S') ∧ Hid (TW w1 wx o bs bd S' j' txt'))
        case first =>
          have hz4 : z = 0 ∨ z = 1 ∨ z = 2 ∨ z = 3 := by omega
          rcases hz4 with rfl | rfl | rfl | rfl
          · as_aux_lemma =>
            by_cases hjn : j < n
            · have d3 : decide ((j : Int) < (n : Int)) = true := decide_eq_true (by omega)
              have d3' : decide (j < n) = true := decide_eq_true hjn
              obtain ⟨v, hv⟩ : ∃ v, vs[j]? = some v := ⟨vs[j]'(by rw [HVL.out, HN.out]; exact hjn), List.getElem?_eq_getElem _⟩
              obtain ⟨ps, hps⟩ : ∃ ps, cs[j]? = some ps := ⟨cs[j]'(by rw [HN.out]; exact hjn), List.getElem?_eq_getElem _⟩
              obtain ⟨pa, pc, rfl, hpat⟩ := ((HCS.out.2 j v ps hv hps).below (HM5.out.below)).at
              have hp0 : 0 < vs.length := by rw [HVL.out, HN.out]; omega
              obtain ⟨cg, coff, hav⟩ : ∃ cg coff, av = some ⟨cg, coff, none⟩ := by
                obtain ⟨b, o', he, _⟩ := HRAT.out.2.2.2.2 (by rw [chC_len]; omega)
                exact ⟨b, o', he⟩
              subst hav
              obtain ⟨c0, c1⟩ := chC_cells (HRAT.out.below HM5.out.below) hv
              have hd : cs.drop j = ps :: cs.drop (j + 1) := by
                rw [List.drop_eq_getElem_cons (by rw [HN.out]; exact hjn)]
                congr 1
                exact (List.getElem?_eq_some_iff.1 hps).2
              have hC := HC.out
              rw [hd] at hC
              obtain ⟨es, hone, hC'⟩ := hC
              have K5 := Lib.hid (docReceive_any 2 bd j j txt pa pc ps es w5 o5 (by decide) HM5.out.doc hpat hone (by omega) (by omega) htl)
              have hTl := hone.len
              have HC2 := Lib.hid hC'
              have HI2 := Lib.hid (HI.out.grow (strB (applyL txt 0 es)))
              clear hv hps hpat hd hone hC' hp0
              go_wp2_with fail
              refine K5.out.mono ?_
              rintro e w7 ⟨rfl, o7, hs7, hd7⟩
              have HM7 := Lib.hid (HM5.out.setD hs7 hd7)
              clear hs7 hd7 c0 c1
              go_wp2_with fail
              go_meet
              exact ⟨id, j + 1, o7, S, _, tb, by omega, rfl, by omega, by go_num, rfl, hTl, HC2.out, HI2.out, HM7.out⟩
            · have d3 : decide ((j : Int) < (n : Int)) = false := decide_eq_false (by omega)
              have d3' : decide (j < n) = false := decide_eq_false hjn
              go_wp2_with fail
              go_meet
              exact ⟨id, j, o5, S, txt, tb, by omega, rfl, hj, rfl, rfl, htl, HC.out, HI.out.out, HM5.out⟩
          · as_aux_lemma =>
            have i1 : IntKind.i64.wrap ((id : Int) + 1) = (id : Int) + 1 := IntWalk.i64_in _ (by omega)
            have i2 : IntKind.i64.wrap ((i : Int) + 1) = (i : Int) + 1 := IntWalk.i64_in _ (by omega)
            go_wp2_with fail
            refine (docVersion_any 2 bd j j txt w5 o5 HM5.out.doc).mono ?_
            rintro e w6 ⟨rfl, rfl⟩
            go_wp2_with fail
            refine (KP.out w5 HBW5.out ((i : Int) + 1) 5 (by decide) (by decide) (by omega) (by omega)).mono ?_
            rintro e w6 ⟨z2, hz2, rfl, rfl⟩
            obtain ⟨q, hq⟩ : ∃ q : Nat, (z2 : Int) / 4 = q := ⟨((z2 : Int) / 4).toNat, by omega⟩
            have hq1 : q ≤ 1 := by omega
            have i3 : IntKind.i64.wrap ((j : Int) - (q : Int)) = (j : Int) - (q : Int) := IntWalk.i64_in _ (by omega)
            obtain ⟨ve, hve⟩ : ∃ ve : Nat, max 0 ((j : Int) - (q : Int)) = ve := ⟨j - q, by omega⟩
            have K7 := begin_any 1 bs S ⟨(id : Int) + 1, 0, ⟨#[100]⟩, ve, 0, ⟨#[]⟩⟩ w5 o5 (by decide) HM5.out.ses HI.out.good (by show (⟨#[100]⟩ : ByteArray).size ≤ _; decide) (by show (⟨#[]⟩ : ByteArray).size ≤ _; decide)
            have HI2 := Lib.hid (HI.out.beg ⟨(id : Int) + 1, 0, ⟨#[100]⟩, ve, 0, ⟨#[]⟩⟩)
            have K7 := Lib.hid K7
            go_wp2_with fail
            refine K7.out.mono ?_
            rintro e w7 ⟨rfl, o7, hs7, hS7⟩
            have HM7 := Lib.hid (HM5.out.setS hs7 hS7)
            clear hs7 hS7
            go_wp2_with fail
            go_meet
            exact ⟨id + 1, j, o7, _, txt, tb, by omega, by go_num, hj, rfl, rfl, htl, HC.out, HI2.out, HM7.out⟩
          · as_aux_lemma =>
            have hrl := HI.out.good.len
            have K7 := next_any 1 bs 0 S (some ⟨gw, 0, none⟩) 1 (verL j) w5 o5 (by decide) HM5.out.ses (by omega) (by rw [HI.out.an]; simp) HX5.out (by unfold Own; omega)
            rw [show (verL j).length = 1 from rfl] at K7
            have hI2 := HI.out.next
            obtain ⟨T, hT⟩ : ∃ T, nextS S (verL j) = T := ⟨_, rfl⟩
            obtain ⟨N, hN⟩ : ∃ N, nextO S (verL j) = N := ⟨_, rfl⟩
            rw [hT, hN] at K7 hI2
            have K7 := Lib.hid K7
            have HI2 := Lib.hid hI2
            clear hI2 hT hN
            go_wp2_with fail
            refine K7.out.mono ?_
            rintro e w7 ⟨⟨⟨ri, rk, rd, rv, rof, rt⟩, hr, rfl⟩, o7, hs7, hS7⟩
            have HM7 := Lib.hid (HM5.out.setS hs7 hS7)
            clear hs7 hS7 hr K7
            obtain ⟨w8, hw8⟩ : ∃ x, x = w7.alloc (.cells #[.int .i64 ri, .int .i64 rk, .string rd, .int .i64 rv, .int .i64 rof, .string rt] 44) := ⟨_, rfl⟩
            have hb8 : Below w7.heap.size w7 w8 := by rw [hw8]; exact (Below.refl _ w7).alloc (Nat.le_refl _) _
            have HM8 := Lib.hid (HM7.out.same hb8)
            have HW8 := Lib.hid hw8
            clear hw8 hb8 HM7
            cases hN : N.isSome with
            | true =>
              rw [hN, if_pos rfl] at HI2
              go_wp2_with fail
              rw [← HW8.out]
              refine (docText_any 2 bd j j txt w8 o7 HM8.out.doc (by omega)).mono ?_
              rintro e w9 ⟨rfl, hb9⟩
              have HM9 := Lib.hid (HM8.out.same hb9)
              clear hb9
              go_wp2_with fail
              go_meet
              exact ⟨id, j, o7, T, txt, strB txt, by omega, rfl, hj, rfl, rfl, htl, HC.out, HI2.out, HM9.out⟩
            | false =>
              rw [hN, if_neg (by decide)] at HI2
              go_wp2_with fail
              rw [← HW8.out]
              go_meet
              exact ⟨id, j, o7, T, txt, tb, by omega, rfl, hj, rfl, rfl, htl, HC.out, HI2.out, HM8.out⟩
          · as_aux_lemma =>
            have hrl := HI.out.good.len
            have hrn := HI.out.good.run
            have K7 := Lib.hid (swaiting_any 1 bs S w5 o5 HM5.out.ses (by omega))
            go_wp2_with fail
            refine K7.out.mono ?_
            rintro e w7 ⟨v7, rfl, hown7, hb7⟩
            have hil : (idsR S.rq).length = S.rq.length := by simp [idsR]
            rw [← hil] at hown7
            obtain ⟨ia, ic, rfl, hsl7⟩ := ownsRow_sliceMap (f := intV) (xs := idsR S.rq) hown7
            have hicl := hsl7.le
            have hicm := hsl7.max
            rw [List.length_map, hil] at hicl
            rw [hil]
            have HM7 := Lib.hid (HM5.out.same hb7)
            have HX7 := Lib.hid (HX5.out.same hb7)
            have HRUN := Lib.hid hrn
            clear hown7 K7 hrn hb7
            cases hrq : S.rq with
            | nil =>
              have d4 : decide ((0 : Int) < ((0 : Nat) : Int)) = false := by decide
              simp only [List.length_nil]
              clear hsl7 hil
              go_wp2_with fail
              go_meet
              exact ⟨id, j, o5, S, txt, tb, by omega, rfl, hj, rfl, rfl, htl, HC.out, HI.out.out, HM7.out⟩
            | cons r rs =>
              obtain ⟨rn, hrn⟩ : ∃ rn, (r :: rs).length = rn := ⟨_, rfl⟩
              have hrn0 : 0 < rn := by rw [← hrn]; simp
              have hrnI : (0 : Int) < rn := by omega
              have d4 : decide ((0 : Int) < (rn : Int)) = true := decide_eq_true hrnI
              have hrne : S.rq.length = rn := by rw [hrq]; exact hrn
              rw [hrn]
              rw [hrne] at hicl
              obtain ⟨ib, ioff, rfl⟩ := hsl7.addr (by rw [List.length_map, hil]; omega)
              have x0 : w7.cell? ⟨ib, ioff, none⟩ = some (.int .i64 r.id) := by
                have := hsl7.cell (i := 0) (v := .int .i64 r.id) (by rw [hrq]; rfl)
                simpa using this
              have k8 := finish_any 1 bs 0 S r.id 0 tb (some ⟨gw, 0, none⟩) 1 (verL j) w7 o5 (by decide) HM7.out.ses HRUN.out (by omega) (by rw [HI.out.an]; simp) HX7.out.1
              rw [show (verL j).length = 1 from rfl] at k8
              have K8 := Lib.hid k8
              have HI2 := Lib.hid (HI.out.fin (r := r) (by rw [hrq]; rfl))
              obtain ⟨rid, hrid⟩ : ∃ rid, r.id = rid := ⟨_, rfl⟩
              rw [hrid] at x0 K8 HI2
              clear hrq hil hsl7 hrn hrne hrid k8
              go_wp2_with fail
              refine K8.out.mono ?_
              rintro e w8 ⟨rfl, o8, hs8, hS8⟩
              have HM8 := Lib.hid (HM7.out.setS hs8 hS8)
              clear hs8 hS8 x0
              go_wp2_with fail
              go_meet
              exact ⟨id, j, o8, _, txt, tb, by omega, rfl, hj, rfl, rfl, htl, HC.out, HI2.out, HM8.out⟩
        case rest => as_aux_lemma =>
          obtain ⟨id', j', o', S', txt', tb', hid', rfl, hj', rfl, rfl, htl', HC', HO', HM'⟩ := hcut
          clear HC HI HM5 HX5 HW5 HBW5
          go_wp2_with fail
          refine (answers_any 1 bs S' wc o' (by decide) HM'.out.ses).mono ?_
          rintro e w6 ⟨v6, rfl, hs6, hS6, hrow6⟩
          obtain ⟨xa, xc, rfl, hrec⟩ := hrow6.at
          have hxcl := hrec.le
          have hxcm := hrec.cap_le
          have HM6 := Lib.hid (HM'.out.setS hs6 hS6)
          have HR6 := Lib.hid hrec
          have HOK := Lib.hid HO'.out.ok
          have hfew := HO'.out.few
          have HCLR := Lib.hid HO'.out.clr
          obtain ⟨A, hA⟩ : ∃ A, S'.an = A := ⟨_, rfl⟩
          rw [hA] at HR6 HOK hfew hxcl ⊢
          clear hs6 hS6 hrow6 hrec HM' HO' hA
          go_wp2_with fail
          go_loopw [19] (fun kv wr => ∃ k : Nat, k ≤ A.length ∧ kv = .int .i64 k ∧ Below w6.heap.size w6 wr) (fun kv _ => A.length - (intOf kv).toNat)
          case atStart => exact ⟨0, by omega, rfl, Below.refl _ _⟩
          case round =>
            obtain ⟨k, hk, rfl, hB⟩ := hrel
            by_cases hkx : k < A.length
            · obtain ⟨x, hx⟩ : ∃ x, A[k]? = some x := ⟨A[k], List.getElem?_eq_getElem hkx⟩
              obtain ⟨xb, xoff, rfl⟩ := RecAt.addr anZ (by decide) HR6.out (by omega)
              obtain ⟨f0, f1, f2, f3⟩ := Ans.cells (HR6.out.below hB) hx
              have hok := HOK.out x (List.mem_of_getElem? hx)
              have dk : decide ((k : Int) < (A.length : Int)) = true := decide_eq_true (by omega)
              obtain ⟨xi, xe, xv, xt⟩ := x
              simp only at f0 f1 f2 f3 hok
              clear hx
              by_cases he : xe = 0
              · obtain ⟨h1, h2⟩ := hok he
                subst he h1 h2
                have K9 := Lib.hid (docAt_any 2 bd j' j' txt' wr o' (HM6.out.same hB).doc (by omega) (by omega))
                go_wp2_with fail
                refine K9.out.mono ?_
                rintro e w9 ⟨rfl, hb9⟩
                have f3 := Below.kept hb9 (Nat.le_refl _) f3
                have HB9 := Lib.hid (Below.step hB hb9)
                have hne : ((strB txt').toList != (strB txt').toList) = false := by simp
                clear f0 f1 f2 hb9 K9 hok
                go_wp2_with fail
                first
                  | exact ⟨⟨k + 1, by omega, by go_num, HB9.out⟩, by simp [intOf]; omega⟩
                  | (go_roundw
                     case rel => exact ⟨k + 1, by omega, by go_num, HB9.out⟩
                     case measure => simp [intOf]; omega)
              · have de : (xe == 0) = false := by simpa using he
                clear hok f0 f2 f3
                go_wp2_with fail
                go_roundw
                case rel => exact ⟨k + 1, by omega, by go_num, hB⟩
                case measure => simp [intOf]; omega
            · have dk : decide ((k : Int) < (A.length : Int)) = false := decide_eq_false (by omega)
              have HM7 := Lib.hid (HM6.out.same hB)
              obtain rfl : k = A.length := by omega
              go_wp2_with fail
              go_roundw
              case rel => exact ⟨i + 1, id', j', o', clrS S', txt', tb', by omega, by go_num, hid', rfl, hj', rfl, rfl, htl', HC'.out, HCLR.out, HM7.out⟩
              case measure => simp [intOf]; omega
      · obtain rfl : i = 24 := by omega
        have d2 : decide (((24 : Nat) : Int) < 24) = false := by decide
        have d2' : decide (24 < 24) = false := by decide
        go_wp2_with fail
        refine (lives_any wr).mono ?_
        rintro e w4 ⟨rfl, hb4⟩
        go_wp2_with fail
        go_ret
        exact ⟨rfl, Below.step hBw.out hb4⟩
    · have d1 : decide ((i : Int) < (yl : Int)) = false := decide_eq_false (by omega)
      have d1' : decide (i < yl) = false := decide_eq_false hiy
      go_wp2_with fail
      refine (lives_any wr).mono ?_
      rintro e w4 ⟨rfl, hb4⟩
      go_wp2_with fail
      go_ret
      exact ⟨rfl, Below.step hBw.out hb4⟩
end Go.Proofs.Ytaonhmdifinadaa
