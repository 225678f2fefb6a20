/-
  The walk of the law EditPositions.
-/
import Derived.Test.YtpncjgcdiomloaaPeF
import Derived.Test.YtpncjgcdiomloaaEdR
import Derived.Test.YtpncjgcdiomloaaHash
import Derived.Deep.DeepCutAuto
import Derived.StillTailTactics
namespace Go.Proofs.Ytpncjgcdiomloaa
open Go Go.Proofs
open Go.RowKit
set_option linter.unusedVariables false
set_option linter.unusedSimpArgs false

theorem row_neP {W : World} {b : Nat} {cs : Array Value} {t e : TypeId} (h : W.heap[b]? = some (.cells cs t (0, 0))) (hte : t ≠ e) {base size k : Nat} {v : Value} {xs : List Value} (hr : W.ownsRow base e size v k xs) : some b ≠ v.ownBlock := by
  rcases hr.2 with ⟨rfl, _⟩ | ⟨g, cap, cur, rfl, _, hgb, _⟩
  · simp [Value.ownBlock]
  · intro e'
    obtain rfl : b = g := by simpa [Value.ownBlock] using e'
    have := h.symm.trans hgb
    simp at this
    exact hte this.2
theorem hold_grow {W W2 : World} {own : Option Nat} (hg : W.grownBy W2 own) {p : Addr} {v : Value} (h : W.cell? p = some v) (hne : some p.block ≠ own) : W2.cell? p = some v := by
  have hb := hg.block p.block (World.block_lt_of_cell? W _ h) hne
  rw [← h]
  unfold World.cell?
  rw [hb]
theorem hold5 {W W2 : World} {own : Option Nat} {p0 p1 p2 p3 p4 : Addr} {v0 v1 v2 v3 v4 : Value} (h : W.cell? p0 = some v0 ∧ W.cell? p1 = some v1 ∧ W.cell? p2 = some v2 ∧ W.cell? p3 = some v3 ∧ W.cell? p4 = some v4) (hg : W.grownBy W2 own)
    (n0 : some p0.block ≠ own) (n1 : some p1.block ≠ own) (n2 : some p2.block ≠ own) (n3 : some p3.block ≠ own) (n4 : some p4.block ≠ own) : W2.cell? p0 = some v0 ∧ W2.cell? p1 = some v1 ∧ W2.cell? p2 = some v2 ∧ W2.cell? p3 = some v3 ∧ W2.cell? p4 = some v4 :=
  ⟨hold_grow hg h.1 n0, hold_grow hg h.2.1 n1, hold_grow hg h.2.2.1 n2, hold_grow hg h.2.2.2.1 n3, hold_grow hg h.2.2.2.2 n4⟩

set_option maxRecDepth 100000 in
set_option maxHeartbeats 8000000 in
theorem editPositions_walk (a : Option Addr) (c : Nat) (xs : List Int) (a2 : Option Addr) (c2 : Nat) (ys : List Int) (w : World)
    (hx : SliceAt w a c (xs.map intV)) (hxb : ∀ n ∈ xs, -9223372036854775808 ≤ n ∧ n ≤ 9223372036854775807) (hy : SliceAt w a2 c2 (ys.map intV)) (hyb : ∀ n ∈ ys, -9223372036854775808 ≤ n ∧ n ≤ 9223372036854775807) :
    Calls Try.prog 12 #[.slice a xs.length c, .slice a2 ys.length c2] w fun e w' => e = .returned (.bool true) ∧ Below w.heap.size w w' := by
  have htl := textB_list xs
  have htsz := textB_size xs
  have hWt := text_whole xs
  rw [← htl] at hWt
  have K1 := Lib.hid (text_b a c xs w hx hxb)
  generalize textB xs = s at *
  have K2 := Lib.hid fun W (hW : Below w.heap.size w W) => edits_any s a2 c2 ys W (by omega) hWt (hy.below hW) hyb
  obtain ⟨l, hl⟩ : ∃ l, s.data.toList = l := ⟨_, rfl⟩
  have hsl : s.size = l.length := by rw [← hl]; rfl
  rw [hl] at hWt K2
  have HL := Lib.hid hl
  have HWH := Lib.hid hWt
  clear htl hx hxb hy hyb hl hWt
  go_enter Try.func12, Try.ntmps12
  go_wp2_with fail
  refine K1.out.mono ?_
  rintro e w1 ⟨rfl, hb1⟩
  go_wp2_with fail
  refine (K2.out w1 hb1).mono ?_
  rintro e w2 ⟨a6, c6, es, rfl, hG, hE, hb2⟩
  obtain ⟨hG1, hG2, hG3⟩ := hG
  have hft := snd_ft hG1
  have hcm := hE.max
  have hce := hE.le
  have hcx := hE.2.2.1
  have HE := Lib.hid hE
  have HG1 := Lib.hid hG1
  have HG3 := Lib.hid hG3
  have HFT := Lib.hid hft
  have HB2 := Lib.hid (Below.step hb1 hb2)
  have hll : l.length ≤ 96 := by omega
  have kat := fun (f : Nat) W (hf : f ≤ 1000000) => at_any s f W (by omega) (by omega) (by omega)
  rw [HL.out] at kat
  unfold posV at kat
  have KAT := Lib.hid kat
  clear hG1 hG3 hft hE hb1 hb2 K1 K2 kat
  go_wp2_with fail
  go_loopw [7, 8] (fun pv iv wr => ∃ k : Nat, k ≤ es.length ∧ iv = .int .i64 k ∧ OwnRec pedC 5 58 wr w2.heap.size pv ((es.take k).map (pedOf l)) ∧ Below w2.heap.size w2 wr) (fun _ iv _ => es.length - (intOf iv).toNat)
  case atStart => exact ⟨0, by omega, rfl, by simpa using OwnRec.nil _ _, Below.refl _ _⟩
  case round =>
    obtain ⟨k, hk, rfl, hO, hB⟩ := hrel
    obtain ⟨av, cv, rfl, -⟩ := hO.at
    by_cases hlt : k < es.length
    · obtain ⟨b, off, rfl⟩ := HE.out.addr (by omega)
      obtain ⟨e, he⟩ : ∃ e, es[k]? = some e := ⟨es[k], List.getElem?_eq_getElem hlt⟩
      obtain ⟨f0, f1, f2⟩ := (HE.out.below hB).cells he
      have hmem := List.mem_of_getElem? he
      obtain ⟨hxl, f, t, hf, ht, bf, bt⟩ := HG3.out e hmem
      have hfl := bord_ge bf
      have htl := bord_ge bt
      obtain ⟨l1, u1, q1, o1, r1, r2, r3⟩ := bord_pos bf (by omega)
      obtain ⟨l2, u2, q2, o2, r4, r5, r6⟩ := bord_pos bt (by omega)
      have hped : pedOf l e = ⟨l1, u1, l2, u2, strB e.x⟩ := by unfold pedOf; rw [hf, ht, q1, q2]
      have htk : (es.take (k + 1)).map (pedOf l) = (es.take k).map (pedOf l) ++ [⟨l1, u1, l2, u2, strB e.x⟩] := by
        have he' := he
        rw [List.getElem?_eq_getElem hlt, Option.some.injEq] at he'
        rw [List.take_succ_eq_append_getElem hlt, List.map_append, he', List.map_singleton, hped]
      have hln : ((es.take k).map (pedOf l)).length = k := by simp; omega
      obtain ⟨acc, hacc⟩ : ∃ acc, (es.take k).map (pedOf l) = acc := ⟨_, rfl⟩
      rw [hacc] at htk hln hO ⊢
      have k1 := fun W => KAT.out f W (by omega)
      have k2 := fun W => KAT.out t W (by omega)
      rw [q1] at k1
      rw [q2] at k2
      rw [hf] at f0
      rw [ht] at f1
      obtain ⟨x, hxx⟩ : ∃ x, strB e.x = x := ⟨_, rfl⟩
      rw [hxx] at htk f2
      have HTK := Lib.hid htk
      have HLN := Lib.hid hln
      have KK1 := Lib.hid k1
      have KK2 := Lib.hid k2
      have HO := Lib.hid hO
      have HHB := Lib.hid hB
      have hbw : b < w2.heap.size := World.block_lt_of_cell? w2 _ (HE.out.cells he).1
      clear he hmem hf ht bf bt hfl htl q1 q2 o1 o2 hped htk hacc k1 k2 hxx hxl hO hB
      rw [hln]
      clear hln
      go_wp2_with fail
      refine (KK1.out wr).mono ?_
      rintro e' w3 ⟨rfl, hb3⟩
      have f1 := Below.kept hb3 (Nat.le_refl _) f1
      have f2 := Below.kept hb3 (Nat.le_refl _) f2
      have hB3 := Below.step HHB.out hb3
      have HO3 := Lib.hid (OwnRec.below HO.out hb3)
      have f1a := fun (ob : Obj) => Below.kept ((Below.refl _ w3).alloc (Nat.le_refl _) ob) (Nat.le_refl _) f1
      obtain ⟨w4, hw4⟩ : ∃ y, y = w3.alloc (.cells #[.int .i64 l1, .int .i64 u1] 54) := ⟨_, rfl⟩
      obtain ⟨p0, p1, hb4⟩ := pos_new hw4
      have y3 : w4.heap[w3.heap.size]? = some (.cells #[.int .i64 l1, .int .i64 u1] 54 (0, 0)) := by rw [hw4]; exact heap_alloc_new w3 _
      have hz4 : w3.heap.size < w4.heap.size := by rw [hw4]; simp
      have f1 := Below.kept hb4 (Nat.le_refl _) f1
      have f2 := Below.kept hb4 (Nat.le_refl _) f2
      have hB4 := Below.step hB3 hb4
      have HO4 := Lib.hid (OwnRec.below HO3.out hb4)
      have HW4 := Lib.hid hw4
      clear hw4 hb3 hb4 HO3 HO hB3
      generalize hg3 : w3.heap.size = g3 at *
      go_wp2_with fail
      rw [← HW4.out]
      refine (KK2.out w4).mono ?_
      rintro e' w5 ⟨rfl, hb5⟩
      have f2 := Below.kept hb5 (Nat.le_refl _) f2
      have p0 := Below.kept hb5 (Nat.le_refl _) p0
      have p1 := Below.kept hb5 (Nat.le_refl _) p1
      have hB5 := Below.step hB4 hb5
      have y3 := (hb5.block g3 hz4).trans y3
      have hg35 : g3 < w5.heap.size := Nat.lt_of_lt_of_le hz4 hb5.size
      have HO5 := Lib.hid (OwnRec.below HO4.out hb5)
      obtain ⟨w6, hw6⟩ : ∃ y, y = w5.alloc (.cells #[.int .i64 l2, .int .i64 u2] 54) := ⟨_, rfl⟩
      obtain ⟨p2, p3, hb6⟩ := pos_new hw6
      have f2 := Below.kept hb6 (Nat.le_refl _) f2
      have p0 := Below.kept hb6 (Nat.le_refl _) p0
      have p1 := Below.kept hb6 (Nat.le_refl _) p1
      have hB6 := Lib.hid (Below.step hB5 hb6)
      have HO6 := Lib.hid (OwnRec.below HO5.out hb6)
      have HW6 := Lib.hid hw6
      clear hw6 hb5 hB4 hB5 HO4 HO5 f0 f1 f1a hz4
      generalize hg5 : w5.heap.size = g5 at *
      go_upto_region 11 with fail
      rw [← HW6.out]
      have y3' : w6.heap[g3]? = some (.cells #[.int .i64 l1, .int .i64 u1] 54 (0, 0)) := (hb6.block g3 hg35).trans y3
      have y5' : w6.heap[g5]? = some (.cells #[.int .i64 l2, .int .i64 u2] 54 (0, 0)) := by rw [HW6.out, ← hg5]; exact heap_alloc_new w5 _
      have hrow : w6.ownsRow w2.heap.size 58 5 (.slice av k cv) k (acc.flatMap pedC) := by have h := HO6.out; unfold OwnRec at h; rw [HLN.out] at h; exact h
      have n3 := row_neP y3' (by decide) hrow
      have n5 := row_neP y5' (by decide) hrow
      have nb : some b ≠ (Value.slice av k cv).ownBlock := fun e' => by have := (hrow.lt b e'.symm).1; omega
      have HROW := Lib.hid hrow
      have HY3 := Lib.hid y3'
      have hsz6 := hB6.out.size
      clear hb6 y3 y3' y5' hrow HO6
      go_region_held3 (fun W => W.cell? ⟨g3, 0, none⟩ = some (.int .i64 l1) ∧ W.cell? ⟨g3, 1, none⟩ = some (.int .i64 u1) ∧ W.cell? ⟨g5, 0, none⟩ = some (.int .i64 l2) ∧ W.cell? ⟨g5, 1, none⟩ = some (.int .i64 u2) ∧ W.cell? ⟨b, off + k * 3 + 2, none⟩ = some (.string x))
        (first | assumption | exact ⟨p0, p1, p2, p3, f2⟩ | exact hold5 (by assumption) hgrow8 n3 n3 n5 n5 nb | go_keep)
        ((refine step_append_src (by rfl) (.tmp 63) (.tmp 72) 52 (by rfl) elemPE w2.heap.size _ k _ (by rfl) (ownsRow_below HROW.out ((Below.drew (Below.refl _ w6)).alloc (Nat.le_refl _) _)) (some ⟨w6.heap.size, 0, none⟩) 1 1 (pedC ⟨l1, u1, l2, u2, x⟩) (by rfl) (row_new (cs := pedC ⟨l1, u1, l2, u2, x⟩) (by rfl) (by omega)) (pedO _) (by omega) (by omega) (by simp; omega) ?_; intro v' w8 hown8 hbel8 hgrow8))
      have hO8 : OwnRec pedC 5 58 w8 w2.heap.size v' ((es.take (k + 1)).map (pedOf l)) := by
        rw [HTK.out]
        refine OwnRec.snoc (f := pedC) (x := (⟨l1, u1, l2, u2, x⟩ : PEd)) ?_
        rw [HLN.out]
        exact hown8
      have hB8 := ((Below.drew hB6.out).alloc hsz6 _).trans hbel8
      have HO8 := Lib.hid hO8
      have HB8 := Lib.hid hB8
      clear hown8 hbel8 hgrow8 hO8 hB8
      go_wp2_with fail
      go_roundw
      case rel => exact ⟨k + 1, by omega, by go_num, HO8.out, HB8.out⟩
      case measure => simp [intOf]; omega
    · obtain rfl : k = es.length := by omega
      rw [List.take_length] at hO ⊢
      have hpl : (es.map (pedOf l)).length = es.length := by simp
      have hpx := pbX_all (l := l) (es := es) (fun e he => ⟨HG3.out e he, (HFT.out e he).2.2.1⟩) (by omega)
      have hpat : PEdsAt wr av cv (es.map (pedOf l)) := by
        obtain ⟨a', c', e', h'⟩ := hO.at
        simp only [Value.slice.injEq] at e'
        obtain ⟨rfl, -, rfl⟩ := e'
        exact h'
      have kb := pbytes_any s av cv (es.map (pedOf l)) wr (by omega) hpat (by
        intro p hp
        obtain ⟨e, he, rfl⟩ := List.mem_map.1 hp
        obtain ⟨hxl, f, t, hf, ht, bf, bt⟩ := HG3.out e he
        obtain ⟨l1, u1, q1, o1, r1, r2, r3⟩ := bord_pos bf (by omega)
        obtain ⟨l2, u2, q2, o2, r4, r5, r6⟩ := bord_pos bt (by omega)
        unfold pedOf
        rw [hf, ht, q1, q2]
        refine ⟨⟨?_, ?_⟩, ⟨?_, ?_⟩, ⟨?_, ?_⟩, ⟨?_, ?_⟩, ?_⟩ <;> (first | (dsimp only; omega) | (show (strB e.x).size ≤ _; rw [strB_size]; omega)))
      rw [HL.out, hpx] at kb
      have KB := Lib.hid kb
      have HHB := Lib.hid hB
      obtain ⟨P, hP⟩ : ∃ P, es.map (pedOf l) = P := ⟨_, rfl⟩
      rw [hP] at KB hpl ⊢
      rw [hpl] at KB ⊢
      clear hO hpx hpat kb hP hpl hB KAT
      go_wp2_with fail
      refine KB.out.mono ?_
      rintro e' w3 ⟨v3, rfl, ho3, hb3⟩
      have hy := ownBEd_eds ho3 fun e he => ⟨(HFT.out e he).1, (HFT.out e he).2.1⟩
      obtain ⟨a3, c3, rfl, hY⟩ := hy.at
      have HY := Lib.hid hY
      have hB3 := Below.step HHB.out hb3
      clear ho3 hy hY hb3 KB HHB
      obtain ⟨n1, n2, n3, n4, n5⟩ := inv_facts HG1.out hG2
      have hTl := apply_le (B := 1000) HG1.out fun e he => (HG3.out e he).1
      have hEx : ∀ e ∈ es, e.x.length ≤ 1000000 := fun e he => by have := (HG3.out e he).1; omega
      have hIx : ∀ e ∈ invL l 0 es, e.x.length ≤ 1000000 := fun e he => by have := inv_texts e he; omega
      have k1 := fun W (hW : Below w3.heap.size w3 W) => Apply_any s a3 c3 es W (by omega) (HY.out.below hW) (by rw [HL.out, n3]; omega)
      rw [HL.out, n3, hsl, n1] at k1
      have k2 := fun W (hW : Below w2.heap.size w2 W) => Invert_any s a6 c6 es W (by omega) (HE.out.below hW) hEx
      rw [HL.out, n2, hsl, n1] at k2
      have k3 := fun W a9 c9 (hI : EdsAt W a9 c9 (invL l 0 es)) => Apply_any (strB (applyL l 0 es)) a9 c9 (invL l 0 es) W (by rw [strB_size]; omega) hI (by rw [strB_list, n5]; omega)
      rw [strB_list, strB_size, n4, n5] at k3
      have hss : strB l = s := by rw [← HL.out]; exact strB_of s
      rw [hss] at k3
      have K1 := Lib.hid k1
      have K2 := Lib.hid k2
      have K3 := Lib.hid k3
      clear k1 k2 k3 n1 n2 n3 n4 n5 hEx hIx hss
      generalize invL l 0 es = BK at *
      obtain ⟨T, hT⟩ : ∃ T, applyL l 0 es = T := ⟨_, rfl⟩
      rw [hT] at K1 K3 hTl
      have HT := Lib.hid hT
      clear hT
      go_wp2_with fail
      refine (K1.out w3 (Below.refl _ _)).mono ?_
      rintro e' w4 ⟨rfl, hb4⟩
      have hB4 := Below.step hB3 hb4
      go_wp2_with fail
      refine (K2.out w4 hB4).mono ?_
      rintro e' w5 ⟨v5, rfl, ho5, hb5⟩
      obtain ⟨a5, c5, rfl, hI5⟩ := ho5.at
      have HI5 := Lib.hid hI5
      have hB5 := Below.step hB4 hb5
      have hB35 := Below.step hb4 hb5
      clear ho5 hI5
      go_wp2_with fail
      refine (K3.out w5 a5 c5 HI5.out).mono ?_
      rintro e' w6 ⟨rfl, hb6⟩
      have hB6 := Below.step hB5 hb6
      have KS := Lib.hid (sameEd_any a6 a3 c6 c3 es w6 (HE.out.below hB6) (HY.out.below (Below.step hB35 hb6)))
      clear K1 K2 K3 hB35 hB5 hB4 hb4 hb5 hb6 hB3
      go_wp2_with fail
      refine KS.out.mono ?_
      rintro e' w7 ⟨rfl, hb7⟩
      have HB7 := Lib.hid (Below.step hB6 hb7)
      clear KS hB6 hb7
      have KH := Lib.hid fun (bs : List UInt8) (ad : Option Addr) (cc : Nat) W (hS : SliceAt W ad cc (bs.map byteV)) (hl : bs.length ≤ 1000) => bytes_any ⟨#[116, 101, 120, 116]⟩ ad cc bs W (by decide) hS (by omega)
      cases es with
      | nil =>
        simp only [List.length_nil] at *
        go_wp2_with (with_reducible refine wpList_bytes_list _ rfl _ rfl Try.underlying9 Try.underlying62 Try.underlying5 _ rfl l HL.out (by omega) ?_; intro a8 c8 w8 hs8 hb8)
        have KH8 := Lib.hid (KH.out l a8 c8 w8 hs8 (by omega))
        go_wp2_with fail
        refine KH8.out.mono ?_
        rintro e' w9 ⟨rfl, hb9⟩
        go_wp2_with (with_reducible refine wpList_bytes_list _ rfl _ rfl Try.underlying9 Try.underlying62 Try.underlying5 _ rfl l HL.out (by omega) ?_; intro a10 c10 w10 hs10 hb10)
        have KH10 := Lib.hid (KH.out l a10 c10 w10 hs10 (by omega))
        go_wp2_with fail
        refine KH10.out.mono ?_
        rintro e' w11 ⟨rfl, hb11⟩
        go_wp2_with fail
        refine (lives_any w11).mono ?_
        rintro e' w12 ⟨rfl, hb12⟩
        go_wp2_with fail
        go_ret
        exact ⟨rfl, Below.step (Below.step (Below.step (Below.step (Below.step (Below.step HB2.out HB7.out) hb8) hb9) hb10) hb11) hb12⟩
      | cons x es =>
        have hxm := HG3.out x (by simp)
        obtain ⟨hxl, f, tt, hf, ht, bf, bt⟩ := hxm
        obtain ⟨l1, u1, q1, o1, r1, r2, r3⟩ := bord_pos bf (by omega)
        obtain ⟨g1, g2⟩ := first_at HWH.out (es := es) hf bf
        rw [HT.out, q1] at g1
        have hmx := mapX_first HG1.out (by omega) (by omega)
        rw [hf] at hmx
        have ka := fun W => at_any s f W (by omega) (by omega) (by omega)
        have kc := fun W => at_any (strB T) f W (by rw [strB_size]; omega) (by omega) (by omega)
        rw [HL.out, q1] at ka
        rw [strB_list, ← g1] at kc
        unfold posV at ka kc
        have km := fun W (hW : Below w2.heap.size w2 W) => Map_any a6 c6 (x :: es) f false W (HE.out.below hW) ⟨by omega, by omega⟩ (fun e he => by
          have h1 := HFT.out e he
          have h2 := (HG3.out e he).1
          exact ⟨by omega, by omega, by omega, by omega, by omega⟩)
        rw [hmx] at km
        have KA := Lib.hid ka
        have KC := Lib.hid kc
        have KM := Lib.hid km
        obtain ⟨b, off, rfl⟩ := HE.out.addr (by simp)
        obtain ⟨f0, -, -⟩ := (HE.out.below HB7.out).cells (k := 0) (e := x) rfl
        rw [hf, Nat.zero_mul, Nat.add_zero] at f0
        have hlen : (x :: es).length = es.length + 1 := rfl
        rw [hlen] at *
        have dl : decide ((0 : Int) < ((es.length + 1 : Nat) : Int)) = true := decide_eq_true (by omega)
        have dl' : decide ((0 : Int) < (es.length : Int) + 1) = true := decide_eq_true (by omega)
        clear hxl hf ht bf bt q1 o1 g1 g2 hmx ka kc km hlen
        go_wp2_with fail
        refine (KA.out w7).mono ?_
        rintro e' w8 ⟨rfl, hb8⟩
        have hB8 := Below.step HB7.out hb8
        obtain ⟨w9, hw9⟩ : ∃ y, y = w8.alloc (.cells #[.int .i64 l1, .int .i64 u1] 54) := ⟨_, rfl⟩
        obtain ⟨p0, p1, hb9⟩ := pos_new hw9
        have hB9 := Below.step hB8 hb9
        have HW9 := Lib.hid hw9
        clear hw9 hb8 hb9 hB8
        generalize hg8 : w8.heap.size = g8 at *
        go_wp2_with fail
        rw [← HW9.out]
        refine (KM.out w9 hB9).mono ?_
        rintro e' w10 ⟨rfl, hb10⟩
        have p0 := Below.kept hb10 (Nat.le_refl _) p0
        have p1 := Below.kept hb10 (Nat.le_refl _) p1
        have hB10 := Below.step hB9 hb10
        go_wp2_with fail
        refine (KC.out w10).mono ?_
        rintro e' w11 ⟨rfl, hb11⟩
        have p0 := Below.kept hb11 (Nat.le_refl _) p0
        have p1 := Below.kept hb11 (Nat.le_refl _) p1
        have hB11 := Below.step hB10 hb11
        obtain ⟨w12, hw12⟩ : ∃ y, y = w11.alloc (.cells #[.int .i64 l1, .int .i64 u1] 54) := ⟨_, rfl⟩
        obtain ⟨p2, p3, hb12⟩ := pos_new hw12
        have p0 := Below.kept hb12 (Nat.le_refl _) p0
        have p1 := Below.kept hb12 (Nat.le_refl _) p1
        have HB12 := Lib.hid (Below.step hB11 hb12)
        have HW12 := Lib.hid hw12
        clear hw12 hb10 hb11 hb12 hB9 hB10 hB11 KA KC KM
        generalize hg11 : w11.heap.size = g11 at *
        go_upto_region 22 with fail
        rw [← HW12.out]
        go_wp2_with (with_reducible refine wpList_bytes_list _ rfl _ rfl Try.underlying9 Try.underlying62 Try.underlying5 _ rfl l HL.out (by omega) ?_; intro a8 c8 w18 hs8 hb8)
        have KH8 := Lib.hid (KH.out l a8 c8 w18 hs8 (by omega))
        go_wp2_with fail
        refine KH8.out.mono ?_
        rintro e' w19 ⟨rfl, hb9⟩
        go_wp2_with (with_reducible refine wpList_bytes_list _ rfl _ rfl Try.underlying9 Try.underlying62 Try.underlying5 _ rfl l HL.out (by omega) ?_; intro a10 c10 w20 hs10 hb10)
        have KH10 := Lib.hid (KH.out l a10 c10 w20 hs10 (by omega))
        go_wp2_with fail
        refine KH10.out.mono ?_
        rintro e' w21 ⟨rfl, hb11⟩
        go_wp2_with fail
        refine (lives_any w21).mono ?_
        rintro e' w22 ⟨rfl, hb12⟩
        go_wp2_with fail
        go_ret
        exact ⟨rfl, Below.step (Below.step (Below.step (Below.step (Below.step (Below.step HB2.out HB12.out) hb8) hb9) hb10) hb11) hb12⟩
end Go.Proofs.Ytpncjgcdiomloaa
