/-
  Contract: the reference's Positions.
-/
import Derived.Test.YtmonpnikdheokaaSxG
import Derived.Deep.DeepCutAuto
namespace Go.Proofs.Ytmonpnikdheokaa
open Go Go.Proofs
open Go.RowKit
set_option linter.unusedVariables false
set_option linter.unusedSimpArgs false

theorem bor_of {l : List UInt8} {e : Ed} {f t : Nat} (hf : e.f = f) (ht : e.t = t) (h1 : (atC l f).2 = 0) (h2 : (atC l t).2 = 0) : BorG l e := by
  have b1 := (atC_ok (l := l) (off := (f : Int))).1 h1
  have b2 := (atC_ok (l := l) (off := (t : Int))).1 h2
  exact ⟨f, t, hf, ht, by simpa using b1.2, by simpa using b2.2⟩

set_option maxRecDepth 100000 in
set_option maxHeartbeats 8000000 in
theorem positions_any (s : ByteArray) (a6 : Option Addr) (c6 : Nat) (es : List Ed) (w2 : World) (hs : s.size ≤ 5000) (hE : EdsAt w2 a6 c6 es) (hG : GenG s.size es) :
    Calls Try.prog 61 #[.string s, .slice a6 es.length c6] w2 fun e w' => ∃ (b : Bool) (v : Value) (ps : List PEd), e = .returned (.tuple #[v, .bool b]) ∧ OwnRec pedC 5 127 w' w2.heap.size v ps ∧ (b = true → ps = es.map (pedOf s.data.toList) ∧ ∀ e ∈ es, BorG s.data.toList e) ∧ Below w2.heap.size w2 w' := by
  obtain ⟨l, hl⟩ : ∃ l, s.data.toList = l := ⟨_, rfl⟩
  have hsl : s.size = l.length := by rw [← hl]; rfl
  rw [hl]
  rw [hsl] at hG
  obtain ⟨hG1, hG2, hG3⟩ := hG
  have hft := snd_ft hG1
  have hcm := hE.max
  have hce := hE.le
  have hcx := hE.2.2.1
  have HL := Lib.hid hl
  have HE := Lib.hid hE
  have HG1 := Lib.hid hG1
  have HFT := Lib.hid hft
  have hll : l.length ≤ 5000 := by omega
  have kat := fun (f : Nat) W (hf : f ≤ 1000000) => rat_any s f W (by omega) (by omega) (by omega)
  rw [HL.out] at kat
  unfold posV at kat
  have KAT := Lib.hid kat
  clear hG1 hG3 hft hE kat hl
  go_enter Try.func61, Try.ntmps61
  go_wp2_with fail
  go_loopw [6, 7] (fun pv iv wr => ∃ k : Nat, k ≤ es.length ∧ iv = .int .i64 k ∧ OwnRec pedC 5 127 wr w2.heap.size pv ((es.take k).map (pedOf l)) ∧ Below w2.heap.size w2 wr ∧ Hid (∀ e ∈ es.take k, BorG l e)) (fun _ iv _ => es.length - (intOf iv).toNat)
  case atStart => exact ⟨0, by omega, rfl, by simpa using OwnRec.nil _ _, Below.refl _ _, by unfold Hid; simp⟩
  case round =>
    obtain ⟨k, hk, rfl, hO, hB, hBor⟩ := hrel
    obtain ⟨av, cv, rfl, -⟩ := hO.at
    by_cases hlt : k < es.length
    · obtain ⟨b, off, rfl⟩ := HE.out.addr (by omega)
      obtain ⟨e, he⟩ : ∃ e, es[k]? = some e := ⟨es[k], List.getElem?_eq_getElem hlt⟩
      obtain ⟨f0, f1, f2⟩ := (HE.out.below hB).cells he
      have hmem := List.mem_of_getElem? he
      obtain ⟨z1, z2, z3, z4⟩ := HFT.out e hmem
      obtain ⟨f, hf⟩ : ∃ f : Nat, e.f = f := ⟨e.f.toNat, by omega⟩
      obtain ⟨t, ht⟩ : ∃ t : Nat, e.t = t := ⟨e.t.toNat, by omega⟩
      have htk0 : es.take (k + 1) = es.take k ++ [e] := by
        have he' := he
        rw [List.getElem?_eq_getElem hlt, Option.some.injEq] at he'
        rw [List.take_succ_eq_append_getElem hlt, he']
      have htk : (es.take (k + 1)).map (pedOf l) = (es.take k).map (pedOf l) ++ [pedOf l e] := by rw [htk0, List.map_append, List.map_singleton]
      have hbor := fun h1 h2 => bor_of (l := l) (e := e) hf ht h1 h2
      have hped : pedOf l e = ⟨(atC l f).1.1, (atC l f).1.2, (atC l t).1.1, (atC l t).1.2, strB e.x⟩ := by unfold pedOf; rw [hf, ht]
      have hln : ((es.take k).map (pedOf l)).length = k := by simp; omega
      obtain ⟨acc, hacc⟩ : ∃ acc, (es.take k).map (pedOf l) = acc := ⟨_, rfl⟩
      rw [hacc] at htk hln hO ⊢
      have k1 := fun W => KAT.out f W (by omega)
      have k2 := fun W => KAT.out t W (by omega)
      rw [hf] at f0
      rw [ht] at f1
      have hAf : ∃ l1 u1 e1 : Nat, atC l f = ((l1, u1), e1) := ⟨_, _, _, rfl⟩
      have hAt : ∃ l2 u2 e2 : Nat, atC l t = ((l2, u2), e2) := ⟨_, _, _, rfl⟩
      obtain ⟨l1, u1, e1, q1⟩ := hAf
      obtain ⟨l2, u2, e2, q2⟩ := hAt
      rw [q1] at k1 hped hbor
      rw [q2] at k2 hped hbor
      simp only at k1 k2 hped hbor
      obtain ⟨x, hxx⟩ : ∃ x, strB e.x = x := ⟨_, rfl⟩
      rw [hxx] at hped f2
      rw [hped] at htk
      have HTK := Lib.hid htk
      have HTK0 := Lib.hid htk0
      have HBN := Lib.hid hbor
      have HLN := Lib.hid hln
      have KK1 := Lib.hid k1
      have KK2 := Lib.hid k2
      have HO := Lib.hid hO
      have HHB := Lib.hid hB
      have hbw : b < w2.heap.size := World.block_lt_of_cell? w2 _ (HE.out.cells he).1
      clear he hmem hf ht q1 q2 hped htk htk0 hbor hacc k1 k2 hxx hO hB z1 z2 z3 z4
      rw [hln]
      clear hln
      go_wp2_with fail
      refine (KK1.out wr).mono ?_
      rintro e' w3 ⟨rfl, hb3⟩
      have f1 := Below.kept hb3 (Nat.le_refl _) f1
      have f2 := Below.kept hb3 (Nat.le_refl _) f2
      have hB3 := Below.step HHB.out hb3
      have HO3 := Lib.hid (OwnRec.below HO.out hb3)
      have f1a := fun (ob : Obj) => Below.kept ((Below.refl _ w3).alloc (Nat.le_refl _) ob) (Nat.le_refl _) f1
      obtain ⟨w4, hw4⟩ : ∃ y, y = w3.alloc (.cells #[.int .i64 l1, .int .i64 u1] 125) := ⟨_, rfl⟩
      obtain ⟨p0, p1, hb4⟩ := pos_new hw4
      have y3 : w4.heap[w3.heap.size]? = some (.cells #[.int .i64 l1, .int .i64 u1] 125 (0, 0)) := by rw [hw4]; exact heap_alloc_new w3 _
      have hz4 : w3.heap.size < w4.heap.size := by rw [hw4]; simp
      have f1 := Below.kept hb4 (Nat.le_refl _) f1
      have f2 := Below.kept hb4 (Nat.le_refl _) f2
      have hB4 := Below.step hB3 hb4
      have HO4 := Lib.hid (OwnRec.below HO3.out hb4)
      have HW4 := Lib.hid hw4
      clear hw4 hb3 hb4 HO3 HO hB3
      generalize hg3 : w3.heap.size = g3 at *
      go_wp2_with fail
      rw [← HW4.out]
      refine (KK2.out w4).mono ?_
      rintro e' w5 ⟨rfl, hb5⟩
      have f2 := Below.kept hb5 (Nat.le_refl _) f2
      have p0 := Below.kept hb5 (Nat.le_refl _) p0
      have p1 := Below.kept hb5 (Nat.le_refl _) p1
      have hB5 := Below.step hB4 hb5
      have y3 := (hb5.block g3 hz4).trans y3
      have hg35 : g3 < w5.heap.size := Nat.lt_of_lt_of_le hz4 hb5.size
      have HO5 := Lib.hid (OwnRec.below HO4.out hb5)
      obtain ⟨w6, hw6⟩ : ∃ y, y = w5.alloc (.cells #[.int .i64 l2, .int .i64 u2] 125) := ⟨_, rfl⟩
      obtain ⟨p2, p3, hb6⟩ := pos_new hw6
      have f2 := Below.kept hb6 (Nat.le_refl _) f2
      have p0 := Below.kept hb6 (Nat.le_refl _) p0
      have p1 := Below.kept hb6 (Nat.le_refl _) p1
      have hB6 := Lib.hid (Below.step hB5 hb6)
      have HO6 := Lib.hid (OwnRec.below HO5.out hb6)
      have HW6 := Lib.hid hw6
      clear hw6 hb5 hB4 hB5 HO4 HO5 f0 f1 f1a hz4
      generalize hg5 : w5.heap.size = g5 at *
      by_cases h1 : e1 = 0
      · subst h1
        by_cases h2 : e2 = 0
        · subst h2
          go_upto_region 9 with fail
          rw [← HW6.out]
          have y3' : w6.heap[g3]? = some (.cells #[.int .i64 l1, .int .i64 u1] 125 (0, 0)) := (hb6.block g3 hg35).trans y3
          have y5' : w6.heap[g5]? = some (.cells #[.int .i64 l2, .int .i64 u2] 125 (0, 0)) := by rw [HW6.out, ← hg5]; exact heap_alloc_new w5 _
          have hrow : w6.ownsRow w2.heap.size 127 5 (.slice av k cv) k (acc.flatMap pedC) := by have h := HO6.out; unfold OwnRec at h; rw [HLN.out] at h; exact h
          have n3 := row_neP y3' (by decide) hrow
          have n5 := row_neP y5' (by decide) hrow
          have nb : some b ≠ (Value.slice av k cv).ownBlock := fun e' => by have := (hrow.lt b e'.symm).1; omega
          have HROW := Lib.hid hrow
          have hsz6 := hB6.out.size
          clear hb6 y3 y3' y5' hrow HO6
          go_region_held3 (fun W => W.cell? ⟨g3, 0, none⟩ = some (.int .i64 l1) ∧ W.cell? ⟨g3, 1, none⟩ = some (.int .i64 u1) ∧ W.cell? ⟨g5, 0, none⟩ = some (.int .i64 l2) ∧ W.cell? ⟨g5, 1, none⟩ = some (.int .i64 u2) ∧ W.cell? ⟨b, off + k * 3 + 2, none⟩ = some (.string x))
            (first | assumption | exact ⟨p0, p1, p2, p3, f2⟩ | exact hold5 (by assumption) hgrow8 n3 n3 n5 n5 nb | go_keep)
            ((refine step_append_src (by rfl) (.tmp 44) (.tmp 53) 68 (by rfl) elemPE w2.heap.size _ k _ (by rfl) (ownsRow_below HROW.out ((Below.drew (Below.refl _ w6)).alloc (Nat.le_refl _) _)) (some ⟨w6.heap.size, 0, none⟩) 1 1 (pedC ⟨l1, u1, l2, u2, x⟩) (by rfl) (row_new (cs := pedC ⟨l1, u1, l2, u2, x⟩) (by rfl) (by omega)) (pedO _) (by omega) (by omega) (by simp; omega) ?_; intro v' w8 hown8 hbel8 hgrow8))
          have hO8 : OwnRec pedC 5 127 w8 w2.heap.size v' ((es.take (k + 1)).map (pedOf l)) := by
            rw [HTK.out]
            refine OwnRec.snoc (f := pedC) (x := (⟨l1, u1, l2, u2, x⟩ : PEd)) ?_
            rw [HLN.out]
            exact hown8
          have hB8 := ((Below.drew hB6.out).alloc hsz6 _).trans hbel8
          have HO8 := Lib.hid hO8
          have HB8 := Lib.hid hB8
          clear hown8 hbel8 hgrow8 hO8 hB8
          have HBN2 : Hid (∀ e ∈ es.take (k + 1), BorG l e) := fun y hy => by
            rw [HTK0.out] at hy
            rcases List.mem_append.1 hy with hy | hy
            · exact hBor.out y hy
            · simp only [List.mem_singleton] at hy
              subst hy
              exact HBN.out trivial trivial
          go_wp2_with fail
          go_roundw
          case rel => exact ⟨k + 1, by omega, by go_num, HO8.out, HB8.out, HBN2⟩
          case measure => simp [intOf]; omega
        · have d2 : ((e2 : Int) != 0) = true := by simp; omega
          go_wp2_with fail
          rw [← HW6.out]
          go_ret2
          exact ⟨false, _, [], rfl, OwnRec.nil _ _, (fun h => by cases h), hB6.out⟩
      · have d1 : ((e1 : Int) != 0) = true := by simp; omega
        go_wp2_with fail
        rw [← HW6.out]
        go_ret2
        exact ⟨false, _, [], rfl, OwnRec.nil _ _, (fun h => by cases h), hB6.out⟩
    · obtain rfl : k = es.length := by omega
      rw [List.take_length] at hO ⊢
      have HO := Lib.hid hO
      have HBor : Hid (∀ e ∈ es, BorG l e) := by have h := hBor.out; rw [List.take_length] at h; exact h
      clear hO hBor
      go_wp2_with fail
      go_ret2
      exact ⟨true, _, _, rfl, HO.out, fun _ => ⟨rfl, HBor.out⟩, hB⟩
end Go.Proofs.Ytmonpnikdheokaa
