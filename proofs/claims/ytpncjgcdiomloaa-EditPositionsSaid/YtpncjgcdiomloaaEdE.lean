/-
  Contracts: the reference's Apply and Invert.
-/
import Derived.Test.YtpncjgcdiomloaaEdD
namespace Go.Proofs.Ytpncjgcdiomloaa
open Go Go.Proofs
open Go.RowKit
set_option linter.unusedVariables false
set_option linter.unusedSimpArgs false

theorem strB_app (a b : List UInt8) : strB a ++ strB b = strB (a ++ b) := by
  ext1
  unfold strB
  simp [ByteArray.data_append]
theorem ret_str {a b : ByteArray} (h : a = b) : Value.string a = Value.string b := by rw [h]
theorem ed_low {W W2 : World} {b o B : Nat} {v0 v1 v2 : Value} (h : W.cell? ⟨b, o, none⟩ = some v0 ∧ W.cell? ⟨b, o + 1, none⟩ = some v1 ∧ W.cell? ⟨b, o + 2, none⟩ = some v2) (hg : Below B W W2) (hlt : b < B) :
    W2.cell? ⟨b, o, none⟩ = some v0 ∧ W2.cell? ⟨b, o + 1, none⟩ = some v1 ∧ W2.cell? ⟨b, o + 2, none⟩ = some v2 :=
  ⟨(hg.cell (p := ⟨b, o, none⟩) hlt).trans h.1, (hg.cell (p := ⟨b, o + 1, none⟩) hlt).trans h.2.1, (hg.cell (p := ⟨b, o + 2, none⟩) hlt).trans h.2.2⟩

set_option maxRecDepth 100000 in
set_option maxHeartbeats 2000000 in
theorem rApply_any (s : ByteArray) (a : Option Addr) (c : Nat) (es : List Ed) (w : World) (hs : s.size ≤ 1000000000) (hx : EdsAt w a c es) (hl : (applyX s.data.toList es).length ≤ 1000000000) :
    Calls Try.prog 39 #[.string s, .slice a es.length c] w fun e w' => e = .returned (.tuple #[.string (strB (applyX s.data.toList es)), .int .i64 (validL s.size es)]) ∧ Below w.heap.size w w' := by
  have K := Lib.hid (rvalid_any s a c es w (by omega) hx)
  have hm := hx.max
  have hle := hx.le
  have hcm := hx.2.2.1
  by_cases hv : validL s.size es = 0
  · have hv' : validL s.data.toList.length es = 0 := hv
    have hS := valid_snd hv
    rw [applyX_ok hv'] at hl ⊢
    rw [hv] at K ⊢
    generalize hR : applyL s.data.toList 0 es = R at *
    have HR := Lib.hid hR
    have HS := Lib.hid hS
    clear hv hv' hR hS
    go_enter Try.func39, Try.ntmps39
    go_wp2_with fail
    refine K.out.mono ?_
    rintro e w1 ⟨rfl, hb1⟩
    go_wp2_with fail
    go_loopw [7, 8, 9] (fun ov pv iv wr => ∃ (k p : Nat) (acc : List UInt8), k ≤ es.length ∧ iv = .int .i64 k ∧ pv = .int .i64 p ∧ ov = .string (strB acc) ∧ Hid (acc ++ applyL s.data.toList p (es.drop k) = R) ∧ Hid (Snd s.size p (es.drop k)) ∧ Below w.heap.size w wr) (fun _ _ iv _ => es.length - (intOf iv).toNat)
    case atStart => exact ⟨0, 0, [], by omega, rfl, rfl, rfl, HR.out, HS.out, hb1⟩
    case round =>
      obtain ⟨k, p, acc, hk, rfl, rfl, rfl, hA, hS, hB⟩ := hrel
      by_cases hlt : k < es.length
      · obtain ⟨b, off, rfl⟩ := hx.addr (by omega)
        obtain ⟨e, he⟩ : ∃ e, es[k]? = some e := ⟨es[k], List.getElem?_eq_getElem hlt⟩
        obtain ⟨f0, f1, f2⟩ := (hx.below hB).cells he
        have hd : es.drop k = e :: es.drop (k + 1) := by
          rw [List.getElem?_eq_getElem hlt, Option.some.injEq] at he
          rw [List.drop_eq_getElem_cons hlt, he]
        have hA' := hA.out
        have hS' := hS.out
        rw [hd] at hA' hS'
        obtain ⟨g1, g2, g3, g4⟩ := hS'
        simp only [applyL] at hA'
        obtain ⟨ef, et, ex⟩ := e
        simp only at hA' g1 g2 g3 g4 f0 f1 f2
        obtain ⟨f, rfl⟩ : ∃ f : Nat, ef = f := ⟨ef.toNat, by omega⟩
        obtain ⟨t, rfl⟩ : ∃ t : Nat, et = t := ⟨et.toNat, by omega⟩
        simp only [Int.toNat_natCast] at hA' g4
        have hlen := congrArg List.length hA'
        simp only [List.length_append] at hlen
        have hcl := cutL_len (s := s.data.toList) (a := p) (b := f) (by omega) (by rw [size_list]; omega)
        rw [hcl] at hlen
        have z0 : (s.extract p f).size = f - p := by rw [ByteArray.size_extract]; omega
        have hpx := ext_strB s p f
        generalize hpc : s.extract p f = pc at z0 hpx
        have z1 : ¬ 9223372036854775807 < (strB acc).size + pc.size := by rw [z0, strB_size]; omega
        have z2 : ¬ 9223372036854775807 < (strB acc).size + pc.size + (strB ex).size := by rw [z0, strB_size, strB_size]; omega
        have HPX := Lib.hid hpx
        clear hpx
        have HA := Lib.hid hA'
        have HS := Lib.hid g4
        clear hA' g4 hA hS hd he hlen hcl z0
        have g5 : (f : Int) ≤ (s.size : Int) := by omega
        have g6 : (0 : Int) ≤ (p : Int) := by omega
        go_wp2_with fail
        go_region_held3 (fun W => W = wr.drew ∧ W.cell? ⟨b, off + k * 3, none⟩ = some (.int .i64 f) ∧ W.cell? ⟨b, off + k * 3 + 2, none⟩ = some (.string (strB ex))) (first | assumption | exact ⟨rfl, f0, f2⟩) (fail)
        go_wp2
        go_roundw
        case rel => exact ⟨k + 1, t, acc ++ cutL s.data.toList p f ++ ex, by omega, by go_num, rfl, ret_str (by rw [← strB_app, ← strB_app, HPX.out]), Lib.hid (by rw [← HA.out]; simp only [List.append_assoc]), HS.out, Below.drew hB⟩
        case measure => simp [intOf]; omega
      · have hA' := hA.out
        have hS' := hS.out
        rw [List.drop_of_length_le (by omega)] at hA' hS'
        simp only [applyL] at hA'
        have hp : p ≤ s.size := hS'
        have hes : s.extract p s.size = strB (s.data.toList.drop p) := by
          rw [ext_strB]; unfold cutL; rw [List.take_of_length_le (by simp [size_list])]
        have HE := Lib.hid hes
        have HA := Lib.hid hA'
        have z1 : ¬ 9223372036854775807 < (strB acc).size + (s.extract p s.size).size := by
          have := congrArg List.length hA'
          simp only [List.length_append, List.length_drop, size_list] at this
          rw [strB_size, ByteArray.size_extract]; omega
        generalize hpc : s.extract p s.size = pc at z1 HE
        clear hA' hS' hA hS hes
        have g5 : (p : Int) ≤ (s.size : Int) := by omega
        have g6 : (0 : Int) ≤ (p : Int) := by omega
        go_wp2
        go_ret2
        exact ⟨by rw [HE.out, strB_app, HA.out]; rfl, hB⟩
  · have hv' : validL s.data.toList.length es ≠ 0 := hv
    rw [applyX_bad hv', strB_nil]
    clear hv'
    generalize validL s.size es = v at *
    have hne : (v != 0) = true := by simpa using hv
    clear hv hl
    go_enter Try.func39, Try.ntmps39
    go_wp2_with fail
    refine K.out.mono ?_
    rintro e w1 ⟨rfl, hb1⟩
    go_wp2
    go_ret2
    exact ⟨rfl, hb1⟩

set_option maxRecDepth 100000 in
set_option maxHeartbeats 4000000 in
theorem rInvert_any (s : ByteArray) (a : Option Addr) (c : Nat) (es : List Ed) (w : World) (hs : s.size ≤ 1000000000) (hx : EdsAt w a c es) (hl : ∀ e ∈ es, e.x.length ≤ 1000000) :
    Calls Try.prog 19 #[.string s, .slice a es.length c] w fun e w' => ∃ v, e = .returned (.tuple #[v, .int .i64 (validL s.size es)]) ∧ OwnEds w' w.heap.size v (invX s.data.toList es) ∧ Below w.heap.size w w' := by
  have K := Lib.hid (rvalid_any s a c es w (by omega) hx)
  have hle0 := hx.le
  have hcm := hx.2.2.1
  by_cases hv : validL s.size es = 0
  · have hv' : validL s.data.toList.length es = 0 := hv
    have h64 : es.length ≤ 64 := by
      unfold validL at hv
      split at hv
      · omega
      · omega
    have hS := valid_snd hv
    rw [invX_ok hv']
    rw [hv] at K ⊢
    generalize hR : invL s.data.toList 0 es = R
    have HR := Lib.hid hR
    have HS := Lib.hid hS
    have HL := Lib.hid hl
    clear hv hv' hR hS hl
    have hm := hx.max
    go_enter Try.func19, Try.ntmps19
    go_wp2_with fail
    refine K.out.mono ?_
    rintro e w1 ⟨rfl, hb1⟩
    go_wp2_with fail
    go_loopw [7, 8, 9] (fun ov dv iv wr => ∃ (k p : Nat) (d : Int) (acc : List Ed), k ≤ es.length ∧ iv = .int .i64 k ∧ dv = .int .i64 d ∧ 0 ≤ (p : Int) + d ∧ d ≤ 1000000 * (k : Int) ∧ Hid (acc.length = k) ∧ Hid (acc ++ invL s.data.toList d (es.drop k) = R) ∧ Hid (Snd s.size p (es.drop k)) ∧ OwnEds wr w.heap.size ov acc ∧ Below w.heap.size w wr) (fun _ _ iv _ => es.length - (intOf iv).toNat)
    case atStart => exact ⟨0, 0, 0, [], by omega, rfl, rfl, by omega, by omega, rfl, HR.out, HS.out, OwnEds.nil _ _, hb1⟩
    case round =>
      obtain ⟨k, p, d, acc, hk, rfl, rfl, hd1, hd2, hal, hA, hS, hO, hB⟩ := hrel
      by_cases hlt : k < es.length
      · obtain ⟨b, off, rfl⟩ := hx.addr (by omega)
        obtain ⟨e, he⟩ : ∃ e, es[k]? = some e := ⟨es[k], List.getElem?_eq_getElem hlt⟩
        obtain ⟨f0, f1, f2⟩ := (hx.below hB).cells he
        have hbw : b < w.heap.size := World.block_lt_of_cell? w _ ((hx.cells he).1)
        have hle := HL.out e (List.mem_of_getElem? he)
        have hd : es.drop k = e :: es.drop (k + 1) := by
          rw [List.getElem?_eq_getElem hlt, Option.some.injEq] at he
          rw [List.drop_eq_getElem_cons hlt, he]
        have hA' := hA.out
        have hS' := hS.out
        rw [hd] at hA' hS'
        obtain ⟨g1, g2, g3, g4⟩ := hS'
        obtain ⟨ef, et, ex⟩ := e
        simp only [invL] at hA'
        simp only at g1 g2 g3 g4 f0 f1 f2 hle
        obtain ⟨f, rfl⟩ : ∃ f : Nat, ef = f := ⟨ef.toNat, by omega⟩
        obtain ⟨t, rfl⟩ : ∃ t : Nat, et = t := ⟨et.toNat, by omega⟩
        simp only [Int.toNat_natCast] at hA' g4
        rw [← ext_list] at hA'
        have HA := Lib.hid hA'
        have HS := Lib.hid g4
        have hple := g4.le
        clear hA' g4 hA hS hd he
        have hsb := strB_size ex
        have HSB := Lib.hid hsb
        have hsz : (strB ex).size ≤ 1000000 := by omega
        clear hsb
        have HO0 := Lib.hid hO
        have HB0 := Lib.hid hB
        have hsz1 := hB.size
        have hacc : acc.length ≤ 64 := by rw [hal.out]; omega
        clear hO hB
        go_wp2_with fail
        have e1 := IntWalk.i64_in ((f : Int) + d) (by omega)
        have e2 := IntWalk.i64_in ((f : Int) + d + (strB ex).size) (by omega)
        go_region_held3 (fun W => W.cell? ⟨b, off + k * 3, none⟩ = some (.int .i64 f) ∧ W.cell? ⟨b, off + k * 3 + 1, none⟩ = some (.int .i64 t) ∧ W.cell? ⟨b, off + k * 3 + 2, none⟩ = some (.string (strB ex)))
          (first | assumption | exact ⟨f0, f1, f2⟩ | exact ed_low (by assumption) hB2 hbw | go_keep)
          ((refine step_append_src (by rfl) (.tmp 30) (.tmp 53) 22 (by rfl) elemE w.heap.size _ acc.length _ (by rfl) (ownsRow_below HO0.out ((Below.drew (Below.refl _ wr)).alloc (Nat.le_refl _) _)) (some ⟨wr.heap.size, 0, none⟩) 1 1 [.int .i64 (f + d), .int .i64 (f + d + (strB ex).size), .string (s.extract f t)] (by rfl) (row_new (cs := [.int .i64 (f + d), .int .i64 (f + d + (strB ex).size), .string (s.extract f t)]) (by simp) (by omega)) (by simp [Value.oneCell']) (by omega) (by omega) (by simp; omega) ?_; intro v' w2 hown2 hB2 hgrow))
        have hh : w2.cell? ⟨b, off + k * 3, none⟩ = some (.int .i64 f) ∧ w2.cell? ⟨b, off + k * 3 + 1, none⟩ = some (.int .i64 t) ∧ w2.cell? ⟨b, off + k * 3 + 2, none⟩ = some (.string (strB ex)) := by assumption
        obtain ⟨y0, y1, y2⟩ := hh
        have HB2 := Lib.hid hB2
        have HOW := Lib.hid hown2
        clear e1 e2 f0 f1 f2 hgrow hB2 hown2
        obtain ⟨av, cv, rfl, _⟩ := ownsRow_row HOW.out
        have i1 := IntWalk.i64_in (d + (strB ex).size) (by omega)
        have i2 := IntWalk.i64_in ((t : Int) - f) (by omega)
        have i3 := IntWalk.i64_in (d + (strB ex).size - ((t : Int) - f)) (by omega)
        go_wp2_with fail
        go_quiet (fail)
        clear i1 i2 i3
        go_wp2
        go_roundw
        case rel =>
          have hB3 : Below w.heap.size w w2 := (HB0.out.trans ((Below.drew (Below.refl w.heap.size wr)).alloc hsz1 _)).trans HB2.out
          have hO3 : OwnEds w2 w.heap.size (.slice av (acc.length + 1) cv) (acc ++ [⟨f + d, f + d + ex.length, (s.extract f t).data.toList⟩]) := by
            have h := HOW.out
            refine OwnEds.snoc ?_
            unfold edC
            simp only [strB_of]
            rw [← HSB.out]
            exact h
          have hO4 := fun n => hO3.below (Below.drewN (B := w2.heap.size) (w := w2) n)
          exact ⟨k + 1, t, d + (strB ex).size - ((t : Int) - f), acc ++ [⟨f + d, f + d + ex.length, (s.extract f t).data.toList⟩], by omega, by go_num, rfl, by omega, by omega, Lib.hid (by have := hal.out; simp; omega), Lib.hid (by rw [← HA.out]; simp only [List.append_assoc, List.singleton_append]; unfold growE; simp only; rw [HSB.out]; simp only [Int.add_sub_assoc]), HS.out, hO4 _, hB3.trans (Below.drewN _)⟩
        case measure => simp [intOf]; omega
      · have hA' := hA.out
        rw [List.drop_of_length_le (by omega)] at hA'
        simp only [invL, List.append_nil] at hA'
        subst hA'
        clear hA hS HR
        have HO := Lib.hid hO
        clear hO
        go_wp2
        go_ret2
        exact ⟨_, rfl, HO.out, hB⟩
  · have hv' : validL s.data.toList.length es ≠ 0 := hv
    rw [invX_bad hv']
    clear hv'
    generalize validL s.size es = v at *
    have hne : (v != 0) = true := by simpa using hv
    clear hv hl
    go_enter Try.func19, Try.ntmps19
    go_wp2_with fail
    refine K.out.mono ?_
    rintro e w1 ⟨rfl, hb1⟩
    go_wp2
    go_ret2
    exact ⟨_, rfl, OwnEds.nil _ _, hb1⟩
end Go.Proofs.Ytpncjgcdiomloaa
