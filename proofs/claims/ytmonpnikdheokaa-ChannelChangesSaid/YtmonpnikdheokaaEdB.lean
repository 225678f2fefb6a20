/-
  Contracts: edit.Valid, edit.apply, edit.Apply; the reference's Valid and Apply.
-/
import Derived.Test.YtmonpnikdheokaaEdA
import Derived.Test.YtmonpnikdheokaaBld
namespace Go.Proofs.Ytmonpnikdheokaa
open Go Go.Proofs
open Go.RowKit
set_option linter.unusedVariables false
set_option linter.unusedSimpArgs false

theorem ext_list (s : ByteArray) (a b : Nat) : (s.extract a b).data.toList = cutL s.data.toList a b := by
  unfold cutL
  rw [ByteArray.data_extract, Array.toList_extract, List.extract_eq_take_drop]
theorem size_list (s : ByteArray) : s.data.toList.length = s.size := rfl
theorem strB_of (s : ByteArray) : strB s.data.toList = s := by unfold strB; simp
theorem ext_strB (s : ByteArray) (a b : Nat) : s.extract a b = strB (cutL s.data.toList a b) := by rw [← ext_list, strB_of]

theorem edvalid_any (s : ByteArray) (a : Option Addr) (c : Nat) (es : List Ed) (w : World) (hs : s.size ≤ 9223372036854775807) (hx : EdsAt w a c es) :
    Calls Try.prog 111 #[.string s, .slice a es.length c] w fun e w' => e = .returned (.int .i64 (validL s.size es)) ∧ Below w.heap.size w w' := by
  have K := Lib.hid (sound_any a c es s.size w hx)
  go_enter Try.func111, Try.ntmps111
  go_wp2_with fail
  refine K.out.mono ?_
  rintro e w1 ⟨rfl, hb1⟩
  go_wp2
  go_ret
  exact ⟨rfl, hb1⟩

set_option maxRecDepth 100000 in
set_option maxHeartbeats 2000000 in
theorem apply_any (s : ByteArray) (a : Option Addr) (c : Nat) (es : List Ed) (w : World) (hs : s.size ≤ 1000000000) (hx : EdsAt w a c es) (hv : Snd s.size 0 es) (hl : (applyL s.data.toList 0 es).length ≤ 1000000000) :
    Calls Try.prog 112 #[.string s, .slice a es.length c] w fun e w' => e = .returned (.string (strB (applyL s.data.toList 0 es))) ∧ Below w.heap.size w w' := by
  have hm := hx.max
  generalize hR : applyL s.data.toList 0 es = R at hl ⊢
  have HR := Lib.hid hR
  have HV := Lib.hid hv
  clear hR hv
  go_enter Try.func112, Try.ntmps112
  go_wp2
  go_loopw [6, 11] (fun pv iv wr => ∃ (k p : Nat) (acc : List UInt8), k ≤ es.length ∧ iv = .int .i64 k ∧ pv = .int .i64 p ∧ Hid (acc ++ applyL s.data.toList p (es.drop k) = R) ∧ Hid (Snd s.size p (es.drop k)) ∧ BldF w.heap.size w.heap.size acc wr ∧ Below w.heap.size w wr) (fun _ iv _ => es.length - (intOf iv).toNat)
  case atStart => exact ⟨0, 0, [], by omega, rfl, rfl, HR.out, HV.out, bld_new w, (Below.refl _ _).alloc (Nat.le_refl _) _⟩
  case round =>
    obtain ⟨k, p, acc, hk, rfl, rfl, hA, hS, hI, hB⟩ := hrel
    have hsz := bld_lt hI
    by_cases hlt : k < es.length
    · obtain ⟨b, off, rfl⟩ := hx.addr (by omega)
      obtain ⟨e, he⟩ : ∃ e, es[k]? = some e := ⟨es[k], List.getElem?_eq_getElem hlt⟩
      obtain ⟨f0, f1, f2⟩ := (hx.below hB).cells he
      have hd : es.drop k = e :: es.drop (k + 1) := by
        rw [List.getElem?_eq_getElem hlt, Option.some.injEq] at he
        rw [List.drop_eq_getElem_cons hlt, he]
      have hA' := hA.out
      have hS' := hS.out
      rw [hd] at hA' hS'
      obtain ⟨g1, g2, g3, g4⟩ := hS'
      simp only [applyL] at hA'
      have hlen := congrArg List.length hA'
      simp only [List.length_append] at hlen
      obtain ⟨ef, et, ex⟩ := e
      simp only at *
      obtain ⟨f, rfl⟩ : ∃ f : Nat, ef = f := ⟨ef.toNat, by omega⟩
      obtain ⟨t, rfl⟩ : ∃ t : Nat, et = t := ⟨et.toNat, by omega⟩
      simp only [Int.toNat_natCast] at *
      have HA := Lib.hid hA'
      have HS := Lib.hid g4
      clear hA' g4 hA hS hd he
      have hcl := cutL_len (s := s.data.toList) (a := p) (b := f) (by omega) (by rw [size_list]; omega)
      have hw1 := strB_size ex
      rw [hcl] at hlen
      have hes : (s.extract p f).size = f - p := by rw [ByteArray.size_extract]; omega
      have k1 := bld_write w.heap.size w.heap.size acc (s.extract p f) (wr.alloc (.cells #[.int .i64 f, .int .i64 t, .string (strB ex)] 155)) (hI.alloc _) (by omega) (by simp; omega)
      rw [ext_list] at k1
      have K1 := Lib.hid k1
      clear k1 hes
      have hx0 : (wr.alloc (.cells #[.int .i64 f, .int .i64 t, .string (strB ex)] 155)).heap[wr.heap.size]? = some (.cells #[.int .i64 f, .int .i64 t, .string (strB ex)] 155 (0, 0)) := heap_alloc_new wr _
      have HX0 := Lib.hid hx0
      clear hx0
      go_wp2_with fail
      refine K1.out.mono ?_
      rintro e w1 ⟨rfl, hI1, hB1, hk1⟩
      have hx1 := kept_cell hk1 HX0.out (by omega) (by decide)
      have hz1 := hB1.size
      simp at hz1
      have k2 := bld_write w.heap.size w.heap.size (acc ++ cutL s.data.toList p f) (strB ex) w1 hI1 (by simp only [List.length_append, hcl]; omega) (by omega)
      rw [strB_list] at k2
      have K2 := Lib.hid k2
      have x0 : w1.cell? ⟨wr.heap.size, 0, none⟩ = some (.int .i64 f) := cell_of_row w1 _ 0 _ _ _ hx1
      have x1 : w1.cell? ⟨wr.heap.size, 1, none⟩ = some (.int .i64 t) := cell_of_row w1 _ 1 _ _ _ hx1
      have x2 : w1.cell? ⟨wr.heap.size, 2, none⟩ = some (.string (strB ex)) := cell_of_row w1 _ 2 _ _ _ hx1
      have HX1 := Lib.hid hx1
      clear k2 K1 hx1 f0 f1 f2
      go_wp2_with fail
      refine K2.out.mono ?_
      rintro e w2 ⟨rfl, hI2, hB2, hk2⟩
      have hx2 := kept_cell hk2 HX1.out (by omega) (by decide)
      have y1 : w2.cell? ⟨wr.heap.size, 1, none⟩ = some (.int .i64 t) := cell_of_row w2 _ 1 _ _ _ hx2
      clear x0 x1 x2 hx2 K2
      go_wp2
      go_roundw
      case rel => exact ⟨k + 1, t, acc ++ cutL s.data.toList p f ++ ex, by omega, by go_num, rfl, Lib.hid (by rw [← HA.out]; simp only [List.append_assoc]), HS.out, hI2, ((hB.trans ((Below.refl _ _).alloc hB.size _)).trans hB1).trans hB2⟩
      case measure => simp [intOf]; omega
    · have hA' := hA.out
      have hS' := hS.out
      rw [List.drop_of_length_le (by omega)] at hA' hS'
      simp only [applyL] at hA'
      have hp : p ≤ s.size := hS'
      have hlen := congrArg List.length hA'
      simp only [List.length_append, List.length_drop, size_list] at hlen
      have hes : (s.extract p s.size).data.toList = s.data.toList.drop p := by rw [ext_list]; unfold cutL; rw [List.take_of_length_le (by simp [size_list])]
      have hsz2 : (s.extract p s.size).size = s.size - p := by rw [ByteArray.size_extract]; omega
      have k1 := bld_write w.heap.size w.heap.size acc (s.extract p s.size) wr hI (by omega) (by omega)
      rw [hes, hA'] at k1
      have K1 := Lib.hid k1
      clear k1 hes hA' hS' hA hS hsz2
      go_wp2_with fail
      refine K1.out.mono ?_
      rintro e w1 ⟨rfl, hI1, hB1, hk1⟩
      have hz1 := hB1.size
      have K2 := Lib.hid (bld_string w.heap.size w.heap.size R w1 hI1 (by omega))
      clear K1 hk1 hI hlen
      go_wp2_with fail
      refine K2.out.mono ?_
      rintro e w2 ⟨rfl, hB2⟩
      go_wp2
      go_ret
      exact ⟨rfl, (hB.trans hB1).trans hB2⟩
end Go.Proofs.Ytmonpnikdheokaa
