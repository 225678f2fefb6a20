/-
  Rows of edits; the reference's Apply; the generator's numbers.
-/
import Derived.Test.YtmonpnikdheokaaSeC
import Derived.Test.YtmonpnikdheokaaRec
namespace Go.Proofs.Ytmonpnikdheokaa
open Go Go.Proofs
open Go.RowKit
set_option linter.unusedVariables false
set_option linter.unusedSimpArgs false


theorem elemE : ElemT Try.prog 112 155 (.agg #[.int .i64 0, .int .i64 0, .string ⟨#[]⟩]) 3 32 := ⟨Try.underlying112, info_parts (by kernel_rfl), rfl, by decide⟩
def OwnEds (w : World) (base : Nat) (v : Value) (es : List Ed) : Prop := w.ownsRow base 155 3 v es.length (edCs es)
theorem OwnEds.at {w : World} {base : Nat} {v : Value} {es : List Ed} (h : OwnEds w base v es) : ∃ a cap, v = .slice a es.length cap ∧ EdsAt w a cap es := by
  obtain ⟨a, cap, hv, hr⟩ := ownsRow_row h
  exact ⟨a, cap, hv, hr⟩
theorem OwnEds.below {w w' : World} {base : Nat} {v : Value} {es : List Ed} (h : OwnEds w base v es) (hb : Below w.heap.size w w') : OwnEds w' base v es := ownsRow_below h hb
theorem OwnEds.nil (w : World) (base : Nat) : OwnEds w base (.slice none 0 0) [] := World.ownsRow_nil _ _ _ _
/-- An edit more, as the walk has it. -/
theorem OwnEds.snoc {w : World} {base : Nat} {v : Value} {es : List Ed} {e : Ed} (h : w.ownsRow base 155 3 v (es.length + 1) (edCs es ++ edC e)) : OwnEds w base v (es ++ [e]) := by
  unfold OwnEds
  rw [edCs_app, List.length_append]
  simpa [edCs] using h

theorem strB_app (a b : List UInt8) : strB a ++ strB b = strB (a ++ b) := by
  ext1
  unfold strB
  simp [ByteArray.data_append]
theorem ret_str {a b : ByteArray} (h : a = b) : Value.string a = Value.string b := by rw [h]
theorem ed_low {W W2 : World} {b o B : Nat} {v0 v1 v2 : Value} (h : W.cell? ⟨b, o, none⟩ = some v0 ∧ W.cell? ⟨b, o + 1, none⟩ = some v1 ∧ W.cell? ⟨b, o + 2, none⟩ = some v2) (hg : Below B W W2) (hlt : b < B) :
    W2.cell? ⟨b, o, none⟩ = some v0 ∧ W2.cell? ⟨b, o + 1, none⟩ = some v1 ∧ W2.cell? ⟨b, o + 2, none⟩ = some v2 :=
  ⟨(hg.cell (p := ⟨b, o, none⟩) hlt).trans h.1, (hg.cell (p := ⟨b, o + 1, none⟩) hlt).trans h.2.1, (hg.cell (p := ⟨b, o + 2, none⟩) hlt).trans h.2.2⟩
set_option maxRecDepth 100000 in
set_option maxHeartbeats 2000000 in
theorem rApply_any (s : ByteArray) (a : Option Addr) (c : Nat) (es : List Ed) (w : World) (hs : s.size ≤ 1000000000) (hx : EdsAt w a c es) (hl : (applyX s.data.toList es).length ≤ 1000000000) :
    Calls Try.prog 62 #[.string s, .slice a es.length c] w fun e w' => e = .returned (.tuple #[.string (strB (applyX s.data.toList es)), .int .i64 (validL s.size es)]) ∧ Below w.heap.size w w' := by
  have K := Lib.hid (erv_any s a c es w (by omega) hx)
  have hm := hx.max
  have hle := hx.le
  have hcm := hx.2.2.1
  by_cases hv : validL s.size es = 0
  · have hv' : validL s.data.toList.length es = 0 := hv
    have hS := valid_snd hv
    rw [applyX_ok hv'] at hl ⊢
    rw [hv] at K ⊢
    generalize hR : applyL s.data.toList 0 es = R at *
    have HR := Lib.hid hR
    have HS := Lib.hid hS
    clear hv hv' hR hS
    go_enter Try.func62, Try.ntmps62
    go_wp2_with fail
    refine K.out.mono ?_
    rintro e w1 ⟨rfl, hb1⟩
    go_wp2_with fail
    go_loopw [7, 8, 9] (fun ov pv iv wr => ∃ (k p : Nat) (acc : List UInt8), k ≤ es.length ∧ iv = .int .i64 k ∧ pv = .int .i64 p ∧ ov = .string (strB acc) ∧ Hid (acc ++ applyL s.data.toList p (es.drop k) = R) ∧ Hid (Snd s.size p (es.drop k)) ∧ Below w.heap.size w wr) (fun _ _ iv _ => es.length - (intOf iv).toNat)
    case atStart => exact ⟨0, 0, [], by omega, rfl, rfl, rfl, HR.out, HS.out, hb1⟩
    case round =>
      obtain ⟨k, p, acc, hk, rfl, rfl, rfl, hA, hS, hB⟩ := hrel
      by_cases hlt : k < es.length
      · obtain ⟨b, off, rfl⟩ := hx.addr (by omega)
        obtain ⟨e, he⟩ : ∃ e, es[k]? = some e := ⟨es[k], List.getElem?_eq_getElem hlt⟩
        obtain ⟨f0, f1, f2⟩ := (hx.below hB).cells he
        have hd : es.drop k = e :: es.drop (k + 1) := by
          rw [List.getElem?_eq_getElem hlt, Option.some.injEq] at he
          rw [List.drop_eq_getElem_cons hlt, he]
        have hA' := hA.out
        have hS' := hS.out
        rw [hd] at hA' hS'
        obtain ⟨g1, g2, g3, g4⟩ := hS'
        simp only [applyL] at hA'
        obtain ⟨ef, et, ex⟩ := e
        simp only at hA' g1 g2 g3 g4 f0 f1 f2
        obtain ⟨f, rfl⟩ : ∃ f : Nat, ef = f := ⟨ef.toNat, by omega⟩
        obtain ⟨t, rfl⟩ : ∃ t : Nat, et = t := ⟨et.toNat, by omega⟩
        simp only [Int.toNat_natCast] at hA' g4
        have hlen := congrArg List.length hA'
        simp only [List.length_append] at hlen
        have hcl := cutL_len (s := s.data.toList) (a := p) (b := f) (by omega) (by rw [size_list]; omega)
        rw [hcl] at hlen
        have z0 : (s.extract p f).size = f - p := by rw [ByteArray.size_extract]; omega
        have hpx := ext_strB s p f
        generalize hpc : s.extract p f = pc at z0 hpx
        have z1 : ¬ 9223372036854775807 < (strB acc).size + pc.size := by rw [z0, strB_size]; omega
        have z2 : ¬ 9223372036854775807 < (strB acc).size + pc.size + (strB ex).size := by rw [z0, strB_size, strB_size]; omega
        have HPX := Lib.hid hpx
        clear hpx
        have HA := Lib.hid hA'
        have HS := Lib.hid g4
        clear hA' g4 hA hS hd he hlen hcl z0
        have g5 : (f : Int) ≤ (s.size : Int) := by omega
        have g6 : (0 : Int) ≤ (p : Int) := by omega
        go_wp2_with fail
        go_region_held3 (fun W => W = wr.drew ∧ W.cell? ⟨b, off + k * 3, none⟩ = some (.int .i64 f) ∧ W.cell? ⟨b, off + k * 3 + 2, none⟩ = some (.string (strB ex))) (first | assumption | exact ⟨rfl, f0, f2⟩) (fail)
        go_wp2
        go_roundw
        case rel => exact ⟨k + 1, t, acc ++ cutL s.data.toList p f ++ ex, by omega, by go_num, rfl, ret_str (by rw [← strB_app, ← strB_app, HPX.out]), Lib.hid (by rw [← HA.out]; simp only [List.append_assoc]), HS.out, Below.drew hB⟩
        case measure => simp [intOf]; omega
      · have hA' := hA.out
        have hS' := hS.out
        rw [List.drop_of_length_le (by omega)] at hA' hS'
        simp only [applyL] at hA'
        have hp : p ≤ s.size := hS'
        have hes : s.extract p s.size = strB (s.data.toList.drop p) := by
          rw [ext_strB]; unfold cutL; rw [List.take_of_length_le (by simp [size_list])]
        have HE := Lib.hid hes
        have HA := Lib.hid hA'
        have z1 : ¬ 9223372036854775807 < (strB acc).size + (s.extract p s.size).size := by
          have := congrArg List.length hA'
          simp only [List.length_append, List.length_drop, size_list] at this
          rw [strB_size, ByteArray.size_extract]; omega
        generalize hpc : s.extract p s.size = pc at z1 HE
        clear hA' hS' hA hS hes
        have g5 : (p : Int) ≤ (s.size : Int) := by omega
        have g6 : (0 : Int) ≤ (p : Int) := by omega
        go_wp2
        go_ret2
        exact ⟨by rw [HE.out, strB_app, HA.out]; rfl, hB⟩
  · have hv' : validL s.data.toList.length es ≠ 0 := hv
    rw [applyX_bad hv', strB_nil]
    clear hv'
    generalize validL s.size es = v at *
    have hne : (v != 0) = true := by simpa using hv
    clear hv hl
    go_enter Try.func62, Try.ntmps62
    go_wp2_with fail
    refine K.out.mono ?_
    rintro e w1 ⟨rfl, hb1⟩
    go_wp2
    go_ret2
    exact ⟨rfl, hb1⟩
theorem cutL_le (l : List UInt8) (a b : Nat) : (cutL l a b).length ≤ b - a := by unfold cutL; simp; omega
theorem pick_any (a : Option Addr) (c : Nat) (xs : List Int) (i : Nat) (m : Int) (w : World) (hx : SliceAt w a c (xs.map intV)) (hb : ∀ n ∈ xs, -9223372036854775808 ≤ n ∧ n ≤ 9223372036854775807) (h1 : 1 ≤ m) (h2 : m ≤ 9223372036854775807) (hi : i ≤ 1000000) :
    Calls Try.prog 33 #[.slice a xs.length c, .int .i64 i, .int .i64 m] w fun e w' => e = .returned (.int .i64 (if h : i < xs.length then aroundI xs[i] m else 0)) ∧ w = w' := by
  have h3 := hx.len
  simp only [List.length_map] at h3
  have d0 : decide ((i : Int) < 0) = false := decide_eq_false (by omega)
  by_cases hlt : i < xs.length
  · rw [dif_pos hlt]
    obtain ⟨b, off, rfl⟩ := hx.addr (by simp; omega)
    have f1 := hx.intV hlt
    have hbn := hb xs[i] (List.getElem_mem _)
    have hle := hx.le
    simp only [List.length_map] at hle
    generalize xs[i] = n at *
    have K := Lib.hid (around_any n m w h1 h2 hbn.1 hbn.2)
    have d1 : decide (xs.length ≤ i) = false := by simp; omega
    have d2 : decide ((xs.length : Int) ≤ (i : Int)) = false := by simp; omega
    have d3 : (0 : Int) ≤ (i : Int) := by omega
    have d4 : (i : Int) < (xs.length : Int) := by omega
    clear hb hbn
    go_enter Try.func33, Try.ntmps33
    go_wp2_with fail
    refine K.out.mono ?_
    rintro e w' ⟨rfl, rfl⟩
    go_wp2
    go_ret
    exact ⟨rfl, rfl⟩
  · rw [dif_neg hlt]
    have d1 : decide (xs.length ≤ i) = true := by simp; omega
    have d2 : decide ((xs.length : Int) ≤ (i : Int)) = true := by simp; omega
    clear hb
    go_enter Try.func33, Try.ntmps33
    go_wp2
    go_ret
    exact ⟨rfl, rfl⟩

theorem pick_b (a : Option Addr) (c : Nat) (xs : List Int) (i : Int) (m : Int) (w : World) (hx : SliceAt w a c (xs.map intV)) (hb : ∀ n ∈ xs, -9223372036854775808 ≤ n ∧ n ≤ 9223372036854775807) (h1 : 1 ≤ m) (h2 : m ≤ 9223372036854775807) (hi : 0 ≤ i) (hi2 : i ≤ 1000000) :
    Calls Try.prog 33 #[.slice a xs.length c, .int .i64 i, .int .i64 m] w fun e w' => ∃ z : Nat, (z : Int) < m ∧ e = .returned (.int .i64 z) ∧ w = w' := by
  obtain ⟨j, rfl⟩ : ∃ j : Nat, i = j := ⟨i.toNat, by omega⟩
  refine (pick_any a c xs j m w hx hb h1 h2 (by omega)).mono ?_
  rintro e w' ⟨rfl, rfl⟩
  by_cases hlt : j < xs.length
  · have h3 := aroundI_lo xs[j] m h1
    have h4 := aroundI_hi xs[j] m h1
    rw [dif_pos hlt]
    exact ⟨(aroundI xs[j] m).toNat, by omega, ret_int (by omega), rfl⟩
  · rw [dif_neg hlt]
    exact ⟨0, by omega, rfl, rfl⟩
theorem OwnEds.base {w : World} {b b' : Nat} {v : Value} {es : List Ed} (h : OwnEds w b v es) (hb : b' ≤ b) : OwnEds w b' v es := by
  refine ⟨h.1, ?_⟩
  rcases h.2 with hn | ⟨g, cap, cur, rfl, hg, rest⟩
  · exact .inl hn
  · exact .inr ⟨g, cap, cur, rfl, Nat.le_trans hb hg, rest⟩
theorem gen_mod (n p m : Nat) (h : p ≤ m) : ∃ q : Nat, (n : Int) % ((m : Int) - (p : Int) + 1) = (q : Int) ∧ p + q ≤ m := by
  have h1 := Int.emod_nonneg (n : Int) (b := (m : Int) - p + 1) (by omega)
  have h2 := Int.emod_lt_of_pos (n : Int) (b := (m : Int) - p + 1) (by omega)
  exact ⟨((n : Int) % ((m : Int) - p + 1)).toNat, by omega, by omega⟩
theorem gen_mod2 (n m : Nat) : ∃ q : Nat, (n : Int) % ((m : Int) + 1) = (q : Int) ∧ q ≤ m := by
  have h1 := Int.emod_nonneg (n : Int) (b := (m : Int) + 1) (by omega)
  have h2 := Int.emod_lt_of_pos (n : Int) (b := (m : Int) + 1) (by omega)
  exact ⟨((n : Int) % ((m : Int) + 1)).toNat, by omega, by omega⟩
theorem gen_min (p m : Nat) (h : p ≤ m) : ∃ q : Nat, min ((m : Int) - (p : Int)) 6 = (q : Int) ∧ p + q ≤ m := ⟨min (m - p) 6, by omega, by omega⟩
theorem gen_min7 (p m : Nat) (h : p ≤ m) : ∃ q : Nat, min ((m : Int) - (p : Int)) 7 = (q : Int) ∧ p + q ≤ m ∧ q ≤ 7 := ⟨min (m - p) 7, by omega, by omega, by omega⟩
def wordsL : List Value := [.string ⟨#[]⟩, .string ⟨#[120]⟩, .string ⟨#[97, 98]⟩, .string ⟨#[32]⟩, .string ⟨#[10]⟩, .string ⟨#[108, 101, 116]⟩, .string ⟨#[48]⟩, .string ⟨#[43]⟩, .string ⟨#[195, 169]⟩, .string ⟨#[240, 157, 132, 158, 121]⟩, .string ⟨#[40]⟩, .string ⟨#[34]⟩, .string ⟨#[97, 95, 49]⟩]
theorem words_at (m : Nat) (h : m < 13) : ∃ x : List UInt8, wordsL[m]? = some (.string (strB x)) ∧ x.length ≤ 7 := by
  match m, h with
  | 0, _ => exact ⟨[], rfl, by decide⟩
  | 1, _ => exact ⟨[120], rfl, by decide⟩
  | 2, _ => exact ⟨[97, 98], rfl, by decide⟩
  | 3, _ => exact ⟨[32], rfl, by decide⟩
  | 4, _ => exact ⟨[10], rfl, by decide⟩
  | 5, _ => exact ⟨[108, 101, 116], rfl, by decide⟩
  | 6, _ => exact ⟨[48], rfl, by decide⟩
  | 7, _ => exact ⟨[43], rfl, by decide⟩
  | 8, _ => exact ⟨[195, 169], rfl, by decide⟩
  | 9, _ => exact ⟨[240, 157, 132, 158, 121], rfl, by decide⟩
  | 10, _ => exact ⟨[40], rfl, by decide⟩
  | 11, _ => exact ⟨[34], rfl, by decide⟩
  | 12, _ => exact ⟨[97, 95, 49], rfl, by decide⟩
  | m + 13, h => omega
theorem gen_from (b : Bool) (p q1 q2 m : Nat) (h1 : p + q1 ≤ m) (h2 : p + q2 ≤ m) :
    (b = true ∧ ∃ f : Nat, (p : Int) + (q2 : Int) = (f : Int) ∧ p ≤ f ∧ f ≤ m ∧ ∃ m7 : Nat, min ((m : Int) - (f : Int)) 7 = (m7 : Int) ∧ f + m7 ≤ m ∧ m7 ≤ 7) ∨
    (b = false ∧ ∃ f : Nat, (p : Int) + (q1 : Int) = (f : Int) ∧ p ≤ f ∧ f ≤ m ∧ ∃ m7 : Nat, min ((m : Int) - (f : Int)) 7 = (m7 : Int) ∧ f + m7 ≤ m ∧ m7 ≤ 7) := by
  cases b
  · exact .inr ⟨rfl, p + q1, by omega, by omega, by omega, gen_min7 _ _ (by omega)⟩
  · exact .inl ⟨rfl, p + q2, by omega, by omega, by omega, gen_min7 _ _ (by omega)⟩
end Go.Proofs.Ytmonpnikdheokaa
