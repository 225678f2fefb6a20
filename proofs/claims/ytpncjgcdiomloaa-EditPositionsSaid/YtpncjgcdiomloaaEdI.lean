/-
  Contracts: Bound, Pick, Few and the generator of edits.
-/
import Derived.Test.YtpncjgcdiomloaaEdE
namespace Go.Proofs.Ytpncjgcdiomloaa
open Go Go.Proofs
open Go.RowKit
set_option linter.unusedVariables false
set_option linter.unusedSimpArgs false

def fewE (e : Ed) : Ed := ⟨e.f, e.t, cutL e.x 0 8⟩
def fewL (es : List Ed) (m : Nat) : List Ed := (es.take m).map fewE
theorem cutL_le (l : List UInt8) (a b : Nat) : (cutL l a b).length ≤ b - a := by unfold cutL; simp; omega
theorem few_len (es : List Ed) (m : Nat) : (fewL es m).length ≤ m := by unfold fewL; simp; omega

theorem bound_any (n m : Int) (w : World) (h1 : 0 ≤ m) (h2 : m ≤ 1099511627776) (h3 : -9223372036854775808 ≤ n) (h4 : n ≤ 9223372036854775807) :
    Calls Try.prog 23 #[.int .i64 n, .int .i64 m] w fun e w' => e = .returned (.int .i64 (aroundI n (2 * m + 1) - m)) ∧ w = w' := by
  have hlo := aroundI_lo n (2 * m + 1) (by omega)
  have hhi := aroundI_hi n (2 * m + 1) (by omega)
  have K := Lib.hid (around_any n (2 * m + 1) w (by omega) (by omega) h3 h4)
  generalize aroundI n (2 * m + 1) = z at *
  go_enter Try.func23, Try.ntmps23
  go_wp2_with fail
  refine K.out.mono ?_
  rintro e w' ⟨rfl, rfl⟩
  go_wp2
  go_ret
  exact ⟨rfl, rfl⟩

theorem pick_any (a : Option Addr) (c : Nat) (xs : List Int) (i : Nat) (m : Int) (w : World) (hx : SliceAt w a c (xs.map intV)) (hb : ∀ n ∈ xs, -9223372036854775808 ≤ n ∧ n ≤ 9223372036854775807) (h1 : 1 ≤ m) (h2 : m ≤ 9223372036854775807) (hi : i ≤ 1000000) :
    Calls Try.prog 58 #[.slice a xs.length c, .int .i64 i, .int .i64 m] w fun e w' => e = .returned (.int .i64 (if h : i < xs.length then aroundI xs[i] m else 0)) ∧ w = w' := by
  have h3 := hx.len
  simp only [List.length_map] at h3
  have d0 : decide ((i : Int) < 0) = false := decide_eq_false (by omega)
  by_cases hlt : i < xs.length
  · rw [dif_pos hlt]
    obtain ⟨b, off, rfl⟩ := hx.addr (by simp; omega)
    have f1 := hx.intV hlt
    have hbn := hb xs[i] (List.getElem_mem _)
    have hle := hx.le
    simp only [List.length_map] at hle
    generalize xs[i] = n at *
    have K := Lib.hid (around_any n m w h1 h2 hbn.1 hbn.2)
    have d1 : decide (xs.length ≤ i) = false := by simp; omega
    have d2 : decide ((xs.length : Int) ≤ (i : Int)) = false := by simp; omega
    have d3 : (0 : Int) ≤ (i : Int) := by omega
    have d4 : (i : Int) < (xs.length : Int) := by omega
    clear hb hbn
    go_enter Try.func58, Try.ntmps58
    go_wp2_with fail
    refine K.out.mono ?_
    rintro e w' ⟨rfl, rfl⟩
    go_wp2
    go_ret
    exact ⟨rfl, rfl⟩
  · rw [dif_neg hlt]
    have d1 : decide (xs.length ≤ i) = true := by simp; omega
    have d2 : decide ((xs.length : Int) ≤ (i : Int)) = true := by simp; omega
    clear hb
    go_enter Try.func58, Try.ntmps58
    go_wp2
    go_ret
    exact ⟨rfl, rfl⟩

set_option maxRecDepth 100000 in
set_option maxHeartbeats 4000000 in
theorem fewEd_any (a : Option Addr) (c : Nat) (es : List Ed) (m : Nat) (w : World) (hx : EdsAt w a c es) (hm : m ≤ 100) (hl : ∀ e ∈ es, e.x.length ≤ 9223372036854775807) :
    Calls Try.prog 15 #[.slice a es.length c, .int .i64 m] w fun e w' => ∃ v, e = .returned v ∧ OwnEds w' w.heap.size v (fewL es m) ∧ Below w.heap.size w w' := by
  have hmx := hx.max
  have HL := Lib.hid hl
  clear hl
  go_enter Try.func15, Try.ntmps15
  go_wp2
  go_loopw [5, 6] (fun ov iv wr => ∃ (k : Nat), k ≤ es.length ∧ k ≤ m ∧ iv = .int .i64 k ∧ OwnEds wr w.heap.size ov (fewL es k) ∧ Below w.heap.size w wr) (fun _ iv _ => es.length - (intOf iv).toNat)
  case atStart => exact ⟨0, by omega, by omega, rfl, OwnEds.nil _ _, Below.refl _ _⟩
  case round =>
    obtain ⟨k, hk, hkm, rfl, hO, hB⟩ := hrel
    by_cases hlt : k < es.length ∧ k < m
    · obtain ⟨hlt, hltm⟩ := hlt
      obtain ⟨b, off, rfl⟩ := hx.addr (by omega)
      obtain ⟨e, he⟩ : ∃ e, es[k]? = some e := ⟨es[k], List.getElem?_eq_getElem hlt⟩
      obtain ⟨f0, f1, f2⟩ := (hx.below hB).cells he
      have hle := HL.out e (List.mem_of_getElem? he)
      have hfew : fewL es (k + 1) = fewL es k ++ [fewE e] := by
        unfold fewL
        rw [List.take_succ_eq_append_getElem hlt, List.map_append]
        rw [List.getElem?_eq_getElem hlt, Option.some.injEq] at he
        rw [he]; rfl
      have hfl : (fewL es k).length = k := by unfold fewL; simp; omega
      obtain ⟨acc, hacc⟩ : ∃ acc, fewL es k = acc := ⟨_, rfl⟩
      rw [hacc] at hfew hfl hO
      obtain ⟨ef, et, ex⟩ := e
      simp only at f0 f1 f2 hle
      have HF := Lib.hid hfew
      have HFL := Lib.hid hfl
      have hal : acc.length ≤ 100 := by omega
      clear hfew hacc hfl he
      have hsb : (strB ex).size ≤ 9223372036854775807 := hle
      have hsz1 := hB.size
      have KS := fun W => Lib.hid (short_any (strB ex) 8 W hsb (by decide))
      have HOW := Lib.hid hO
      have HBW := Lib.hid hB
      have hBB : Below wr.heap.size wr ((wr.alloc (.cells #[.int .i64 ef, .int .i64 et, .string (strB (cutL ex 0 8))] 39)).alloc (.cells #[.int .i64 ef, .int .i64 et, .string (strB (cutL ex 0 8))] 39)) := ((Below.refl _ wr).alloc (Nat.le_refl _) _).alloc (by simp) _
      have hrow := row_new (w := (wr.alloc (.cells #[.int .i64 ef, .int .i64 et, .string (strB (cutL ex 0 8))] 39))) (cs := [.int .i64 ef, .int .i64 et, .string (strB (cutL ex 0 8))]) (e := 39) (n := 1) (size := 3) rfl (by decide)
      rw [World.size_alloc] at hrow
      have HROW := Lib.hid hrow
      clear hrow
      have HBB := Lib.hid hBB
      clear hO hB hBB
      go_wp2_with fail
      refine (KS _).out.mono ?_
      rintro e w1 ⟨rfl, rfl⟩
      rw [ext_strB, strB_list]
      go_wp2_with (at_builtin; refine wpList_append_src _ rfl (.tmp 27) (.tmp 29) 22 rfl elemE w.heap.size _ acc.length _ rfl (ownsRow_below HOW.out HBB.out) (some ⟨wr.heap.size + 1, 0, none⟩) 1 1 [.int .i64 ef, .int .i64 et, .string (strB (cutL ex 0 8))] rfl HROW.out (by simp [Value.oneCell']) (by omega) (by omega) (by simp; omega) ?_)
      intro v2 w2 hown2 hB2 hgrow
      have hO2 : OwnEds w2 w.heap.size v2 (acc ++ [fewE ⟨ef, et, ex⟩]) := OwnEds.snoc hown2
      have HO2 := Lib.hid hO2
      have hB3 := HBW.out.trans (HBB.out.mono hsz1)
      have HB3 := Lib.hid (hB3.trans hB2)
      obtain ⟨av, cv, rfl, _⟩ := ownsRow_row hown2
      clear hown2 hgrow hO2 hB3 hB2
      go_wp2
      go_roundw
      case rel => exact ⟨k + 1, by omega, by omega, by go_num, by rw [HF.out]; exact HO2.out, HB3.out⟩
      case measure => simp [intOf]; omega
    · have hfin : fewL es k = fewL es m := by
        unfold fewL
        rcases Nat.lt_or_ge k es.length with h | h
        · obtain rfl : k = m := by omega
          rfl
        · rw [List.take_of_length_le (by omega), List.take_of_length_le (by omega)]
      rw [hfin] at hO
      have HO := Lib.hid hO
      clear hO hfin
      by_cases h : k < es.length
      · have h2 : ¬ k < m := fun h2 => hlt ⟨h, h2⟩
        have d1 : decide (k < m) = false := decide_eq_false h2
        clear hlt
        go_wp2
        go_ret
        exact ⟨_, rfl, HO.out, hB⟩
      · clear hlt
        go_wp2
        go_ret
        exact ⟨_, rfl, HO.out, hB⟩
end Go.Proofs.Ytpncjgcdiomloaa
