/-
  Contracts: edit.Apply; the reference's Valid and Apply.
-/
import Derived.Test.YtmonpnikdheokaaEdB
import Derived.IntWalk
namespace Go.Proofs.Ytmonpnikdheokaa
open Go Go.Proofs
open Go.RowKit
set_option linter.unusedVariables false
set_option linter.unusedSimpArgs false

/-- What Apply returns: the text, or nothing and the error. -/
def applyX (l : List UInt8) (es : List Ed) : List UInt8 := if validL l.length es = 0 then applyL l 0 es else []
theorem applyX_ok {l : List UInt8} {es : List Ed} (h : validL l.length es = 0) : applyX l es = applyL l 0 es := by unfold applyX; rw [if_pos h]
theorem applyX_bad {l : List UInt8} {es : List Ed} (h : validL l.length es ≠ 0) : applyX l es = [] := by unfold applyX; rw [if_neg h]
theorem valid_snd {n : Nat} {es : List Ed} (h : validL n es = 0) : Snd n 0 es := by
  unfold validL at h
  split at h
  · omega
  · exact snd_of h (Nat.zero_le _)
theorem valid_of {n : Nat} {es : List Ed} (h : Snd n 0 es) (hl : es.length ≤ 64) : validL n es = 0 := by
  unfold validL
  rw [if_neg (by omega)]
  exact of_snd h
theorem strB_nil : strB [] = ⟨#[]⟩ := rfl

theorem Apply_any (s : ByteArray) (a : Option Addr) (c : Nat) (es : List Ed) (w : World) (hs : s.size ≤ 1000000000) (hx : EdsAt w a c es) (hl : (applyX s.data.toList es).length ≤ 1000000000) :
    Calls Try.prog 103 #[.string s, .slice a es.length c] w fun e w' => e = .returned (.tuple #[.string (strB (applyX s.data.toList es)), .int .i64 (validL s.size es)]) ∧ Below w.heap.size w w' := by
  have K := Lib.hid (edvalid_any s a c es w (by omega) hx)
  by_cases hv : validL s.size es = 0
  · have hv' : validL s.data.toList.length es = 0 := hv
    rw [applyX_ok hv'] at hl ⊢
    have K2 := Lib.hid fun w' (hb : Below w.heap.size w w') => apply_any s a c es w' hs (hx.below hb) (valid_snd hv) hl
    rw [hv] at K ⊢
    clear hv hv' hl
    generalize applyL s.data.toList 0 es = R at *
    go_enter Try.func103, Try.ntmps103
    go_wp2_with fail
    refine K.out.mono ?_
    rintro e w1 ⟨rfl, hb1⟩
    go_wp2_with fail
    refine (K2.out w1 hb1).mono ?_
    rintro e w2 ⟨rfl, hb2⟩
    go_wp2
    go_ret2
    exact ⟨rfl, Below.step hb1 hb2⟩
  · have hv' : validL s.data.toList.length es ≠ 0 := hv
    rw [applyX_bad hv', strB_nil]
    clear hv'
    generalize validL s.size es = v at *
    have hne : (v != 0) = true := by simpa using hv
    clear hv hl
    go_enter Try.func103, Try.ntmps103
    go_wp2_with fail
    refine K.out.mono ?_
    rintro e w1 ⟨rfl, hb1⟩
    go_wp2
    go_ret2
    exact ⟨rfl, hb1⟩

set_option maxRecDepth 100000 in
set_option maxHeartbeats 2000000 in
theorem erv_any (s : ByteArray) (a : Option Addr) (c : Nat) (es : List Ed) (w : World) (hs : s.size ≤ 9223372036854775807) (hx : EdsAt w a c es) :
    Calls Try.prog 84 #[.string s, .slice a es.length c] w fun e w' => e = .returned (.int .i64 (validL s.size es)) ∧ Below w.heap.size w w' := by
  have hm := hx.max
  have hcm := hx.2.2.1
  have hle := hx.le
  by_cases h64 : 64 < es.length
  · have hv : validL s.size es = 4 := by unfold validL; rw [if_pos h64]
    have HV := Lib.hid hv
    clear hv
    go_enter Try.func84, Try.ntmps84
    go_wp2
    go_ret
    exact ⟨ret_int HV.out.symm, Below.refl _ _⟩
  · have hv : validL s.size es = soundL s.size 0 es := by unfold validL; rw [if_neg h64]
    rw [hv]
    clear hv
    generalize hR : soundL s.size 0 es = R
    have HR := Lib.hid hR
    clear hR
    go_enter Try.func84, Try.ntmps84
    go_wp2
    go_loopw [5] (fun iv wr => ∃ (k : Nat) (last : Int), k ≤ es.length ∧ iv = .int .i64 k ∧ Hid ((k = 0 → last = 0) ∧ (∀ j x, k = j + 1 → es[j]? = some x → x.t = last)) ∧ Hid (soundL s.size last (es.drop k) = R) ∧ Below w.heap.size w wr) (fun iv _ => es.length - (intOf iv).toNat)
    case atStart => exact ⟨0, 0, by omega, rfl, ⟨fun _ => rfl, fun j x h => by omega⟩, HR.out, Below.refl _ _⟩
    case round =>
      obtain ⟨k, last, hk, rfl, hlast, hS, hB⟩ := hrel
      by_cases hlt : k < es.length
      · obtain ⟨b, off, rfl⟩ := hx.addr (by omega)
        obtain ⟨e, he⟩ : ∃ e, es[k]? = some e := ⟨es[k], List.getElem?_eq_getElem hlt⟩
        obtain ⟨f0, f1, f2⟩ := (hx.below hB).cells he
        have hd : es.drop k = e :: es.drop (k + 1) := by
          have he' := he
          rw [List.getElem?_eq_getElem hlt, Option.some.injEq] at he'
          rw [List.drop_eq_getElem_cons hlt, he']
        have hS' := hS.out
        rw [hd] at hS'
        unfold soundL at hS'
        have HS := Lib.hid hS'
        have HE := Lib.hid he
        clear hS hS' hd he
        by_cases c1 : e.f < 0 ∨ e.t < e.f ∨ s.size < e.t
        · have hr : R = 5 := by rw [← HS.out, if_pos c1]
          subst hr
          have hc : decide (e.f < 0) = true ∨ decide (e.f < 0) = false ∧ decide (e.t < e.f) = true ∨ decide (e.f < 0) = false ∧ decide (e.t < e.f) = false ∧ decide ((s.size : Int) < e.t) = true := by
            simp only [decide_eq_true_eq, decide_eq_false_iff_not]; omega
          clear c1 HS
          rcases hc with d1 | ⟨d1, d2⟩ | ⟨d1, d2, d3⟩
          all_goals
            go_wp2
            go_quiet (fail)
            go_wp2
            go_ret
            exact ⟨rfl, hB.trans (Below.drewN _)⟩
        · have d1 : decide (e.f < 0) = false := by simp; omega
          have d2 : decide (e.t < e.f) = false := by simp; omega
          have d3 : decide ((s.size : Int) < e.t) = false := by simp; omega
          have hS2 := HS.out
          rw [if_neg c1] at hS2
          clear HS
          by_cases hk0 : k = 0
          · subst hk0
            have hl0 := hlast.out.1 rfl
            subst hl0
            rw [if_neg (by omega)] at hS2
            have HS := Lib.hid hS2
            clear c1 hS2
            have hz : off + 0 * 3 = off := by omega
            rw [hz] at f0 f1 f2
            go_wp2
            go_quiet (fail)
            go_wp2
            go_quiet (fail)
            go_wp2
            go_roundw
            case rel => exact ⟨1, e.t, by omega, rfl, ⟨fun h => by omega, fun j x hj hx => by
              obtain rfl : j = 0 := by omega
              rw [HE.out, Option.some.injEq] at hx
              rw [hx]⟩, HS.out, by first | exact (hB.trans (Below.drewN _)).trans (Below.drewN _) | exact hB.trans (Below.drewN _)⟩
            case measure => simp [intOf]; omega
          · obtain ⟨j, rfl⟩ : ∃ j, k = j + 1 := ⟨k - 1, by omega⟩
            obtain ⟨x, hxj⟩ : ∃ x, es[j]? = some x := ⟨es[j], List.getElem?_eq_getElem (by omega)⟩
            obtain ⟨g0, g1, g2⟩ := (hx.below hB).cells hxj
            have hlx : x.t = last := hlast.out.2 j x rfl hxj
            subst hlx
            generalize hkk : j + 1 = k at *
            have i1 : ((k : Int) - 1) = (j : Int) := by omega
            have i2 : IntKind.i64.wrap (j : Int) = (j : Int) := IntWalk.i64_in _ (by omega)
            have i3 : decide (0 < (k : Int)) = true := by simp; omega
            have i3' : decide (0 < k) = true := by simp; omega
            have HKK := Lib.hid hkk
            have HJ : j < es.length := by omega
            clear hkk hxj hlast c1 hk0
            by_cases c4 : e.f < x.t
            · rw [if_pos c4] at hS2
              subst hS2
              have d4 : decide (e.f < x.t) = true := by simpa using c4
              clear c4
              go_wp2
              go_quiet (fail)
              go_wp2
              go_quiet (fail)
              go_wp2
              go_ret
              exact ⟨rfl, by first | exact (hB.trans (Below.drewN _)).trans (Below.drewN _) | exact hB.trans (Below.drewN _)⟩
            · rw [if_neg c4] at hS2
              have HS := Lib.hid hS2
              have d4 : decide (e.f < x.t) = false := by simpa using c4
              clear c4 hS2
              go_wp2
              go_quiet (fail)
              go_wp2
              go_quiet (fail)
              go_wp2
              go_roundw
              case rel => exact ⟨k + 1, e.t, by omega, by go_num, ⟨fun h => by omega, fun j x hj hx => by
                obtain rfl : j = k := by omega
                rw [HE.out, Option.some.injEq] at hx
                rw [hx]⟩, HS.out, by first | exact (hB.trans (Below.drewN _)).trans (Below.drewN _) | exact hB.trans (Below.drewN _)⟩
              case measure => simp [intOf]; omega
      · have hS' := hS.out
        rw [List.drop_of_length_le (by omega)] at hS'
        have hr : R = 0 := hS'.symm
        subst hr
        clear hS hS'
        go_wp2
        go_ret
        exact ⟨rfl, hB⟩
end Go.Proofs.Ytmonpnikdheokaa
