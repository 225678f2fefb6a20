/-
  Contracts: Map, and the reference's sound and Map.
-/
import Derived.Test.YtpncjgcdiomloaaEdE
namespace Go.Proofs.Ytpncjgcdiomloaa
open Go Go.Proofs
open Go.RowKit
set_option linter.unusedVariables false
set_option linter.unusedSimpArgs false

def topI : Int := 9223372036854775807
def mapX (es : List Ed) (off : Int) (after : Bool) : Int := if validL topI es = 0 then mapL off after off es else off
def rsoundL : Int → List Ed → Bool
  | _, [] => true
  | last, e :: es => if e.f < last ∨ e.t < e.f then false else rsoundL e.t es
theorem rsound_eq {es : List Ed} : ∀ {last : Int}, 0 ≤ last → (∀ e ∈ es, e.t ≤ topI) → rsoundL last es = decide (soundL topI last es = 0) := by
  induction es with
  | nil => intro last _ _; rfl
  | cons e es ih =>
    intro last hl hb
    have hb1 := hb e (by simp)
    unfold rsoundL soundL
    by_cases c : e.f < last ∨ e.t < e.f
    · rw [if_pos c]
      by_cases c1 : e.f < 0 ∨ e.t < e.f ∨ topI < e.t
      · rw [if_pos c1]; rfl
      · rw [if_neg c1, if_pos (by omega)]; rfl
    · rw [if_neg c, if_neg (by omega), if_neg (by omega)]
      exact ih (by omega) fun x hx => hb x (List.mem_cons_of_mem _ hx)
def rsoundX (es : List Ed) : Bool := rsoundL 0 es && decide (es.length ≤ 64)
theorem rsoundX_eq {es : List Ed} (hb : ∀ e ∈ es, e.t ≤ topI) : rsoundX es = decide (validL topI es = 0) := by
  unfold rsoundX validL
  rw [rsound_eq (Int.le_refl _) hb]
  by_cases h : 64 < es.length
  · rw [if_pos h]
    have : decide (es.length ≤ 64) = false := by simp; omega
    rw [this]
    simp
  · rw [if_neg h]
    have : decide (es.length ≤ 64) = true := by simp; omega
    rw [this]
    simp
/-- Numbers below 2^42, texts below a million. -/
def EdM (e : Ed) : Prop := -4398046511104 ≤ e.f ∧ e.f ≤ 4398046511104 ∧ -4398046511104 ≤ e.t ∧ e.t ≤ 4398046511104 ∧ e.x.length ≤ 1000000

set_option maxRecDepth 100000 in
set_option maxHeartbeats 4000000 in
theorem rsound_any (a : Option Addr) (c : Nat) (es : List Ed) (w : World) (hx : EdsAt w a c es) :
    Calls Try.prog 44 #[.slice a es.length c] w fun e w' => e = .returned (.bool (rsoundX es)) ∧ Below w.heap.size w w' := by
  have hm := hx.max
  have hle := hx.le
  have hcm := hx.2.2.1
  generalize hR : rsoundX es = R
  have HR := Lib.hid hR
  clear hR
  go_enter Try.func44, Try.ntmps44
  go_wp2
  go_loopw [3, 4] (fun lv iv wr => ∃ (k : Nat) (last : Int), k ≤ es.length ∧ iv = .int .i64 k ∧ lv = .int .i64 last ∧ Hid ((rsoundL last (es.drop k) && decide (es.length ≤ 64)) = R) ∧ Below w.heap.size w wr) (fun _ iv _ => es.length - (intOf iv).toNat)
  case atStart => exact ⟨0, 0, by omega, rfl, rfl, HR.out, Below.refl _ _⟩
  case round =>
    obtain ⟨k, last, hk, rfl, rfl, hS, hB⟩ := hrel
    by_cases hlt : k < es.length
    · obtain ⟨b, off, rfl⟩ := hx.addr (by omega)
      obtain ⟨e, he⟩ : ∃ e, es[k]? = some e := ⟨es[k], List.getElem?_eq_getElem hlt⟩
      obtain ⟨f0, f1, f2⟩ := (hx.below hB).cells he
      have hd : es.drop k = e :: es.drop (k + 1) := by
        rw [List.getElem?_eq_getElem hlt, Option.some.injEq] at he
        rw [List.drop_eq_getElem_cons hlt, he]
      have hS' := hS.out
      rw [hd] at hS'
      unfold rsoundL at hS'
      have HS := Lib.hid hS'
      clear hS hS' hd he
      by_cases c1 : e.f < last ∨ e.t < e.f
      · have hr : R = false := by rw [← HS.out, if_pos c1]; rfl
        subst hr
        have hc : decide (e.f < last) = true ∨ decide (e.f < last) = false ∧ decide (e.t < e.f) = true := by
          simp only [decide_eq_true_eq, decide_eq_false_iff_not]; omega
        clear c1 HS
        rcases hc with d1 | ⟨d1, d2⟩
        all_goals
          go_wp2
          go_quiet (fail)
          go_wp2
          go_ret
          exact ⟨rfl, hB.trans (Below.drewN _)⟩
      · have d1 : decide (e.f < last) = false := by simp; omega
        have d2 : decide (e.t < e.f) = false := by simp; omega
        have hS2 := HS.out
        rw [if_neg c1] at hS2
        have HS2 := Lib.hid hS2
        clear HS c1 hS2
        go_wp2
        go_quiet (fail)
        go_wp2
        go_roundw
        case rel => exact ⟨k + 1, e.t, by omega, by go_num, rfl, HS2.out, hB.trans (Below.drewN _)⟩
        case measure => simp [intOf]; omega
    · have hS' := hS.out
      rw [List.drop_of_length_le (by omega)] at hS'
      have hr : decide (es.length ≤ 64) = R := by rw [← hS']; rfl
      have HR2 := Lib.hid hr
      clear hS hS' hr
      go_wp2
      go_ret
      exact ⟨ret_bool (by rw [← HR2.out, Bool.eq_iff_iff]; simp; omega), hB⟩

set_option maxRecDepth 100000 in
set_option maxHeartbeats 4000000 in
theorem Map_any (a : Option Addr) (c : Nat) (es : List Ed) (off : Int) (after : Bool) (w : World) (hx : EdsAt w a c es) (ho : -4398046511104 ≤ off ∧ off ≤ 4398046511104) (hl : ∀ e ∈ es, EdM e) :
    Calls Try.prog 24 #[.slice a es.length c, .int .i64 off, .bool after] w fun e w' => e = .returned (.int .i64 (mapX es off after)) ∧ Below w.heap.size w w' := by
  have K := Lib.hid (sound_any a c es topI w hx)
  unfold topI at K
  have hm := hx.max
  by_cases hv : validL topI es = 0
  · have h64 : es.length ≤ 64 := by
      unfold validL at hv
      split at hv
      · omega
      · omega
    have hR : mapX es off after = mapL off after off es := by unfold mapX; rw [if_pos hv]
    unfold topI at hv
    rw [hv] at K
    generalize mapX es off after = R at *
    have HR := Lib.hid hR.symm
    have HL := Lib.hid hl
    obtain ⟨ho1, ho2⟩ := ho
    clear hv hR hl
    go_enter Try.func24, Try.ntmps24
    go_wp2_with fail
    refine K.out.mono ?_
    rintro e w1 ⟨rfl, hb1⟩
    go_wp2_with fail
    go_loopw [7, 17] (fun ov iv wr => ∃ (k : Nat) (out : Int), k ≤ es.length ∧ iv = .int .i64 k ∧ ov = .int .i64 out ∧ -20000000000000 * ((k : Int) + 1) ≤ out ∧ out ≤ 20000000000000 * ((k : Int) + 1) ∧ Hid (mapL off after out (es.drop k) = R) ∧ Below w.heap.size w wr) (fun _ iv _ => es.length - (intOf iv).toNat)
    case atStart => exact ⟨0, off, by omega, rfl, rfl, by omega, by omega, HR.out, hb1⟩
    case round =>
      obtain ⟨k, out, hk, rfl, rfl, hb1, hb2, hS, hB⟩ := hrel
      by_cases hlt : k < es.length
      · obtain ⟨b, ofs, rfl⟩ := hx.addr (by omega)
        obtain ⟨e, he⟩ : ∃ e, es[k]? = some e := ⟨es[k], List.getElem?_eq_getElem hlt⟩
        obtain ⟨f0, f1, f2⟩ := (hx.below hB).cells he
        obtain ⟨b1, b2, b3, b4, b5⟩ := HL.out e (List.mem_of_getElem? he)
        have hd : es.drop k = e :: es.drop (k + 1) := by
          rw [List.getElem?_eq_getElem hlt, Option.some.injEq] at he
          rw [List.drop_eq_getElem_cons hlt, he]
        have hS' := hS.out
        rw [hd] at hS'
        unfold mapL at hS'
        obtain ⟨ef, et, ex⟩ := e
        simp only at f0 f1 f2 b1 b2 b3 b4 b5 hS'
        have HS := Lib.hid hS'
        have hsz := strB_size ex
        have HSZ := Lib.hid hsz
        have b6 : (strB ex).size ≤ 1000000 := by omega
        have hBn : Below w.heap.size w (wr.alloc (.cells #[.int .i64 ef, .int .i64 et, .string (strB ex)] 39)) := hB.trans ((Below.refl _ wr).alloc hB.size _)
        have HBN := Lib.hid hBn
        have hB := hB.size
        clear hS hS' hd he hsz hBn
        have hcs : (decide (et < off) = true ∨ decide (et < off) = false ∧ (et == off) = true ∧ decide (ef < et) = true) ∨ (decide (et < off) = false ∧ (et == off) = true ∧ decide (ef < et) = false ∧ decide (ef < off) = false) ∨ (decide (et < off) = false ∧ (et == off) = false ∧ decide (ef < off) = true) ∨ (decide (et < off) = false ∧ (et == off) = false ∧ decide (ef < off) = false) := by
          simp only [decide_eq_true_eq, decide_eq_false_iff_not, beq_iff_eq, beq_eq_false_iff_ne]; omega
        rcases hcs with hc | ⟨d1, d2, d3, d4⟩ | ⟨d1, d2, d3⟩ | ⟨d1, d2, d3⟩
        · have hh : et < off ∨ (et = off ∧ ef < et) := by
            rcases hc with d1 | ⟨_, d2, d3⟩
            · exact .inl (by simpa using d1)
            · exact .inr ⟨by simpa using d2, by simpa using d3⟩
          have hS2 := HS.out
          rw [if_pos hh] at hS2
          obtain ⟨gr, hgr⟩ : ∃ z, growE ⟨ef, et, ex⟩ = z := ⟨_, rfl⟩
          have hgr' : gr = (ex.length : Int) - (et - ef) := by rw [← hgr]; rfl
          rw [hgr] at hS2
          have HS2 := Lib.hid hS2
          have b7 : -8796093022208 ≤ gr := by omega
          have b8 : gr ≤ 9000000000000 := by omega
          have kg := growth_any ef et ex (wr.alloc (.cells #[.int .i64 ef, .int .i64 et, .string (strB ex)] 39)) (by omega) (by omega) (by omega) (by omega) (by omega)
          rw [hgr] at kg
          have KG := Lib.hid kg
          clear HS hh hS2 hgr hgr' kg
          rcases hc with d1 | ⟨d1, d2, d3⟩
          all_goals
            go_wp2_with fail
            refine KG.out.mono ?_
            rintro e w3 ⟨rfl, hb3⟩
            go_wp2
            go_roundw
            case rel => exact ⟨k + 1, out + gr, by omega, by go_num, rfl, by omega, by omega, HS2.out, HBN.out.trans (hb3.mono (HBN.out.size))⟩
            case measure => simp [intOf]; omega
        · have hS2 := HS.out
          simp only [decide_eq_true_eq, decide_eq_false_iff_not, beq_iff_eq, beq_eq_false_iff_ne] at d1 d2 d3 d4
          rw [if_neg (by omega), if_neg (by omega)] at hS2
          have e1 : decide (et < off) = false := by simp; omega
          have e2 : (et == off) = true := by simp; omega
          have e3 : decide (ef < et) = false := by simp; omega
          have e4 : decide (ef < off) = false := by simp; omega
          cases after
          · rw [if_neg (by simp)] at hS2
            have HS2 := Lib.hid hS2
            clear HS hS2 d1 d2 d3 d4
            go_wp2
            go_roundw
            case rel => exact ⟨k + 1, out, by omega, by go_num, rfl, by omega, by omega, HS2.out, HBN.out⟩
            case measure => simp [intOf]; omega
          · rw [if_pos ⟨d2, rfl⟩] at hS2
            have HS2 := Lib.hid hS2
            clear HS hS2 d1 d2 d3 d4
            go_wp2
            go_roundw
            case rel => exact ⟨k + 1, out + (strB ex).size, by omega, by go_num, rfl, by omega, by omega, Lib.hid (by rw [HSZ.out]; exact HS2.out), HBN.out⟩
            case measure => simp [intOf]; omega
        · have hS2 := HS.out
          simp only [decide_eq_true_eq, decide_eq_false_iff_not, beq_iff_eq, beq_eq_false_iff_ne] at d1 d2 d3
          rw [if_neg (by omega), if_pos d3] at hS2
          have e1 : decide (et < off) = false := by simp; omega
          have e2 : (et == off) = false := by simp; omega
          have e4 : decide (ef < off) = true := by simp; omega
          have HS2 := Lib.hid hS2
          clear HS hS2 d1 d2 d3
          cases after
          · go_wp2
            go_ret
            exact ⟨ret_int (by rw [← HS2.out]; simp), HBN.out⟩
          · go_wp2
            go_ret
            exact ⟨ret_int (by rw [← HS2.out, HSZ.out]; simp), HBN.out⟩
        · have hS2 := HS.out
          simp only [decide_eq_true_eq, decide_eq_false_iff_not, beq_iff_eq, beq_eq_false_iff_ne] at d1 d2 d3
          rw [if_neg (by omega), if_neg d3, if_neg (fun h => d2 h.1)] at hS2
          have e1 : decide (et < off) = false := by simp; omega
          have e2 : (et == off) = false := by simp; omega
          have e4 : decide (ef < off) = false := by simp; omega
          have HS2 := Lib.hid hS2
          clear HS hS2 d1 d2 d3
          go_wp2
          go_roundw
          case rel => exact ⟨k + 1, out, by omega, by go_num, rfl, by omega, by omega, HS2.out, HBN.out⟩
          case measure => simp [intOf]; omega
      · have hS' := hS.out
        rw [List.drop_of_length_le (by omega)] at hS'
        simp only [mapL] at hS'
        subst hS'
        clear hS HR
        go_wp2
        go_ret
        exact ⟨rfl, hB⟩
  · have hR : mapX es off after = off := by unfold mapX; rw [if_neg hv]
    rw [hR]
    unfold topI at hv
    generalize validL 9223372036854775807 es = v at *
    have hne : (v != 0) = true := by simpa using hv
    clear hv hl hR
    go_enter Try.func24, Try.ntmps24
    go_wp2_with fail
    refine K.out.mono ?_
    rintro e w1 ⟨rfl, hb1⟩
    go_wp2
    go_ret
    exact ⟨rfl, hb1⟩
end Go.Proofs.Ytpncjgcdiomloaa
