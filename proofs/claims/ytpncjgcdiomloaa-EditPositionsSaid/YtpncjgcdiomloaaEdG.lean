/-
  Contract: the reference's Map.
-/
import Derived.Test.YtpncjgcdiomloaaEdF
namespace Go.Proofs.Ytpncjgcdiomloaa
open Go Go.Proofs
open Go.RowKit
set_option linter.unusedVariables false
set_option linter.unusedSimpArgs false

set_option maxRecDepth 100000 in
set_option maxHeartbeats 4000000 in
theorem rMap_any (a : Option Addr) (c : Nat) (es : List Ed) (off : Int) (after : Bool) (w : World) (hx : EdsAt w a c es) (ho : -4398046511104 ≤ off ∧ off ≤ 4398046511104) (hl : ∀ e ∈ es, EdM e) :
    Calls Try.prog 25 #[.slice a es.length c, .int .i64 off, .bool after] w fun e w' => e = .returned (.int .i64 (mapX es off after)) ∧ Below w.heap.size w w' := by
  have K := Lib.hid (rsound_any a c es w hx)
  rw [rsoundX_eq (fun e he => by have := hl e he; unfold EdM at this; unfold topI; omega)] at K
  have hm := hx.max
  have hle := hx.le
  have hcm := hx.2.2.1
  by_cases hv : validL topI es = 0
  · have h64 : es.length ≤ 64 := by
      unfold validL at hv
      split at hv
      · omega
      · omega
    have hso : soundL topI 0 es = 0 := by
      unfold validL at hv
      rwa [if_neg (by omega)] at hv
    have hR : mapX es off after = mapR off after 0 0 es := by
      have := map_eq (off := off) (after := after) (d := 0) (more := 0) (from_of hso) (.inl rfl)
      unfold mapX; rw [if_pos hv, ← this]
      congr 1
      split <;> omega
    have hdt : decide (validL topI es = 0) = true := by simpa using hv
    rw [hdt] at K
    generalize mapX es off after = R at *
    have HR := Lib.hid hR.symm
    have HL := Lib.hid hl
    obtain ⟨ho1, ho2⟩ := ho
    clear hv hR hl hdt hso
    go_enter Try.func25, Try.ntmps25
    go_wp2_with fail
    refine K.out.mono ?_
    rintro e w1 ⟨rfl, hb1⟩
    go_wp2_with fail
    go_loopw [7, 8, 9] (fun dv mv iv wr => ∃ (k : Nat) (d more : Int), k ≤ es.length ∧ iv = .int .i64 k ∧ dv = .int .i64 d ∧ mv = .int .i64 more ∧ -20000000000000 * (k : Int) ≤ d ∧ d ≤ 20000000000000 * (k : Int) ∧ 0 ≤ more ∧ more ≤ 1000000 * (k : Int) ∧ Hid (mapR off after d more (es.drop k) = R) ∧ Below w.heap.size w wr) (fun _ _ iv _ => es.length - (intOf iv).toNat)
    case atStart => exact ⟨0, 0, 0, by omega, rfl, rfl, rfl, by omega, by omega, by omega, by omega, HR.out, hb1⟩
    case round =>
      obtain ⟨k, d, more, hk, rfl, rfl, rfl, hb1, hb2, hm1, hm2, hS, hB⟩ := hrel
      by_cases hlt : k < es.length
      · obtain ⟨b, ofs, rfl⟩ := hx.addr (by omega)
        obtain ⟨e, he⟩ : ∃ e, es[k]? = some e := ⟨es[k], List.getElem?_eq_getElem hlt⟩
        obtain ⟨f0, f1, f2⟩ := (hx.below hB).cells he
        obtain ⟨b1, b2, b3, b4, b5⟩ := HL.out e (List.mem_of_getElem? he)
        have hd : es.drop k = e :: es.drop (k + 1) := by
          rw [List.getElem?_eq_getElem hlt, Option.some.injEq] at he
          rw [List.drop_eq_getElem_cons hlt, he]
        have hS' := hS.out
        rw [hd] at hS'
        unfold mapR at hS'
        obtain ⟨ef, et, ex⟩ := e
        simp only at f0 f1 f2 b1 b2 b3 b4 b5 hS'
        have HS := Lib.hid hS'
        have hsz := strB_size ex
        have HSZ := Lib.hid hsz
        have b6 : (strB ex).size ≤ 1000000 := by omega
        have hBn : Below w.heap.size w (wr.alloc (.cells #[.int .i64 ef, .int .i64 et, .string (strB ex)] 39)) := hB.trans ((Below.refl _ wr).alloc hB.size _)
        have HBN := Lib.hid hBn
        have hB := hB.size
        clear hS hS' hd he hsz hBn
        have hcs : (decide (et < off) = true ∨ decide (et < off) = false ∧ (et == off) = true ∧ decide (ef < et) = true) ∨ (decide (et < off) = false ∧ (et == off) = true ∧ decide (ef < et) = false ∧ decide (ef < off) = false) ∨ (decide (et < off) = false ∧ (et == off) = false ∧ decide (ef < off) = true) ∨ (decide (et < off) = false ∧ (et == off) = false ∧ decide (ef < off) = false) := by
          simp only [decide_eq_true_eq, decide_eq_false_iff_not, beq_iff_eq, beq_eq_false_iff_ne]; omega
        rcases hcs with hc | ⟨d1, d2, d3, d4⟩ | ⟨d1, d2, d3⟩ | ⟨d1, d2, d3⟩
        · have hh : et < off ∨ (et = off ∧ ef < et) := by
            rcases hc with d1 | ⟨_, d2, d3⟩
            · exact .inl (by simpa using d1)
            · exact .inr ⟨by simpa using d2, by simpa using d3⟩
          have hS2 := HS.out
          rw [if_pos hh] at hS2
          have hgr : growE ⟨ef, et, ex⟩ = ((strB ex).size : Int) - (et - ef) := by rw [HSZ.out]; rfl
          rw [hgr, show d + (((strB ex).size : Int) - (et - ef)) = d + (strB ex).size - (et - ef) by omega] at hS2
          have HS2 := Lib.hid hS2
          clear HS hh hS2 hgr
          rcases hc with d1 | ⟨d1, d2, d3⟩
          all_goals
            go_wp2
            go_roundw
            case rel => exact ⟨k + 1, d + (strB ex).size - (et - ef), more, by omega, by go_num, rfl, rfl, by omega, by omega, by omega, by omega, HS2.out, HBN.out⟩
            case measure => simp [intOf]; omega
        · have hS2 := HS.out
          simp only [decide_eq_true_eq, decide_eq_false_iff_not, beq_iff_eq, beq_eq_false_iff_ne] at d1 d2 d3 d4
          rw [if_neg (by omega), if_neg (by omega), if_pos d2] at hS2
          have e1 : decide (et < off) = false := by simp; omega
          have e2 : (et == off) = true := by simp; omega
          have e3 : decide (ef < et) = false := by simp; omega
          have e4 : decide (ef < off) = false := by simp; omega
          have HS2 := Lib.hid hS2
          clear HS hS2 d1 d2 d3 d4
          go_wp2
          go_roundw
          case rel => exact ⟨k + 1, d, more + (strB ex).size, by omega, by go_num, rfl, rfl, by omega, by omega, by omega, by omega, Lib.hid (by rw [HSZ.out]; exact HS2.out), HBN.out⟩
          case measure => simp [intOf]; omega
        · have hS2 := HS.out
          simp only [decide_eq_true_eq, decide_eq_false_iff_not, beq_iff_eq, beq_eq_false_iff_ne] at d1 d2 d3
          rw [if_neg (by omega), if_pos d3] at hS2
          have e1 : decide (et < off) = false := by simp; omega
          have e2 : (et == off) = false := by simp; omega
          have e4 : decide (ef < off) = true := by simp; omega
          have HS2 := Lib.hid hS2
          clear HS hS2 d1 d2 d3
          cases after
          · go_wp2
            go_ret
            exact ⟨ret_int (by rw [← HS2.out]; simp), HBN.out⟩
          · go_wp2
            go_ret
            exact ⟨ret_int (by rw [← HS2.out, HSZ.out]; simp), HBN.out⟩
        · have hS2 := HS.out
          simp only [decide_eq_true_eq, decide_eq_false_iff_not, beq_iff_eq, beq_eq_false_iff_ne] at d1 d2 d3
          rw [if_neg (by omega), if_neg d3, if_neg d2] at hS2
          have e1 : decide (et < off) = false := by simp; omega
          have e2 : (et == off) = false := by simp; omega
          have e4 : decide (ef < off) = false := by simp; omega
          have HS2 := Lib.hid hS2
          clear HS hS2 d1 d2 d3
          go_wp2
          go_roundw
          case rel => exact ⟨k + 1, d, more, by omega, by go_num, rfl, rfl, by omega, by omega, by omega, by omega, HS2.out, HBN.out⟩
          case measure => simp [intOf]; omega
      · have hS' := hS.out
        rw [List.drop_of_length_le (by omega)] at hS'
        simp only [mapR] at hS'
        have HS := Lib.hid hS'
        clear hS HR hS'
        cases after
        · go_wp2
          go_ret
          exact ⟨ret_int (by rw [← HS.out]; simp), hB⟩
        · go_wp2
          go_ret
          exact ⟨ret_int (by rw [← HS.out]; simp), hB⟩
  · have hR : mapX es off after = off := by unfold mapX; rw [if_neg hv]
    rw [hR]
    have hdt : decide (validL topI es = 0) = false := by simpa using hv
    rw [hdt] at K
    clear hv hl hR hdt
    go_enter Try.func25, Try.ntmps25
    go_wp2_with fail
    refine K.out.mono ?_
    rintro e w1 ⟨rfl, hb1⟩
    go_wp2
    go_ret
    exact ⟨rfl, hb1⟩
end Go.Proofs.Ytpncjgcdiomloaa
