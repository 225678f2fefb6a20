/-
  The law's helpers of package schemalenslaw37: of, versions, has.
-/
import Derived.Test.YtaonhmdifinadaaSesB
namespace Go.Proofs.Ytaonhmdifinadaa
open Go Go.Proofs
open Go.RowKit
set_option linter.unusedVariables false
set_option linter.unusedSimpArgs false

theorem elemV : ElemT Try.prog 35 34 (.agg #[.string ⟨#[]⟩, .int .i64 0]) 2 24 := ⟨Try.underlying35, info_parts (by kernel_rfl), rfl, by decide⟩

set_option maxRecDepth 100000 in
theorem of_any (r : Rq) (w : World) :
    Calls Try.prog 27 #[.agg #[.int .i64 r.id, .int .i64 r.kind, .string r.doc, .int .i64 r.ver, .int .i64 r.off, .string r.txt]] w fun e w' =>
      e = .returned (.agg #[.int .i64 r.id, .int .i64 r.kind, .string r.doc, .int .i64 r.ver, .int .i64 r.off, .string r.txt]) ∧ Below w.heap.size w w' := by
  obtain ⟨ri, rk, rd, rv, ro, rt⟩ := r
  go_enter Try.func27, Try.ntmps27
  go_wp2
  have hz := heap_alloc_new (w.alloc (.cells #[.int .i64 ri, .int .i64 rk, .string rd, .int .i64 rv, .int .i64 ro, .string rt] 60)) (.cells #[.int .i64 ri, .int .i64 rk, .string rd, .int .i64 rv, .int .i64 ro, .string rt] 44)
  rw [World.size_alloc] at hz
  exact bodyPost_ret (v := .agg #[.int .i64 ri, .int .i64 rk, .string rd, .int .i64 rv, .int .i64 ro, .string rt]) (results_cell_row rfl _ _ _ 44 _ _ _ rfl hz rfl rfl rfl) rfl ⟨rfl, ((Below.refl _ w).alloc (Nat.le_refl _) _).alloc (by simp) _⟩

/-- Whether a document has a version in a list. -/
def hasV (l : List Vn) (d : ByteArray) (n : Int) : Bool := !stale l ⟨0, 0, d, n, 0, ByteArray.empty⟩
theorem hasV_eq (l : List Vn) (r : Rq) : hasV l r.doc r.ver = !stale l r := by
  unfold hasV stale
  simp only
theorem hasV_cons (v : Vn) (l : List Vn) (d : ByteArray) (n : Int) : hasV (v :: l) d n = if v.doc = d then v.ver == n else hasV l d n := by
  unfold hasV
  rw [stale_cons]
  by_cases h : v.doc = d <;> simp [h, bne]

theorem has_any (a : Option Addr) (c : Nat) (l : List Vn) (d : ByteArray) (n : Int) (w : World) (hx : RecAt vnC 2 w a c l) :
    Calls Try.prog 29 #[.slice a l.length c, .string d, .int .i64 n] w fun e w' => e = .returned (.bool (hasV l d n)) ∧ w = w' := by
  have hm := hx.max
  obtain ⟨R, hR⟩ : ∃ R, hasV l d n = R := ⟨_, rfl⟩
  rw [hR]
  have HR := Lib.hid hR
  clear hR
  go_enter Try.func29, Try.ntmps29
  go_wp2_with fail
  go_loop [7] (fun iv => ∃ k : Nat, k ≤ l.length ∧ iv = .int .i64 k ∧ Hid (hasV (l.drop k) d n = R)) (fun iv => l.length - (intOf iv).toNat)
  case atStart => exact ⟨0, by omega, rfl, by unfold Hid; rw [List.drop_zero]; exact HR.out⟩
  case round =>
    obtain ⟨k, hk, rfl, hA⟩ := hrel
    by_cases hlt : k < l.length
    · obtain ⟨b, off, rfl⟩ := RecAt.addr vnZ (by decide) hx (by omega)
      obtain ⟨e, he⟩ : ∃ e, l[k]? = some e := ⟨l[k], List.getElem?_eq_getElem hlt⟩
      obtain ⟨f0, f1⟩ := Vns.cells hx he
      have hA' := hA.out
      rw [List.drop_eq_getElem_cons hlt, hasV_cons] at hA'
      rw [List.getElem?_eq_getElem hlt, Option.some.injEq] at he
      rw [he] at hA'
      have ht := toList_dec e.doc d
      by_cases hd : e.doc = d
      · rw [if_pos hd] at hA'
        rw [decide_eq_true hd] at ht
        have HA := Lib.hid hA'
        clear hA' he hd
        go_wp2_with fail
        go_ret
        exact ⟨ret_bool HA.out, rfl⟩
      · rw [if_neg hd] at hA'
        rw [decide_eq_false hd] at ht
        have HA := Lib.hid hA'
        clear hA' he hd
        go_wp2_with fail
        go_round
        case rel => exact ⟨k + 1, by omega, by go_num, HA.out⟩
        case measure => simp [intOf]; omega
    · obtain rfl : k = l.length := by omega
      have hA' := hA.out
      rw [List.drop_of_length_le (Nat.le_refl _)] at hA'
      have HA : Hid (false = R) := hA'
      clear hA'
      go_wp2_with fail
      go_ret
      exact ⟨ret_bool HA.out, rfl⟩

set_option maxRecDepth 100000 in
set_option maxHeartbeats 1000000 in
theorem versions_any (a : Option Addr) (c : Nat) (l : List Vn) (w : World) (hx : RecAt vnC 2 w a c l) (hn : l.length ≤ 1000000) :
    Calls Try.prog 26 #[.slice a l.length c] w fun e w' => ∃ v, e = .returned v ∧ OwnRec vnC 2 34 w' w.heap.size v l ∧ Below w.heap.size w w' := by
  have hm := hx.max
  have HX := Lib.hid hx
  clear hx
  go_enter Try.func26, Try.ntmps26
  go_wp2_with fail
  go_loopw [3, 4] (fun ov iv wr => ∃ k : Nat, k ≤ l.length ∧ iv = .int .i64 k ∧ Hid (OwnRec vnC 2 34 wr w.heap.size ov (l.take k)) ∧ Below w.heap.size w wr) (fun _ iv _ => l.length - (intOf iv).toNat)
  case atStart => exact ⟨0, by omega, rfl, OwnRec.nil _ _, Below.refl _ _⟩
  case round =>
    obtain ⟨k, hk, rfl, hO, hB⟩ := hrel
    by_cases hlt : k < l.length
    · obtain ⟨b, off, rfl⟩ := RecAt.addr vnZ (by decide) HX.out (by omega)
      obtain ⟨e, he⟩ : ∃ e, l[k]? = some e := ⟨l[k], List.getElem?_eq_getElem hlt⟩
      obtain ⟨f0, f1⟩ := Vns.cells (RecAt.below HX.out hB) he
      have htk : l.take (k + 1) = l.take k ++ [e] := by
        rw [List.getElem?_eq_getElem hlt, Option.some.injEq] at he
        rw [List.take_succ_eq_append_getElem hlt, he]
      have hol := hO.out
      unfold OwnRec at hol
      rw [List.length_take, Nat.min_eq_left hk] at hol
      have HOL := Lib.hid hol
      have HTK := Lib.hid htk
      have hBs := hB.size
      clear he htk hol
      obtain ⟨ed, ev⟩ := e
      simp only at f0 f1
      have f0d : wr.drew.cell? ⟨b, off + k * 2, none⟩ = some (.string ed) := f0
      have f1d : wr.drew.cell? ⟨b, off + k * 2 + 1, none⟩ = some (.int .i64 ev) := f1
      have hbs : w.heap.size ≤ wr.drew.heap.size := hBs
      go_wp2_with fail
      go_region_law (refine step_append_src (by rfl) (.tmp 11) (.tmp 23) 35 (by rfl) elemV w.heap.size _ k _ (by rfl) (ownsRow_below HOL.out ((Below.drew (Below.refl _ wr)).alloc (Nat.le_refl _) _)) (some ⟨wr.drew.heap.size, 0, none⟩) 1 1 (vnC ⟨ed, ev⟩) (by rfl) (row_new (cs := vnC ⟨ed, ev⟩) (by rfl) (by omega)) (vnO _) (by omega) (by omega) (by simp; omega) ?_; intro v' w5 hrow5 hb5 hg5)
      all_goals
        clear f0 f1 f0d f1d hg5
        go_wp2_with fail
        go_roundw
        case rel =>
          refine ⟨k + 1, by omega, by go_num, ?_, (hB.trans (((Below.drew (Below.refl _ wr)).mono hBs).alloc hbs _)).trans hb5⟩
          unfold Hid
          rw [HTK.out]
          refine OwnRec.snoc ?_
          rw [List.length_take, Nat.min_eq_left hk]
          exact hrow5
        case measure => simp [intOf]; omega
    · obtain rfl : k = l.length := by omega
      go_wp2_with fail
      go_ret
      have hO' := hO.out
      rw [List.take_length] at hO'
      exact ⟨_, rfl, hO', hB⟩
end Go.Proofs.Ytaonhmdifinadaa
