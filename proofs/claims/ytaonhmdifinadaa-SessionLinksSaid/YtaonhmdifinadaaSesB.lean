/-
  Contracts of package session: valid, the search for a version, stale.
-/
import Derived.Test.YtaonhmdifinadaaSesA
import Derived.Test.YtaonhmdifinadaaRefA
import Derived.IntWalk
import Derived.Shelf.Abstract
namespace Go.Proofs.Ytaonhmdifinadaa
open Go Go.Proofs
open Go.RowKit
set_option linter.unusedVariables false
set_option linter.unusedSimpArgs false

theorem within_any (lo n hi : Int) (w : World) : Calls Try.prog 101 #[.int .i64 lo, .int .i64 n, .int .i64 hi] w fun e w' => e = .returned (.bool (decide (lo ≤ n ∧ n ≤ hi))) ∧ w = w' := by
  go_enter Try.func101, Try.ntmps101
  go_wp2
  all_goals
    go_ret
    exact ⟨ret_bool (by simp; omega), rfl⟩

set_option maxHeartbeats 1000000 in
theorem rvalid_any (r : Rq) (w : World) (hd : r.doc.size ≤ 9223372036854775807) (ht : r.txt.size ≤ 9223372036854775807) :
    Calls Try.prog 67 #[.agg #[.int .i64 r.id, .int .i64 r.kind, .string r.doc, .int .i64 r.ver, .int .i64 r.off, .string r.txt]] w fun e w' => e = .returned (.bool (okR r)) ∧ Below w.heap.size w w' := by
  obtain ⟨x, hx⟩ : ∃ x, okR r = x := ⟨_, rfl⟩
  rw [hx]
  unfold okR at hx
  obtain ⟨id, kind, doc, ver, off, txt⟩ := r
  simp only at hx hd ht
  have HX := Lib.hid hx
  clear hx
  have hb := (Below.refl _ w).alloc (Nat.le_refl _) (.cells #[.int .i64 id, .int .i64 kind, .string doc, .int .i64 ver, .int .i64 off, .string txt] 44)
  go_enter Try.func67, Try.ntmps67
  go_wp2_with (go_at_call 101; refine (within_any _ _ _ _).mono ?_; rintro e w1 ⟨rfl, rfl⟩)
  all_goals
    go_ret
    refine ⟨ret_bool ?_, hb⟩
    rw [← HX.out, Bool.eq_iff_iff]
    simp
    omega

/-! ### slices.IndexFunc -/
theorem findIdx_hit {α : Type} {p : α → Bool} {l : List α} {k : Nat} {x : α} (hk : l[k]? = some x) (h : p x = true) (hb : ∀ (j : Nat) (y : α), j < k → l[j]? = some y → p y = false) : l.findIdx p = k := by
  induction l generalizing k with
  | nil => simp at hk
  | cons a t ih =>
    rw [List.findIdx_cons]
    cases k with
    | zero => simp at hk; subst hk; rw [h]; rfl
    | succ k =>
      rw [hb 0 a (by omega) rfl, cond_false, ih (k := k) (by simpa using hk) fun j y hj hy => hb (j + 1) y (by omega) (by simpa using hy)]
theorem findIdx_miss {α : Type} {p : α → Bool} {l : List α} (hb : ∀ (j : Nat) (y : α), l[j]? = some y → p y = false) : l.findIdx p = l.length := by
  induction l with
  | nil => rfl
  | cons a t ih =>
    rw [List.findIdx_cons, hb 0 a rfl, cond_false, ih fun j y hy => hb (j + 1) y (by simpa using hy), List.length_cons]
def ixI {α : Type} (p : α → Bool) (l : List α) : Int := if l.findIdx p < l.length then (l.findIdx p : Int) else -1

set_option maxHeartbeats 1000000 in
theorem indexV_any (g : Nat) (lb : Array Value) (eg : ∀ args w, (callFunc g args).run Try.prog w = .ok (.enter g args) w) (p : Vn → Bool) (a : Option Addr) (c : Nat) (l : List Vn) (w : World) (hx : RecAt vnC 2 w a c l)
    (hp : ∀ (W : World) (v : Vn), Below w.heap.size w W → Calls Try.prog g (#[.agg #[.string v.doc, .int .i64 v.ver]] ++ lb) W fun e w' => e = .returned (.bool (p v)) ∧ Below W.heap.size W w') :
    Calls Try.prog 102 #[.slice a l.length c, .func (.func g) #[] lb] w fun e w' => e = .returned (.int .i64 (ixI p l)) ∧ Below w.heap.size w w' := by
  have hm := hx.max
  have HP := Lib.hid hp
  obtain ⟨R, hR⟩ : ∃ R, ixI p l = R := ⟨_, rfl⟩
  rw [hR]
  unfold ixI at hR
  have HR := Lib.hid hR
  clear hp hR
  go_enter Try.func102, Try.ntmps102
  go_wp2_with fail
  go_loopw [5, 8] (fun _ iv wr => ∃ k : Nat, k ≤ l.length ∧ iv = .int .i64 k ∧ Below w.heap.size w wr ∧ Hid (∀ (j : Nat) (y : Vn), j < k → l[j]? = some y → p y = false)) (fun _ iv _ => l.length - (intOf iv).toNat)
  case atStart => exact ⟨0, by omega, rfl, Below.refl _ _, fun j y h => by omega⟩
  case round =>
    obtain ⟨k, hk, rfl, hB, hA⟩ := hrel
    by_cases hlt : k < l.length
    · obtain ⟨b, off, rfl⟩ := RecAt.addr vnZ (by decide) hx (by omega)
      obtain ⟨e, he⟩ : ∃ e, l[k]? = some e := ⟨l[k], List.getElem?_eq_getElem hlt⟩
      obtain ⟨f0, f1⟩ := Vns.cells (RecAt.below hx hB) he
      have kp := HP.out wr e hB
      obtain ⟨y, hy⟩ : ∃ y, p e = y := ⟨_, rfl⟩
      rw [hy] at kp
      have HY := Lib.hid hy
      have HE := Lib.hid he
      clear hy he
      obtain ⟨e0, e1⟩ := e
      simp only at f0 f1 kp
      go_wp2_with fail
      refine kp.mono ?_
      rintro e w1 ⟨rfl, hb1⟩
      cases y with
      | true =>
        go_wp2_with fail
        go_ret
        refine ⟨ret_int ?_, Below.step hB hb1⟩
        rw [← HR.out, findIdx_hit HE.out HY.out fun j z hj hz => hA.out j z hj hz, if_pos hlt]
      | false =>
        go_wp2_with fail
        go_roundw
        case rel =>
          refine ⟨k + 1, by omega, by go_num, Below.step hB hb1, fun j z hj hz => ?_⟩
          rcases Nat.lt_or_ge j k with h | h
          · exact hA.out j z h hz
          · obtain rfl : j = k := by omega
            rw [HE.out] at hz
            cases hz
            exact HY.out
        case measure => simp [intOf]; omega
    · obtain rfl : k = l.length := by omega
      go_wp2_with fail
      go_ret
      refine ⟨ret_int ?_, hB⟩
      rw [← HR.out, findIdx_miss fun j z hz => hA.out j z (List.getElem?_eq_some_iff.1 hz).1 hz, if_neg (by omega)]
set_option maxHeartbeats 1000000 in
theorem indexR_any (g : Nat) (lb : Array Value) (eg : ∀ args w, (callFunc g args).run Try.prog w = .ok (.enter g args) w) (p : Rq → Bool) (a : Option Addr) (c : Nat) (l : List Rq) (w : World) (hx : RecAt rqC 6 w a c l)
    (hp : ∀ (W : World) (v : Rq), Below w.heap.size w W → Calls Try.prog g (#[.agg #[.int .i64 v.id, .int .i64 v.kind, .string v.doc, .int .i64 v.ver, .int .i64 v.off, .string v.txt]] ++ lb) W fun e w' => e = .returned (.bool (p v)) ∧ Below W.heap.size W w') :
    Calls Try.prog 71 #[.slice a l.length c, .func (.func g) #[] lb] w fun e w' => e = .returned (.int .i64 (ixI p l)) ∧ Below w.heap.size w w' := by
  have hm := hx.max
  have HP := Lib.hid hp
  obtain ⟨R, hR⟩ : ∃ R, ixI p l = R := ⟨_, rfl⟩
  rw [hR]
  unfold ixI at hR
  have HR := Lib.hid hR
  clear hp hR
  go_enter Try.func71, Try.ntmps71
  go_wp2_with fail
  go_loopw [5, 8] (fun _ iv wr => ∃ k : Nat, k ≤ l.length ∧ iv = .int .i64 k ∧ Below w.heap.size w wr ∧ Hid (∀ (j : Nat) (y : Rq), j < k → l[j]? = some y → p y = false)) (fun _ iv _ => l.length - (intOf iv).toNat)
  case atStart => exact ⟨0, by omega, rfl, Below.refl _ _, fun j y h => by omega⟩
  case round =>
    obtain ⟨k, hk, rfl, hB, hA⟩ := hrel
    by_cases hlt : k < l.length
    · obtain ⟨b, off, rfl⟩ := RecAt.addr rqZ (by decide) hx (by omega)
      obtain ⟨e, he⟩ : ∃ e, l[k]? = some e := ⟨l[k], List.getElem?_eq_getElem hlt⟩
      obtain ⟨f0, f1, f2, f3, f4, f5⟩ := Rqs.cells (RecAt.below hx hB) he
      have kp := HP.out wr e hB
      obtain ⟨y, hy⟩ : ∃ y, p e = y := ⟨_, rfl⟩
      rw [hy] at kp
      have HY := Lib.hid hy
      have HE := Lib.hid he
      clear hy he
      obtain ⟨e0, e1, e2, e3, e4, e5⟩ := e
      simp only at f0 f1 f2 f3 f4 f5 kp
      go_wp2_with fail
      refine kp.mono ?_
      rintro e w1 ⟨rfl, hb1⟩
      cases y with
      | true =>
        go_wp2_with fail
        go_ret
        refine ⟨ret_int ?_, Below.step hB hb1⟩
        rw [← HR.out, findIdx_hit HE.out HY.out fun j z hj hz => hA.out j z hj hz, if_pos hlt]
      | false =>
        go_wp2_with fail
        go_roundw
        case rel =>
          refine ⟨k + 1, by omega, by go_num, Below.step hB hb1, fun j z hj hz => ?_⟩
          rcases Nat.lt_or_ge j k with h | h
          · exact hA.out j z h hz
          · obtain rfl : j = k := by omega
            rw [HE.out] at hz
            cases hz
            exact HY.out
        case measure => simp [intOf]; omega
    · obtain rfl : k = l.length := by omega
      go_wp2_with fail
      go_ret
      refine ⟨ret_int ?_, hB⟩
      rw [← HR.out, findIdx_miss fun j z hz => hA.out j z (List.getElem?_eq_some_iff.1 hz).1 hz, if_neg (by omega)]

theorem toList_dec (a b : ByteArray) : (a.toList == b.toList) = decide (a = b) := by
  rw [ByteArray.toList_eq, ByteArray.toList_eq, Bool.eq_iff_iff, decide_eq_true_eq, beq_iff_eq]
  constructor
  · intro h
    have h1 := Array.toList_inj.1 h
    cases a
    cases b
    simp only at h1
    rw [h1]
  · intro h
    rw [h]
theorem stale1_any (g : Nat) (r : Rq) (v : Vn) (W : World) (h2 : W.cell? ⟨g, 2, none⟩ = some (.string r.doc)) :
    Calls Try.prog 103 (#[.agg #[.string v.doc, .int .i64 v.ver]] ++ #[.pointer (some ⟨g, 0, none⟩)]) W fun e w' => e = .returned (.bool (decide (v.doc = r.doc))) ∧ Below W.heap.size W w' := by
  have hlt := World.block_lt_of_cell? W _ h2
  have hne : W.heap.size ≠ g := by simp only at hlt; omega
  have hne' : g ≠ W.heap.size := fun h => hne h.symm
  show Calls _ _ #[_, _] _ _
  go_enter Try.func103, Try.ntmps103
  go_wp2
  go_ret
  exact ⟨ret_bool (toList_dec _ _), (Below.refl _ _).alloc (Nat.le_refl _) _⟩

theorem ixI_ver (l : List Vn) (r : Rq) : ixI (fun v : Vn => decide (v.doc = r.doc)) l = if ixV l r.doc < l.length then (ixV l r.doc : Int) else -1 := rfl
set_option maxHeartbeats 1000000 in
theorem stale_any (r : Rq) (a : Option Addr) (c : Nat) (l : List Vn) (w : World) (hx : RecAt vnC 2 w a c l) :
    Calls Try.prog 68 #[.agg #[.int .i64 r.id, .int .i64 r.kind, .string r.doc, .int .i64 r.ver, .int .i64 r.off, .string r.txt], .slice a l.length c] w fun e w' => e = .returned (.bool (stale l r)) ∧ Below w.heap.size w w' := by
  have hm := hx.max
  obtain ⟨w1, hw1⟩ : ∃ x, x = w.alloc (.cells #[.int .i64 r.id, .int .i64 r.kind, .string r.doc, .int .i64 r.ver, .int .i64 r.off, .string r.txt] 44) := ⟨_, rfl⟩
  have hb0 : w1.heap[w.heap.size]? = some (.cells #[.int .i64 r.id, .int .i64 r.kind, .string r.doc, .int .i64 r.ver, .int .i64 r.off, .string r.txt] 44 (0, 0)) := by rw [hw1]; exact heap_alloc_new w _
  have hBB : Below w.heap.size w w1 := by rw [hw1]; exact (Below.refl _ w).alloc (Nat.le_refl _) _
  have x2 := cell_of_row w1 w.heap.size 2 _ _ _ hb0
  have x3 := cell_of_row w1 w.heap.size 3 _ _ _ hb0
  simp at x2 x3
  have kx := indexV_any 103 #[.pointer (some ⟨w.heap.size, 0, none⟩)] (enters_of Try.func103 (by kernel_rfl) rfl) (fun v => decide (v.doc = r.doc)) a c l w1 (hx.below hBB)
    fun W v hW => stale1_any w.heap.size r v W (Below.kept hW (Nat.le_refl _) x2)
  rw [ixI_ver] at kx
  have hst := stale_ix l r
  obtain ⟨S, hS⟩ : ∃ S, stale l r = S := ⟨_, rfl⟩
  rw [hS] at hst ⊢
  have KX := Lib.hid kx
  have HW1 := Lib.hid hw1
  clear kx hS hb0 hw1 x2
  obtain ⟨id, kind, doc, ver, ofs, txt⟩ := r
  simp only at hst x3 KX HW1
  generalize ixV l doc = i at *
  go_enter Try.func68, Try.ntmps68
  go_wp2_with fail
  rw [← HW1.out]
  refine KX.out.mono ?_
  rintro e w2 ⟨rfl, hb2⟩
  have x3 := Below.kept hb2 (Nat.le_refl _) x3
  have hB := Below.step hBB hb2
  have hx2 := hx.below hB
  by_cases hi : i < l.length
  · rw [if_pos hi]
    obtain ⟨b, off, rfl⟩ := RecAt.addr vnZ (by decide) hx (by omega)
    have he : l[i]? = some l[i] := List.getElem?_eq_getElem hi
    obtain ⟨f0, f1⟩ := Vns.cells hx2 he
    rw [he] at hst
    simp only at hst
    generalize l[i].ver = u at *
    clear he hx hx2 f0
    have HS := Lib.hid hst
    clear hst
    go_wp2_with fail
    go_quiet (fail)
    go_wp2_with fail
    go_ret
    exact ⟨ret_bool HS.out.symm, hB.trans (Below.drewN _)⟩
  · rw [if_neg hi]
    rw [List.getElem?_eq_none (by omega)] at hst
    simp only at hst
    clear hx hx2
    subst hst
    go_wp2_with fail
    go_quiet (fail)
    go_wp2_with fail
    go_ret
    exact ⟨rfl, hB.trans (Below.drewN _)⟩
end Go.Proofs.Ytaonhmdifinadaa
