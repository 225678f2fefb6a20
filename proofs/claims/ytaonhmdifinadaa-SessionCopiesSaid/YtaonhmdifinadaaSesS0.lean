/-
  The law's helpers plain, answer, same.
-/
import Derived.Test.YtaonhmdifinadaaSesH
import Derived.Deep.RegionHeld3
namespace Go.Proofs.Ytaonhmdifinadaa
open Go Go.Proofs
open Go.RowKit
set_option linter.unusedVariables false
set_option linter.unusedSimpArgs false

set_option maxRecDepth 100000 in
theorem plain_any (r : Rq) (w : World) :
    Calls Try.prog 37 #[.agg #[.int .i64 r.id, .int .i64 r.kind, .string r.doc, .int .i64 r.ver, .int .i64 r.off, .string r.txt]] w fun e w' =>
      e = .returned (.agg #[.int .i64 r.id, .int .i64 r.kind, .string r.doc, .int .i64 r.ver, .int .i64 r.off, .string r.txt]) ∧ Below w.heap.size w w' := by
  obtain ⟨ri, rk, rd, rv, ro, rt⟩ := r
  go_enter Try.func37, Try.ntmps37
  go_wp2
  have hz := heap_alloc_new (w.alloc (.cells #[.int .i64 ri, .int .i64 rk, .string rd, .int .i64 rv, .int .i64 ro, .string rt] 44)) (.cells #[.int .i64 ri, .int .i64 rk, .string rd, .int .i64 rv, .int .i64 ro, .string rt] 60)
  rw [World.size_alloc] at hz
  exact bodyPost_ret (v := .agg #[.int .i64 ri, .int .i64 rk, .string rd, .int .i64 rv, .int .i64 ro, .string rt]) (results_cell_row rfl _ _ _ 60 _ _ _ rfl hz rfl rfl rfl) rfl ⟨rfl, ((Below.refl _ w).alloc (Nat.le_refl _) _).alloc (by simp) _⟩
set_option maxRecDepth 100000 in
theorem answ_any (r : An) (w : World) :
    Calls Try.prog 44 #[.agg #[.int .i64 r.id, .int .i64 r.err, .int .i64 r.ver, .string r.txt]] w fun e w' =>
      e = .returned (.agg #[.int .i64 r.id, .int .i64 r.err, .int .i64 r.ver, .string r.txt]) ∧ Below w.heap.size w w' := by
  obtain ⟨ri, rk, rv, rt⟩ := r
  go_enter Try.func44, Try.ntmps44
  go_wp2
  have hz := heap_alloc_new (w.alloc (.cells #[.int .i64 ri, .int .i64 rk, .int .i64 rv, .string rt] 53)) (.cells #[.int .i64 ri, .int .i64 rk, .int .i64 rv, .string rt] 84)
  rw [World.size_alloc] at hz
  exact bodyPost_ret (v := .agg #[.int .i64 ri, .int .i64 rk, .int .i64 rv, .string rt]) (results_cell_row rfl _ _ _ 84 _ _ _ rfl hz rfl rfl rfl) rfl ⟨rfl, ((Below.refl _ w).alloc (Nat.le_refl _) _).alloc (by simp) _⟩

set_option maxRecDepth 100000 in
set_option maxHeartbeats 4000000 in
theorem sameA_any (a a' : Option Addr) (c c' : Nat) (l : List An) (w : World) (hx : RecAt anC 4 w a c l) (hy : RecAt anC 4 w a' c' l) :
    Calls Try.prog 33 #[.slice a l.length c, .slice a' l.length c'] w fun e w' => e = .returned (.bool true) ∧ Below w.heap.size w w' := by
  have hm := hx.max
  have HX := Lib.hid hx
  have HY := Lib.hid hy
  clear hx hy
  go_enter Try.func33, Try.ntmps33
  go_wp2_with fail
  go_loopw [5] (fun iv wr => ∃ k : Nat, k ≤ l.length ∧ iv = .int .i64 k ∧ Below w.heap.size w wr) (fun iv _ => l.length - (intOf iv).toNat)
  case atStart => exact ⟨0, by omega, rfl, Below.refl _ _⟩
  case round =>
    obtain ⟨k, hk, rfl, hB⟩ := hrel
    by_cases hlt : k < l.length
    · obtain ⟨b, off, rfl⟩ := RecAt.addr anZ (by decide) HX.out (by omega)
      obtain ⟨b', off', rfl⟩ := RecAt.addr anZ (by decide) HY.out (by omega)
      obtain ⟨e, he⟩ : ∃ e, l[k]? = some e := ⟨l[k], List.getElem?_eq_getElem hlt⟩
      have hx := HX.out.below hB
      have hy := HY.out.below hB
      obtain ⟨f0, f1, f2, f3⟩ := Ans.cells hx he
      obtain ⟨g0, g1, g2, g3⟩ := Ans.cells hy he
      have hkl : (k : Int) < (l.length : Int) := by omega
      have hk0 : (0 : Int) ≤ (k : Int) := by omega
      have hd := Below.drew (Below.refl wr.heap.size wr)
      obtain ⟨ei, ee, ev, et⟩ := e
      simp only at f0 f1 f2 f3 g0 g1 g2 g3
      have HS0 : Hid (Below wr.heap.size wr wr.drew ∧ wr.drew.cell? ⟨b, off + k * 4, none⟩ = some (.int .i64 ei) ∧ wr.drew.cell? ⟨b, off + k * 4 + 1, none⟩ = some (.int .i64 ee) ∧ wr.drew.cell? ⟨b, off + k * 4 + 2, none⟩ = some (.int .i64 ev) ∧ wr.drew.cell? ⟨b, off + k * 4 + 3, none⟩ = some (.string et) ∧
          wr.drew.cell? ⟨b', off' + k * 4, none⟩ = some (.int .i64 ei) ∧ wr.drew.cell? ⟨b', off' + k * 4 + 1, none⟩ = some (.int .i64 ee) ∧ wr.drew.cell? ⟨b', off' + k * 4 + 2, none⟩ = some (.int .i64 ev) ∧ wr.drew.cell? ⟨b', off' + k * 4 + 3, none⟩ = some (.string et)) := ⟨hd, f0, f1, f2, f3, g0, g1, g2, g3⟩
      have HS1 : Hid (∀ W W', (Below wr.heap.size wr W ∧ W.cell? ⟨b, off + k * 4, none⟩ = some (.int .i64 ei) ∧ W.cell? ⟨b, off + k * 4 + 1, none⟩ = some (.int .i64 ee) ∧ W.cell? ⟨b, off + k * 4 + 2, none⟩ = some (.int .i64 ev) ∧ W.cell? ⟨b, off + k * 4 + 3, none⟩ = some (.string et) ∧
          W.cell? ⟨b', off' + k * 4, none⟩ = some (.int .i64 ei) ∧ W.cell? ⟨b', off' + k * 4 + 1, none⟩ = some (.int .i64 ee) ∧ W.cell? ⟨b', off' + k * 4 + 2, none⟩ = some (.int .i64 ev) ∧ W.cell? ⟨b', off' + k * 4 + 3, none⟩ = some (.string et)) → Below W.heap.size W W' → (Below wr.heap.size wr W' ∧ W'.cell? ⟨b, off + k * 4, none⟩ = some (.int .i64 ei) ∧ W'.cell? ⟨b, off + k * 4 + 1, none⟩ = some (.int .i64 ee) ∧ W'.cell? ⟨b, off + k * 4 + 2, none⟩ = some (.int .i64 ev) ∧ W'.cell? ⟨b, off + k * 4 + 3, none⟩ = some (.string et) ∧
          W'.cell? ⟨b', off' + k * 4, none⟩ = some (.int .i64 ei) ∧ W'.cell? ⟨b', off' + k * 4 + 1, none⟩ = some (.int .i64 ee) ∧ W'.cell? ⟨b', off' + k * 4 + 2, none⟩ = some (.int .i64 ev) ∧ W'.cell? ⟨b', off' + k * 4 + 3, none⟩ = some (.string et))) := by
        intro W W' ⟨h0, h1, h2, h3, h4, h5, h6, h7, h8⟩ hb
        have k := fun {p : Addr} {v : Value} (h : W.cell? p = some v) => Below.kept hb (Nat.le_refl _) h
        exact ⟨Below.step h0 hb, k h1, k h2, k h3, k h4, k h5, k h6, k h7, k h8⟩
      clear f0 f1 f2 f3 g0 g1 g2 g3 hd he hx hy
      go_wp2_with fail
      refine wp_region_held_drew (S := fun W => Below wr.heap.size wr W ∧ W.cell? ⟨b, off + k * 4, none⟩ = some (.int .i64 ei) ∧ W.cell? ⟨b, off + k * 4 + 1, none⟩ = some (.int .i64 ee) ∧ W.cell? ⟨b, off + k * 4 + 2, none⟩ = some (.int .i64 ev) ∧ W.cell? ⟨b, off + k * 4 + 3, none⟩ = some (.string et) ∧ W.cell? ⟨b', off' + k * 4, none⟩ = some (.int .i64 ei) ∧ W.cell? ⟨b', off' + k * 4 + 1, none⟩ = some (.int .i64 ee) ∧ W.cell? ⟨b', off' + k * 4 + 2, none⟩ = some (.int .i64 ev) ∧ W.cell? ⟨b', off' + k * 4 + 3, none⟩ = some (.string et)) (by kernel_rfl) (HS0.out) (fun h0 => ?_)
      (first | ((refine wpAnyH_take (i := 0) (oi := ⟨_, _, _, _, _, _⟩) (v := ?_) rfl (by kernel_rfl) (by kernel_rfl) (by kernel_rfl) (fun _ _ _ h => h) (Or.inl ⟨by rfl, ?_⟩) (by assumption) ?_); rotate_left; focus ((intro w hSw); (try dsimp only at hSw); go_simp; all_goals (with_reducible rfl))) | (refine wpAnyH_take (i := 0) (oi := ⟨_, _, _, _, _, _⟩) (v := undef) rfl (by kernel_rfl) (by kernel_rfl) (by kernel_rfl) (fun _ _ _ h => h) (Or.inr ⟨by rfl, rfl⟩) (by assumption) ?_))
      try simp only [Act.put, List.setIfInBounds_toArray, List.set_cons_zero, List.set_cons_succ]
      (first | ((refine wpAnyH_take (i := 1) (oi := ⟨_, _, _, _, _, _⟩) (v := ?_) rfl (by kernel_rfl) (by kernel_rfl) (by kernel_rfl) (fun _ _ _ h => h) (Or.inl ⟨by rfl, ?_⟩) (by assumption) ?_); rotate_left; focus ((intro w hSw); (try dsimp only at hSw); go_simp; all_goals (with_reducible rfl))) | (refine wpAnyH_take (i := 1) (oi := ⟨_, _, _, _, _, _⟩) (v := undef) rfl (by kernel_rfl) (by kernel_rfl) (by kernel_rfl) (fun _ _ _ h => h) (Or.inr ⟨by rfl, rfl⟩) (by assumption) ?_))
      try simp only [Act.put, List.setIfInBounds_toArray, List.set_cons_zero, List.set_cons_succ]
      (first | ((refine wpAnyH_take (i := 2) (oi := ⟨_, _, _, _, _, _⟩) (v := ?_) rfl (by kernel_rfl) (by kernel_rfl) (by kernel_rfl) (fun _ _ _ h => h) (Or.inl ⟨by rfl, ?_⟩) (by assumption) ?_); rotate_left; focus ((intro w hSw); (try dsimp only at hSw); go_simp; all_goals (with_reducible rfl))) | (refine wpAnyH_take (i := 2) (oi := ⟨_, _, _, _, _, _⟩) (v := undef) rfl (by kernel_rfl) (by kernel_rfl) (by kernel_rfl) (fun _ _ _ h => h) (Or.inr ⟨by rfl, rfl⟩) (by assumption) ?_))
      try simp only [Act.put, List.setIfInBounds_toArray, List.set_cons_zero, List.set_cons_succ]
      (first | ((refine wpAnyH_take (i := 3) (oi := ⟨_, _, _, _, _, _⟩) (v := ?_) rfl (by kernel_rfl) (by kernel_rfl) (by kernel_rfl) (fun _ _ _ h => h) (Or.inl ⟨by rfl, ?_⟩) (by assumption) ?_); rotate_left; focus ((intro w hSw); (try dsimp only at hSw); go_simp; all_goals (with_reducible rfl))) | (refine wpAnyH_take (i := 3) (oi := ⟨_, _, _, _, _, _⟩) (v := undef) rfl (by kernel_rfl) (by kernel_rfl) (by kernel_rfl) (fun _ _ _ h => h) (Or.inr ⟨by rfl, rfl⟩) (by assumption) ?_))
      try simp only [Act.put, List.setIfInBounds_toArray, List.set_cons_zero, List.set_cons_succ]
      (first | ((refine wpAnyH_take (i := 5) (oi := ⟨_, _, _, _, _, _⟩) (v := ?_) rfl (by kernel_rfl) (by kernel_rfl) (by kernel_rfl) (fun _ _ _ h => h) (Or.inl ⟨by rfl, ?_⟩) (by assumption) ?_); rotate_left; focus ((intro w hSw); (try dsimp only at hSw); go_simp; all_goals (with_reducible rfl))) | (refine wpAnyH_take (i := 5) (oi := ⟨_, _, _, _, _, _⟩) (v := undef) rfl (by kernel_rfl) (by kernel_rfl) (by kernel_rfl) (fun _ _ _ h => h) (Or.inr ⟨by rfl, rfl⟩) (by assumption) ?_))
      try simp only [Act.put, List.setIfInBounds_toArray, List.set_cons_zero, List.set_cons_succ]
      (first | ((refine wpAnyH_take (i := 6) (oi := ⟨_, _, _, _, _, _⟩) (v := ?_) rfl (by kernel_rfl) (by kernel_rfl) (by kernel_rfl) (fun _ _ _ h => h) (Or.inl ⟨by rfl, ?_⟩) (by assumption) ?_); rotate_left; focus ((intro w hSw); (try dsimp only at hSw); go_simp; all_goals (with_reducible rfl))) | (refine wpAnyH_take (i := 6) (oi := ⟨_, _, _, _, _, _⟩) (v := undef) rfl (by kernel_rfl) (by kernel_rfl) (by kernel_rfl) (fun _ _ _ h => h) (Or.inr ⟨by rfl, rfl⟩) (by assumption) ?_))
      try simp only [Act.put, List.setIfInBounds_toArray, List.set_cons_zero, List.set_cons_succ]
      (first | ((refine wpAnyH_take (i := 7) (oi := ⟨_, _, _, _, _, _⟩) (v := ?_) rfl (by kernel_rfl) (by kernel_rfl) (by kernel_rfl) (fun _ _ _ h => h) (Or.inl ⟨by rfl, ?_⟩) (by assumption) ?_); rotate_left; focus ((intro w hSw); (try dsimp only at hSw); go_simp; all_goals (with_reducible rfl))) | (refine wpAnyH_take (i := 7) (oi := ⟨_, _, _, _, _, _⟩) (v := undef) rfl (by kernel_rfl) (by kernel_rfl) (by kernel_rfl) (fun _ _ _ h => h) (Or.inr ⟨by rfl, rfl⟩) (by assumption) ?_))
      try simp only [Act.put, List.setIfInBounds_toArray, List.set_cons_zero, List.set_cons_succ]
      (first | ((refine wpAnyH_take (i := 8) (oi := ⟨_, _, _, _, _, _⟩) (v := ?_) rfl (by kernel_rfl) (by kernel_rfl) (by kernel_rfl) (fun _ _ _ h => h) (Or.inl ⟨by rfl, ?_⟩) (by assumption) ?_); rotate_left; focus ((intro w hSw); (try dsimp only at hSw); go_simp; all_goals (with_reducible rfl))) | (refine wpAnyH_take (i := 8) (oi := ⟨_, _, _, _, _, _⟩) (v := undef) rfl (by kernel_rfl) (by kernel_rfl) (by kernel_rfl) (fun _ _ _ h => h) (Or.inr ⟨by rfl, rfl⟩) (by assumption) ?_))
      try simp only [Act.put, List.setIfInBounds_toArray, List.set_cons_zero, List.set_cons_succ]
      refine wpAnyH_ready (rs := [4]) (by kernel_rfl) (by simp) ?_
      refine AllReadyH.cons (o := ⟨_, _, _, _, _, _⟩) rfl (fun K hK => ?_) ?_
      · go_simp
        (with_reducible refine (answ_any ⟨ei, ee, ev, et⟩ _).mono ?_)
        rintro e w' ⟨rfl, hbb⟩
        go_wp2_with fail
        refine hK.out _ _ (HS1.out _ _ h0 hbb) (fun h1 => ?_)
        clear hK K
        try simp only [Act.put, List.setIfInBounds_toArray, List.set_cons_zero, List.set_cons_succ]
        (first | ((refine wpAnyH_take (i := 9) (oi := ⟨_, _, _, _, _, _⟩) (v := ?_) rfl (by kernel_rfl) (by kernel_rfl) (by kernel_rfl) (fun _ _ _ h => h) (Or.inl ⟨by rfl, ?_⟩) (by assumption) ?_); rotate_left; focus ((intro w hSw); (try dsimp only at hSw); go_simp; all_goals (with_reducible rfl))) | (refine wpAnyH_take (i := 9) (oi := ⟨_, _, _, _, _, _⟩) (v := undef) rfl (by kernel_rfl) (by kernel_rfl) (by kernel_rfl) (fun _ _ _ h => h) (Or.inr ⟨by rfl, rfl⟩) (by assumption) ?_))
        try simp only [Act.put, List.setIfInBounds_toArray, List.set_cons_zero, List.set_cons_succ]
        refine wpAnyH_done (by kernel_rfl) ?_ _
        go_wp2_with fail
        go_roundw
        case rel => exact ⟨k + 1, by omega, by go_num, hB.trans (h1.1.mono hB.size)⟩
        case measure => simp [intOf]; omega
      exact AllReadyH.nil
    · obtain rfl : k = l.length := by omega
      go_wp2_with fail
      go_ret
      exact ⟨rfl, hB⟩
end Go.Proofs.Ytaonhmdifinadaa
