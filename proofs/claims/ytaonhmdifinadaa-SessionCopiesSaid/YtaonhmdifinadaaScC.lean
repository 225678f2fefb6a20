/-
  Copies of a session.
-/
import Derived.Test.YtaonhmdifinadaaScT
import Derived.Lib.SliceRun
namespace Go.Proofs.Ytaonhmdifinadaa
open Go Go.Proofs
open Go.RowKit
set_option linter.unusedVariables false
set_option linter.unusedSimpArgs false

set_option maxRecDepth 100000 in
set_option maxHeartbeats 1000000 in
theorem cloneR_any (a : Option Addr) (c : Nat) (xs : List Rq) (w : World) (hx : RecAt rqC 6 w a c xs) (hl : xs.length ≤ 1000000) :
    Calls Try.prog 78 #[.slice a xs.length c] w fun e w' => ∃ v, e = .returned v ∧ OwnRec rqC 6 44 w' w.heap.size v xs ∧ Below w.heap.size w w' := by
  have hle := hx.le
  cases a with
  | none =>
    have hc : c = 0 := hx.2.2.2.1 rfl
    subst hc
    obtain rfl : xs = [] := List.eq_nil_of_length_eq_zero (by simpa using hle)
    clear hx hle
    have q := fun wx => Lib.run_eql_slice_nil (P := Try.prog) wx 79 44 none 0 0 0 0 Try.underlying79
    go_enter Try.func78, Try.ntmps78
    go_wp2
    go_ret
    exact ⟨_, rfl, World.ownsRow_nil _ _ _ _, Below.refl _ _⟩
  | some ad =>
    have hrow : RowAt w (some ad) xs.length c 6 (xs.flatMap rqC) := hx
    clear hx hle
    obtain ⟨vs, hvs⟩ : ∃ vs, xs.flatMap rqC = vs := ⟨_, rfl⟩
    have h1 : ∀ u ∈ vs, u.oneCell' = true := by rw [← hvs]; exact rec_one rqO xs
    unfold OwnRec
    rw [hvs] at hrow ⊢
    clear hvs
    generalize xs.length = n at *
    have q := fun wx => Lib.run_eql_slice_nil (P := Try.prog) wx 79 44 (some ad) n c 0 0 Try.underlying79
    have hown : (w.alloc (.cells #[] 44)).ownsRow w.heap.size 44 6 (.slice (some ⟨w.heap.size, 0, none⟩) 0 0) 0 [] := World.ownsRow_lit w #[] 0 (Nat.le_refl _) (by decide) rfl
    go_enter Try.func78, Try.ntmps78
    go_wp2_with (at_builtin; refine wpList_append_src _ rfl _ _ 79 rfl elemR w.heap.size _ 0 _ rfl hown (some ad) n c vs rfl (hrow.below ((Below.refl _ w).alloc (Nat.le_refl _) _)) h1 (by omega) (by omega) (by simp) ?_)
    intro v' w' hown' hbel' hgrow
    go_wp2
    go_ret
    refine ⟨_, rfl, by simpa using hown', ((Below.refl _ w).alloc (Nat.le_refl _) _).trans hbel'⟩

set_option maxRecDepth 100000 in
set_option maxHeartbeats 1000000 in
theorem cloneA_any (a : Option Addr) (c : Nat) (xs : List An) (w : World) (hx : RecAt anC 4 w a c xs) (hl : xs.length ≤ 1000000) :
    Calls Try.prog 79 #[.slice a xs.length c] w fun e w' => ∃ v, e = .returned v ∧ OwnRec anC 4 53 w' w.heap.size v xs ∧ Below w.heap.size w w' := by
  have hle := hx.le
  cases a with
  | none =>
    have hc : c = 0 := hx.2.2.2.1 rfl
    subst hc
    obtain rfl : xs = [] := List.eq_nil_of_length_eq_zero (by simpa using hle)
    clear hx hle
    have q := fun wx => Lib.run_eql_slice_nil (P := Try.prog) wx 50 53 none 0 0 0 0 Try.underlying50
    go_enter Try.func79, Try.ntmps79
    go_wp2
    go_ret
    exact ⟨_, rfl, World.ownsRow_nil _ _ _ _, Below.refl _ _⟩
  | some ad =>
    have hrow : RowAt w (some ad) xs.length c 4 (xs.flatMap anC) := hx
    clear hx hle
    obtain ⟨vs, hvs⟩ : ∃ vs, xs.flatMap anC = vs := ⟨_, rfl⟩
    have h1 : ∀ u ∈ vs, u.oneCell' = true := by rw [← hvs]; exact rec_one anO xs
    unfold OwnRec
    rw [hvs] at hrow ⊢
    clear hvs
    generalize xs.length = n at *
    have q := fun wx => Lib.run_eql_slice_nil (P := Try.prog) wx 50 53 (some ad) n c 0 0 Try.underlying50
    have hown : (w.alloc (.cells #[] 53)).ownsRow w.heap.size 53 4 (.slice (some ⟨w.heap.size, 0, none⟩) 0 0) 0 [] := World.ownsRow_lit w #[] 0 (Nat.le_refl _) (by decide) rfl
    go_enter Try.func79, Try.ntmps79
    go_wp2_with (at_builtin; refine wpList_append_src _ rfl _ _ 50 rfl elemA w.heap.size _ 0 _ rfl hown (some ad) n c vs rfl (hrow.below ((Below.refl _ w).alloc (Nat.le_refl _) _)) h1 (by omega) (by omega) (by simp) ?_)
    intro v' w' hown' hbel' hgrow
    go_wp2
    go_ret
    refine ⟨_, rfl, by simpa using hown', ((Below.refl _ w).alloc (Nat.le_refl _) _).trans hbel'⟩

set_option maxRecDepth 100000 in
set_option maxHeartbeats 2000000 in
theorem copy_any (k i b : Nat) (S : SesS) (w : World) (o : Nat → Nat) (hS : SesP w o i b S) (hn : S.rq.length ≤ 1000000) (ha : S.an.length ≤ 1000000) :
    Calls Try.prog 39 #[.pointer (some ⟨b, 0, none⟩)] w fun e w' => ∃ b', e = .returned (.pointer (some ⟨b', 0, none⟩)) ∧ ∃ o', Step (fun _ => False) w o w' o' ∧ SesP w' o' k b' S := by
  obtain ⟨rv, av, h1, h2, h3⟩ := hS
  obtain ⟨ra, rc, rfl⟩ := h2.form
  obtain ⟨aa, ac, rfl⟩ := h3.form
  have HR := Lib.hid h2.recAt.2
  have HA := Lib.hid h3.recAt.2
  have c0 := h1.cell (j := 0) rfl
  have c1 := h1.cell (j := 1) rfl
  have c2 := h1.cell (j := 2) rfl
  have c3 := h1.cell (j := 3) rfl
  have HC := Lib.hid (show w.drew.cell? ⟨b, 0, none⟩ = some (.slice ra S.rq.length rc) ∧ w.drew.cell? ⟨b, 1, none⟩ = some (.bool S.run) ∧ w.drew.cell? ⟨b, 2, none⟩ = some (.int .i64 S.last) ∧ w.drew.cell? ⟨b, 3, none⟩ = some (.slice aa S.an.length ac) from ⟨c0, c1, c2, c3⟩)
  have hlt := h1.lt
  have hd := Below.drew (Below.refl w.heap.size w)
  have HRD := Lib.hid (HR.out.below hd)
  have HAD := Lib.hid (HA.out.below hd)
  have HD := Lib.hid hd
  clear h1 h2 h3 hd
  go_enter Try.func39, Try.ntmps39
  go_wp2_with fail
  refine wp_region_held_drew (S := fun W => W.cell? ⟨b, 0, none⟩ = some (.slice ra S.rq.length rc) ∧ W.cell? ⟨b, 1, none⟩ = some (.bool S.run) ∧ W.cell? ⟨b, 2, none⟩ = some (.int .i64 S.last) ∧ W.cell? ⟨b, 3, none⟩ = some (.slice aa S.an.length ac)) (by kernel_rfl) (HC.out) (fun h0 => ?_)
  (first | ((refine wpAnyH_take (i := 0) (oi := ⟨_, _, _, _, _, _⟩) (v := ?_) rfl (by kernel_rfl) (by kernel_rfl) (by kernel_rfl) (fun _ _ _ h => h) (Or.inl ⟨by rfl, ?_⟩) (by assumption) ?_); rotate_left; focus ((intro w hSw); (try dsimp only at hSw); go_simp; all_goals (with_reducible rfl))) | (refine wpAnyH_take (i := 0) (oi := ⟨_, _, _, _, _, _⟩) (v := undef) rfl (by kernel_rfl) (by kernel_rfl) (by kernel_rfl) (fun _ _ _ h => h) (Or.inr ⟨by rfl, rfl⟩) (by assumption) ?_))
  try simp only [Act.put, List.setIfInBounds_toArray, List.set_cons_zero, List.set_cons_succ]
  (first | ((refine wpAnyH_take (i := 1) (oi := ⟨_, _, _, _, _, _⟩) (v := ?_) rfl (by kernel_rfl) (by kernel_rfl) (by kernel_rfl) (fun _ _ _ h => h) (Or.inl ⟨by rfl, ?_⟩) (by assumption) ?_); rotate_left; focus ((intro w hSw); (try dsimp only at hSw); go_simp; all_goals (with_reducible rfl))) | (refine wpAnyH_take (i := 1) (oi := ⟨_, _, _, _, _, _⟩) (v := undef) rfl (by kernel_rfl) (by kernel_rfl) (by kernel_rfl) (fun _ _ _ h => h) (Or.inr ⟨by rfl, rfl⟩) (by assumption) ?_))
  try simp only [Act.put, List.setIfInBounds_toArray, List.set_cons_zero, List.set_cons_succ]
  (first | ((refine wpAnyH_take (i := 2) (oi := ⟨_, _, _, _, _, _⟩) (v := ?_) rfl (by kernel_rfl) (by kernel_rfl) (by kernel_rfl) (fun _ _ _ h => h) (Or.inl ⟨by rfl, ?_⟩) (by assumption) ?_); rotate_left; focus ((intro w hSw); (try dsimp only at hSw); go_simp; all_goals (with_reducible rfl))) | (refine wpAnyH_take (i := 2) (oi := ⟨_, _, _, _, _, _⟩) (v := undef) rfl (by kernel_rfl) (by kernel_rfl) (by kernel_rfl) (fun _ _ _ h => h) (Or.inr ⟨by rfl, rfl⟩) (by assumption) ?_))
  try simp only [Act.put, List.setIfInBounds_toArray, List.set_cons_zero, List.set_cons_succ]
  (first | ((refine wpAnyH_take (i := 3) (oi := ⟨_, _, _, _, _, _⟩) (v := ?_) rfl (by kernel_rfl) (by kernel_rfl) (by kernel_rfl) (fun _ _ _ h => h) (Or.inl ⟨by rfl, ?_⟩) (by assumption) ?_); rotate_left; focus ((intro w hSw); (try dsimp only at hSw); go_simp; all_goals (with_reducible rfl))) | (refine wpAnyH_take (i := 3) (oi := ⟨_, _, _, _, _, _⟩) (v := undef) rfl (by kernel_rfl) (by kernel_rfl) (by kernel_rfl) (fun _ _ _ h => h) (Or.inr ⟨by rfl, rfl⟩) (by assumption) ?_))
  try simp only [Act.put, List.setIfInBounds_toArray, List.set_cons_zero, List.set_cons_succ]
  (first | ((refine wpAnyH_take (i := 5) (oi := ⟨_, _, _, _, _, _⟩) (v := ?_) rfl (by kernel_rfl) (by kernel_rfl) (by kernel_rfl) (fun _ _ _ h => h) (Or.inl ⟨by rfl, ?_⟩) (by assumption) ?_); rotate_left; focus ((intro w hSw); (try dsimp only at hSw); go_simp; all_goals (with_reducible rfl))) | (refine wpAnyH_take (i := 5) (oi := ⟨_, _, _, _, _, _⟩) (v := undef) rfl (by kernel_rfl) (by kernel_rfl) (by kernel_rfl) (fun _ _ _ h => h) (Or.inr ⟨by rfl, rfl⟩) (by assumption) ?_))
  try simp only [Act.put, List.setIfInBounds_toArray, List.set_cons_zero, List.set_cons_succ]
  (first | ((refine wpAnyH_take (i := 6) (oi := ⟨_, _, _, _, _, _⟩) (v := ?_) rfl (by kernel_rfl) (by kernel_rfl) (by kernel_rfl) (fun _ _ _ h => h) (Or.inl ⟨by rfl, ?_⟩) (by assumption) ?_); rotate_left; focus ((intro w hSw); (try dsimp only at hSw); go_simp; all_goals (with_reducible rfl))) | (refine wpAnyH_take (i := 6) (oi := ⟨_, _, _, _, _, _⟩) (v := undef) rfl (by kernel_rfl) (by kernel_rfl) (by kernel_rfl) (fun _ _ _ h => h) (Or.inr ⟨by rfl, rfl⟩) (by assumption) ?_))
  try simp only [Act.put, List.setIfInBounds_toArray, List.set_cons_zero, List.set_cons_succ]
  (first | ((refine wpAnyH_take (i := 7) (oi := ⟨_, _, _, _, _, _⟩) (v := ?_) rfl (by kernel_rfl) (by kernel_rfl) (by kernel_rfl) (fun _ _ _ h => h) (Or.inl ⟨by rfl, ?_⟩) (by assumption) ?_); rotate_left; focus ((intro w hSw); (try dsimp only at hSw); go_simp; all_goals (with_reducible rfl))) | (refine wpAnyH_take (i := 7) (oi := ⟨_, _, _, _, _, _⟩) (v := undef) rfl (by kernel_rfl) (by kernel_rfl) (by kernel_rfl) (fun _ _ _ h => h) (Or.inr ⟨by rfl, rfl⟩) (by assumption) ?_))
  try simp only [Act.put, List.setIfInBounds_toArray, List.set_cons_zero, List.set_cons_succ]
  (first | ((refine wpAnyH_take (i := 8) (oi := ⟨_, _, _, _, _, _⟩) (v := ?_) rfl (by kernel_rfl) (by kernel_rfl) (by kernel_rfl) (fun _ _ _ h => h) (Or.inl ⟨by rfl, ?_⟩) (by assumption) ?_); rotate_left; focus ((intro w hSw); (try dsimp only at hSw); go_simp; all_goals (with_reducible rfl))) | (refine wpAnyH_take (i := 8) (oi := ⟨_, _, _, _, _, _⟩) (v := undef) rfl (by kernel_rfl) (by kernel_rfl) (by kernel_rfl) (fun _ _ _ h => h) (Or.inr ⟨by rfl, rfl⟩) (by assumption) ?_))
  try simp only [Act.put, List.setIfInBounds_toArray, List.set_cons_zero, List.set_cons_succ]
  (first | ((refine wpAnyH_take (i := 9) (oi := ⟨_, _, _, _, _, _⟩) (v := ?_) rfl (by kernel_rfl) (by kernel_rfl) (by kernel_rfl) (fun _ _ _ h => h) (Or.inl ⟨by rfl, ?_⟩) (by assumption) ?_); rotate_left; focus ((intro w hSw); (try dsimp only at hSw); go_simp; all_goals (with_reducible rfl))) | (refine wpAnyH_take (i := 9) (oi := ⟨_, _, _, _, _, _⟩) (v := undef) rfl (by kernel_rfl) (by kernel_rfl) (by kernel_rfl) (fun _ _ _ h => h) (Or.inr ⟨by rfl, rfl⟩) (by assumption) ?_))
  try simp only [Act.put, List.setIfInBounds_toArray, List.set_cons_zero, List.set_cons_succ]
  (first | ((refine wpAnyH_take (i := 10) (oi := ⟨_, _, _, _, _, _⟩) (v := ?_) rfl (by kernel_rfl) (by kernel_rfl) (by kernel_rfl) (fun _ _ _ h => h) (Or.inl ⟨by rfl, ?_⟩) (by assumption) ?_); rotate_left; focus ((intro w hSw); (try dsimp only at hSw); go_simp; all_goals (with_reducible rfl))) | (refine wpAnyH_take (i := 10) (oi := ⟨_, _, _, _, _, _⟩) (v := undef) rfl (by kernel_rfl) (by kernel_rfl) (by kernel_rfl) (fun _ _ _ h => h) (Or.inr ⟨by rfl, rfl⟩) (by assumption) ?_))
  try simp only [Act.put, List.setIfInBounds_toArray, List.set_cons_zero, List.set_cons_succ]
  (first | ((refine wpAnyH_take (i := 11) (oi := ⟨_, _, _, _, _, _⟩) (v := ?_) rfl (by kernel_rfl) (by kernel_rfl) (by kernel_rfl) (fun _ _ _ h => h) (Or.inl ⟨by rfl, ?_⟩) (by assumption) ?_); rotate_left; focus ((intro w hSw); (try dsimp only at hSw); go_simp; all_goals (with_reducible rfl))) | (refine wpAnyH_take (i := 11) (oi := ⟨_, _, _, _, _, _⟩) (v := undef) rfl (by kernel_rfl) (by kernel_rfl) (by kernel_rfl) (fun _ _ _ h => h) (Or.inr ⟨by rfl, rfl⟩) (by assumption) ?_))
  try simp only [Act.put, List.setIfInBounds_toArray, List.set_cons_zero, List.set_cons_succ]
  (first | ((refine wpAnyH_take (i := 12) (oi := ⟨_, _, _, _, _, _⟩) (v := ?_) rfl (by kernel_rfl) (by kernel_rfl) (by kernel_rfl) (fun _ _ _ h => h) (Or.inl ⟨by rfl, ?_⟩) (by assumption) ?_); rotate_left; focus ((intro w hSw); (try dsimp only at hSw); go_simp; all_goals (with_reducible rfl))) | (refine wpAnyH_take (i := 12) (oi := ⟨_, _, _, _, _, _⟩) (v := undef) rfl (by kernel_rfl) (by kernel_rfl) (by kernel_rfl) (fun _ _ _ h => h) (Or.inr ⟨by rfl, rfl⟩) (by assumption) ?_))
  try simp only [Act.put, List.setIfInBounds_toArray, List.set_cons_zero, List.set_cons_succ]
  (first | ((refine wpAnyH_take (i := 13) (oi := ⟨_, _, _, _, _, _⟩) (v := ?_) rfl (by kernel_rfl) (by kernel_rfl) (by kernel_rfl) (fun _ _ _ h => h) (Or.inl ⟨by rfl, ?_⟩) (by assumption) ?_); rotate_left; focus ((intro w hSw); (try dsimp only at hSw); go_simp; all_goals (with_reducible rfl))) | (refine wpAnyH_take (i := 13) (oi := ⟨_, _, _, _, _, _⟩) (v := undef) rfl (by kernel_rfl) (by kernel_rfl) (by kernel_rfl) (fun _ _ _ h => h) (Or.inr ⟨by rfl, rfl⟩) (by assumption) ?_))
  try simp only [Act.put, List.setIfInBounds_toArray, List.set_cons_zero, List.set_cons_succ]
  (first | ((refine wpAnyH_take (i := 14) (oi := ⟨_, _, _, _, _, _⟩) (v := ?_) rfl (by kernel_rfl) (by kernel_rfl) (by kernel_rfl) (fun _ _ _ h => h) (Or.inl ⟨by rfl, ?_⟩) (by assumption) ?_); rotate_left; focus ((intro w hSw); (try dsimp only at hSw); go_simp; all_goals (with_reducible rfl))) | (refine wpAnyH_take (i := 14) (oi := ⟨_, _, _, _, _, _⟩) (v := undef) rfl (by kernel_rfl) (by kernel_rfl) (by kernel_rfl) (fun _ _ _ h => h) (Or.inr ⟨by rfl, rfl⟩) (by assumption) ?_))
  try simp only [Act.put, List.setIfInBounds_toArray, List.set_cons_zero, List.set_cons_succ]
  (first | ((refine wpAnyH_take (i := 15) (oi := ⟨_, _, _, _, _, _⟩) (v := ?_) rfl (by kernel_rfl) (by kernel_rfl) (by kernel_rfl) (fun _ _ _ h => h) (Or.inl ⟨by rfl, ?_⟩) (by assumption) ?_); rotate_left; focus ((intro w hSw); (try dsimp only at hSw); go_simp; all_goals (with_reducible rfl))) | (refine wpAnyH_take (i := 15) (oi := ⟨_, _, _, _, _, _⟩) (v := undef) rfl (by kernel_rfl) (by kernel_rfl) (by kernel_rfl) (fun _ _ _ h => h) (Or.inr ⟨by rfl, rfl⟩) (by assumption) ?_))
  try simp only [Act.put, List.setIfInBounds_toArray, List.set_cons_zero, List.set_cons_succ]
  (first | ((refine wpAnyH_take (i := 16) (oi := ⟨_, _, _, _, _, _⟩) (v := ?_) rfl (by kernel_rfl) (by kernel_rfl) (by kernel_rfl) (fun _ _ _ h => h) (Or.inl ⟨by rfl, ?_⟩) (by assumption) ?_); rotate_left; focus ((intro w hSw); (try dsimp only at hSw); go_simp; all_goals (with_reducible rfl))) | (refine wpAnyH_take (i := 16) (oi := ⟨_, _, _, _, _, _⟩) (v := undef) rfl (by kernel_rfl) (by kernel_rfl) (by kernel_rfl) (fun _ _ _ h => h) (Or.inr ⟨by rfl, rfl⟩) (by assumption) ?_))
  try simp only [Act.put, List.setIfInBounds_toArray, List.set_cons_zero, List.set_cons_succ]
  refine wpAnyH_ready (rs := [4]) (by kernel_rfl) (by simp) ?_
  refine AllReadyH.cons (o := ⟨_, _, _, _, _, _⟩) rfl (fun K hK => ?_) ?_
  · go_simp
    (with_reducible refine (cloneR_any ra rc S.rq w.drew HRD.out hn).mono ?_)
    rintro e w1 ⟨v1, rfl, hown1, hb1⟩
    obtain ⟨xa, xc, rfl, -⟩ := hown1.at
    have HB1 := Lib.hid (HD.out.trans (hb1.mono HD.out.size))
    have HO1 := Lib.hid hown1
    have HA1 := Lib.hid (HAD.out.below hb1)
    have h11 : w1.cell? ⟨b, 0, none⟩ = some (.slice ra S.rq.length rc) ∧ w1.cell? ⟨b, 1, none⟩ = some (.bool S.run) ∧ w1.cell? ⟨b, 2, none⟩ = some (.int .i64 S.last) ∧ w1.cell? ⟨b, 3, none⟩ = some (.slice aa S.an.length ac) :=
      ⟨Below.kept hb1 (Nat.le_refl _) h0.1, Below.kept hb1 (Nat.le_refl _) h0.2.1, Below.kept hb1 (Nat.le_refl _) h0.2.2.1, Below.kept hb1 (Nat.le_refl _) h0.2.2.2⟩
    clear hown1 hb1
    go_wp2_with fail
    refine hK.out _ _ h11 (fun h1 => ?_)
    clear hK K
    try simp only [Act.put, List.setIfInBounds_toArray, List.set_cons_zero, List.set_cons_succ]
    refine wpAnyH_ready (rs := [17]) (by kernel_rfl) (by simp) ?_
    refine AllReadyH.cons (o := ⟨_, _, _, _, _, _⟩) rfl (fun K hK => ?_) ?_
    · go_simp
      (with_reducible refine (cloneA_any aa ac S.an w1 HA1.out ha).mono ?_)
      rintro e w2 ⟨v2, rfl, hown2, hb2⟩
      obtain ⟨ya, yc, rfl, -⟩ := hown2.at
      have HB2 := Lib.hid (HB1.out.trans (hb2.mono HB1.out.size))
      have HO2 := Lib.hid hown2
      have HO12 := Lib.hid (HO1.out.below hb2)
      have h12 : w2.cell? ⟨b, 0, none⟩ = some (.slice ra S.rq.length rc) ∧ w2.cell? ⟨b, 1, none⟩ = some (.bool S.run) ∧ w2.cell? ⟨b, 2, none⟩ = some (.int .i64 S.last) ∧ w2.cell? ⟨b, 3, none⟩ = some (.slice aa S.an.length ac) :=
        ⟨Below.kept hb2 (Nat.le_refl _) h11.1, Below.kept hb2 (Nat.le_refl _) h11.2.1, Below.kept hb2 (Nat.le_refl _) h11.2.2.1, Below.kept hb2 (Nat.le_refl _) h11.2.2.2⟩
      have HBB := Lib.hid hb2
      clear hown2 hb2
      go_wp2_with fail
      refine hK.out _ _ h12 (fun h2 => ?_)
      clear hK K
      try simp only [Act.put, List.setIfInBounds_toArray, List.set_cons_zero, List.set_cons_succ]
      (first | ((refine wpAnyH_take (i := 18) (oi := ⟨_, _, _, _, _, _⟩) (v := ?_) rfl (by kernel_rfl) (by kernel_rfl) (by kernel_rfl) (fun _ _ _ h => h) (Or.inl ⟨by rfl, ?_⟩) (by assumption) ?_); rotate_left; focus ((intro w hSw); (try dsimp only at hSw); go_simp; all_goals (with_reducible rfl))) | (refine wpAnyH_take (i := 18) (oi := ⟨_, _, _, _, _, _⟩) (v := undef) rfl (by kernel_rfl) (by kernel_rfl) (by kernel_rfl) (fun _ _ _ h => h) (Or.inr ⟨by rfl, rfl⟩) (by assumption) ?_))
      try simp only [Act.put, List.setIfInBounds_toArray, List.set_cons_zero, List.set_cons_succ]
      refine wpAnyH_ready (rs := [19]) (by kernel_rfl) (by simp) ?_
      refine AllReadyH.cons (o := ⟨_, _, _, _, _, _⟩) rfl (fun K hK => ?_) ?_
      · go_simp
        have hb3 : Below w2.heap.size w2 (w2.alloc (.cells #[.slice xa S.rq.length xc, .bool S.run, .int .i64 S.last, .slice ya S.an.length yc] 130)) := (Below.refl _ w2).alloc (Nat.le_refl _) _
        refine hK.out _ _ ⟨Below.kept hb3 (Nat.le_refl _) h12.1, Below.kept hb3 (Nat.le_refl _) h12.2.1, Below.kept hb3 (Nat.le_refl _) h12.2.2.1, Below.kept hb3 (Nat.le_refl _) h12.2.2.2⟩ (fun h3 => ?_)
        clear hK K
        try simp only [Act.put, List.setIfInBounds_toArray, List.set_cons_zero, List.set_cons_succ]
        (first | ((refine wpAnyH_take (i := 20) (oi := ⟨_, _, _, _, _, _⟩) (v := ?_) rfl (by kernel_rfl) (by kernel_rfl) (by kernel_rfl) (fun _ _ _ h => h) (Or.inl ⟨by rfl, ?_⟩) (by assumption) ?_); rotate_left; focus ((intro w hSw); (try dsimp only at hSw); go_simp; all_goals (with_reducible rfl))) | (refine wpAnyH_take (i := 20) (oi := ⟨_, _, _, _, _, _⟩) (v := undef) rfl (by kernel_rfl) (by kernel_rfl) (by kernel_rfl) (fun _ _ _ h => h) (Or.inr ⟨by rfl, rfl⟩) (by assumption) ?_))
        try simp only [Act.put, List.setIfInBounds_toArray, List.set_cons_zero, List.set_cons_succ]
        refine wpAnyH_done (by kernel_rfl) ?_ _
        clear h0 h11 h12 h1 h2 h3 hb3
        go_wp2_with fail
        go_ret
        have r1 := RecL.new (o := o) (l := 10 * k + 1) HO1.out
        have s1 : Step (fun _ => False) w o w1 (newLab w.drew o (10 * k + 1)) := Step.below HB1.out fun x hx => newLab_old _ _ _ hx
        obtain ⟨o1, ho1⟩ : ∃ x, newLab w.drew o (10 * k + 1) = x := ⟨_, rfl⟩
        rw [ho1] at r1 s1
        have r2 := RecL.new (o := o1) (l := 10 * k + 2) HO2.out
        have s2 : Step (fun _ => False) w1 o1 w2 (newLab w1 o1 (10 * k + 2)) := Step.below HBB.out fun x hx => newLab_old _ _ _ hx
        obtain ⟨o2, ho2⟩ : ∃ x, newLab w1 o1 (10 * k + 2) = x := ⟨_, rfl⟩
        rw [ho2] at r2 s2
        have r12 := r1.step s2 (fun h => h)
        have s3 := Step.newBlk (w := w2) (o := o2) (fun _ => False) (.cells #[.slice xa S.rq.length xc, .bool S.run, .int .i64 S.last, .slice ya S.an.length yc] 130) (10 * k)
        exact ⟨_, rfl, _, (s1.trans s2).trans s3, _, _, ⟨130, heap_alloc_new _ _, newLab_new _ _ _ (Nat.le_refl _)⟩, r12.step s3 (fun h => h), r2.step s3 (fun h => h)⟩
      exact AllReadyH.nil
    exact AllReadyH.nil
  exact AllReadyH.nil
end Go.Proofs.Ytaonhmdifinadaa
