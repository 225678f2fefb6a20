/-
  Lists of messages and of packets, compared: SameLists, same; of.
-/
import Derived.Test.YtmonpnikdheokaaRunB
import Derived.Test.YtmonpnikdheokaaChnX
import Derived.Test.YtmonpnikdheokaaChanE
import Derived.StillTailTactics
namespace Go.Proofs.Ytmonpnikdheokaa
open Go Go.Proofs
open Go.RowKit
set_option linter.unusedVariables false
set_option linter.unusedSimpArgs false

set_option maxRecDepth 100000 in
set_option maxHeartbeats 4000000 in
theorem samel_any (a1 a2 : Option Addr) (c1 c2 l1 l2 : Nat) (ms : List (List UInt8)) (w : World) (o : Nat → Nat) (h1 : MRow w o l1 (.slice a1 ms.length c1) ms) (h2 : MRow w o l2 (.slice a2 ms.length c2) ms) :
    Calls Try.prog 19 #[.slice a1 ms.length c1, .slice a2 ms.length c2] w fun e w' => e = .returned (.bool true) ∧ Below w.heap.size w w' := by
  obtain ⟨n, hn⟩ : ∃ n, ms.length = n := ⟨_, rfl⟩
  rw [hn] at h1 h2 ⊢
  have H1 := Lib.hid h1
  have H2 := Lib.hid h2
  have HN := Lib.hid hn
  have hmx : n ≤ 9223372036854775807 := by
    obtain ⟨a', c', he, h3, h4, _⟩ := h1.cells
    rw [hn] at h3
    omega
  clear h1 h2 hn
  go_enter Try.func19, Try.ntmps19
  go_wp2_with fail
  go_loopw [5] (fun iv wr => ∃ k : Nat, k ≤ n ∧ iv = .int .i64 k ∧ Hid (Below w.heap.size w wr)) (fun iv _ => n - (intOf iv).toNat)
  case atStart => exact ⟨0, by omega, rfl, Below.refl _ _⟩
  case round =>
    obtain ⟨k, hk, rfl, HB⟩ := hrel
    by_cases hkn : k < n
    · have hs : Step (fun _ => False) w o wr o := Step.same HB.out
      have hmk : ms[k]? = some (ms[k]'(by rw [HN.out]; exact hkn)) := List.getElem?_eq_getElem _
      obtain ⟨g1, ma1, mc1, rfl, -, hz1, e1, d1⟩ := (H1.out.step hs (fun h => h) (fun h => h)).at hmk
      obtain ⟨g2, ma2, mc2, rfl, -, hz2, e2, d2⟩ := (H2.out.step hs (fun h => h) (fun h => h)).at hmk
      obtain ⟨m, hm⟩ : ∃ m, ms[k]'(by rw [HN.out]; exact hkn) = m := ⟨_, rfl⟩
      rw [hm] at e1 e2 d1 d2
      have z1 : (k : Int) < (n : Int) := by omega
      have z2 : (0 : Int) ≤ (k : Int) := by omega
      have z3 : (n : Int) ≤ (c1 : Int) := by omega
      have z4 : (n : Int) ≤ (c2 : Int) := by omega
      have D1 := Lib.hid d1
      have D2 := Lib.hid d2
      clear hs hmk hm d1 d2
      go_upto_region 6 with fail
      go_still_tail 8, (by kernel_rfl)
      change wpList _ _ _ _ _ wr.drew
      have ks := sameBytes_any ma1 ma2 mc1 mc2 m m wr.drew (D1.out.1.below (Below.drew (Below.refl _ wr))) (D2.out.1.below (Below.drew (Below.refl _ wr)))
      rw [decide_eq_true rfl] at ks
      have KS := Lib.hid ks
      clear ks
      go_wp2_with fail
      refine KS.out.mono ?_
      rintro e w2 ⟨rfl, hb⟩
      have HB2 := Lib.hid (Below.step (Below.drew HB.out) hb)
      clear hb
      go_wp2_with fail
      go_roundw
      case rel => exact ⟨k + 1, by omega, by go_num, HB2.out⟩
      case measure => simp [intOf]; omega
    · obtain rfl : k = n := by omega
      go_wp2_with fail
      go_ret
      exact ⟨rfl, HB.out⟩

set_option maxRecDepth 100000 in
theorem ofP_any (q k : Int) (a : Option Addr) (n c : Nat) (w : World) :
    Calls Try.prog 21 #[.agg #[.int .i64 q, .int .i64 k, .slice a n c]] w fun e w' => e = .returned (.agg #[.int .i64 q, .int .i64 k, .slice a n c]) ∧ Below w.heap.size w w' := by
  go_enter Try.func21, Try.ntmps21
  go_wp2
  have hz := heap_alloc_new (w.alloc (.cells #[.int .i64 q, .int .i64 k, .slice a n c] 40)) (.cells #[.int .i64 q, .int .i64 k, .slice a n c] 44)
  rw [World.size_alloc] at hz
  exact bodyPost_ret (v := .agg #[.int .i64 q, .int .i64 k, .slice a n c]) (results_cell_row rfl _ _ _ 44 _ _ _ rfl hz rfl rfl rfl) rfl ⟨rfl, ((Below.refl _ w).alloc (Nat.le_refl _) _).alloc (by rw [World.size_alloc]; omega) _⟩

set_option maxRecDepth 100000 in
set_option maxHeartbeats 4000000 in
theorem samep_any (a1 a2 : Option Addr) (c1 c2 l1 l2 : Nat) (f : Nat → Nat) (qs : List Pkt) (w : World) (o : Nat → Nat) (h1 : PRow w o f l1 (.slice a1 qs.length c1) qs) (h2 : RPRow w o l2 (.slice a2 qs.length c2) qs) :
    Calls Try.prog 18 #[.slice a1 qs.length c1, .slice a2 qs.length c2] w fun e w' => e = .returned (.bool true) ∧ Below w.heap.size w w' := by
  obtain ⟨n, hn⟩ : ∃ n, qs.length = n := ⟨_, rfl⟩
  rw [hn] at h1 h2 ⊢
  have H1 := Lib.hid h1
  have H2 := Lib.hid h2
  have HN := Lib.hid hn
  have hmx : n ≤ 9223372036854775807 := by
    obtain ⟨a', c', he, h3, h4, _⟩ := h1.cells
    rw [hn] at h3
    omega
  clear h1 h2 hn
  go_enter Try.func18, Try.ntmps18
  go_wp2_with fail
  go_loopw [5] (fun iv wr => ∃ k : Nat, k ≤ n ∧ iv = .int .i64 k ∧ Hid (Below w.heap.size w wr)) (fun iv _ => n - (intOf iv).toNat)
  case atStart => exact ⟨0, by omega, rfl, Below.refl _ _⟩
  case round =>
    obtain ⟨k, hk, rfl, HB⟩ := hrel
    by_cases hkn : k < n
    · have hs : Step (fun _ => False) w o wr o := Step.same HB.out
      have hmk : qs[k]? = some (qs[k]'(by rw [HN.out]; exact hkn)) := List.getElem?_eq_getElem _
      obtain ⟨g1, ma1, mc1, rfl, -, hz1, e0, e1, e2, d1⟩ := (H1.out.step hs (fun h => h) (fun _ _ h => h)).at hmk
      obtain ⟨g2, ma2, mc2, rfl, -, hz2, r0, r1, r2, d2⟩ := (H2.out.step hs (fun h => h) (fun h => h)).at hmk
      obtain ⟨m, hm⟩ : ∃ m, qs[k]'(by rw [HN.out]; exact hkn) = m := ⟨_, rfl⟩
      rw [hm] at e0 e1 e2 r0 r1 r2 d1 d2
      obtain ⟨mq, mk, mb⟩ := m
      simp only at e0 e1 e2 r0 r1 r2 d1 d2
      have z1 : (k : Int) < (n : Int) := by omega
      have z2 : (0 : Int) ≤ (k : Int) := by omega
      have D1 := Lib.hid d1
      have D2 := Lib.hid d2
      have HSA : Hid (∀ W, Below wr.heap.size wr W → Below wr.heap.size wr W ∧ W.cell? ⟨g1, k * 3, none⟩ = some (.int .i64 mq) ∧ W.cell? ⟨g1, k * 3 + 1, none⟩ = some (.int .i64 mk) ∧ W.cell? ⟨g1, k * 3 + 2, none⟩ = some (.slice ma1 mb.length mc1) ∧ W.cell? ⟨g2, k * 3, none⟩ = some (.int .i64 mq) ∧ W.cell? ⟨g2, k * 3 + 1, none⟩ = some (.int .i64 mk) ∧ W.cell? ⟨g2, k * 3 + 2, none⟩ = some (.slice ma2 mb.length mc2)) := by
        intro W hb
        exact ⟨hb, Below.kept hb (Nat.le_refl _) e0, Below.kept hb (Nat.le_refl _) e1, Below.kept hb (Nat.le_refl _) e2, Below.kept hb (Nat.le_refl _) r0, Below.kept hb (Nat.le_refl _) r1, Below.kept hb (Nat.le_refl _) r2⟩
      have ksm := fun W h1 h2 => sameP_any mq mk mq mk mb mb ma1 ma2 mc1 mc2 W h1 h2
      rw [decide_eq_true rfl, decide_eq_true rfl, decide_eq_true rfl] at ksm
      have KSM := Lib.hid ksm
      clear hs hmk hm d1 d2 ksm e0 e1 e2 r0 r1 r2
      go_upto_region 6 with fail
      refine wp_region_held_drew (S := fun W => Below wr.heap.size wr W ∧ W.cell? ⟨g1, k * 3, none⟩ = some (.int .i64 mq) ∧ W.cell? ⟨g1, k * 3 + 1, none⟩ = some (.int .i64 mk) ∧ W.cell? ⟨g1, k * 3 + 2, none⟩ = some (.slice ma1 mb.length mc1) ∧ W.cell? ⟨g2, k * 3, none⟩ = some (.int .i64 mq) ∧ W.cell? ⟨g2, k * 3 + 1, none⟩ = some (.int .i64 mk) ∧ W.cell? ⟨g2, k * 3 + 2, none⟩ = some (.slice ma2 mb.length mc2)) (by kernel_rfl) (HSA.out _ (Below.drew (Below.refl _ wr))) (fun h0 => ?_)
      (first | ((refine wpAnyH_take (i := 0) (oi := ⟨_, _, _, _, _, _⟩) (v := ?_) rfl (by kernel_rfl) (by kernel_rfl) (by kernel_rfl) (fun _ _ _ h => h) (Or.inl ⟨by rfl, ?_⟩) (by assumption) ?_); rotate_left; focus ((intro w hSw); (try dsimp only at hSw); go_simp; all_goals (with_reducible rfl))) | (refine wpAnyH_take (i := 0) (oi := ⟨_, _, _, _, _, _⟩) (v := undef) rfl (by kernel_rfl) (by kernel_rfl) (by kernel_rfl) (fun _ _ _ h => h) (Or.inr ⟨by rfl, rfl⟩) (by assumption) ?_))
      try simp only [Act.put, List.setIfInBounds_toArray, List.set_cons_zero, List.set_cons_succ]
      (first | ((refine wpAnyH_take (i := 1) (oi := ⟨_, _, _, _, _, _⟩) (v := ?_) rfl (by kernel_rfl) (by kernel_rfl) (by kernel_rfl) (fun _ _ _ h => h) (Or.inl ⟨by rfl, ?_⟩) (by assumption) ?_); rotate_left; focus ((intro w hSw); (try dsimp only at hSw); go_simp; all_goals (with_reducible rfl))) | (refine wpAnyH_take (i := 1) (oi := ⟨_, _, _, _, _, _⟩) (v := undef) rfl (by kernel_rfl) (by kernel_rfl) (by kernel_rfl) (fun _ _ _ h => h) (Or.inr ⟨by rfl, rfl⟩) (by assumption) ?_))
      try simp only [Act.put, List.setIfInBounds_toArray, List.set_cons_zero, List.set_cons_succ]
      (first | ((refine wpAnyH_take (i := 2) (oi := ⟨_, _, _, _, _, _⟩) (v := ?_) rfl (by kernel_rfl) (by kernel_rfl) (by kernel_rfl) (fun _ _ _ h => h) (Or.inl ⟨by rfl, ?_⟩) (by assumption) ?_); rotate_left; focus ((intro w hSw); (try dsimp only at hSw); go_simp; all_goals (with_reducible rfl))) | (refine wpAnyH_take (i := 2) (oi := ⟨_, _, _, _, _, _⟩) (v := undef) rfl (by kernel_rfl) (by kernel_rfl) (by kernel_rfl) (fun _ _ _ h => h) (Or.inr ⟨by rfl, rfl⟩) (by assumption) ?_))
      try simp only [Act.put, List.setIfInBounds_toArray, List.set_cons_zero, List.set_cons_succ]
      (first | ((refine wpAnyH_take (i := 3) (oi := ⟨_, _, _, _, _, _⟩) (v := ?_) rfl (by kernel_rfl) (by kernel_rfl) (by kernel_rfl) (fun _ _ _ h => h) (Or.inl ⟨by rfl, ?_⟩) (by assumption) ?_); rotate_left; focus ((intro w hSw); (try dsimp only at hSw); go_simp; all_goals (with_reducible rfl))) | (refine wpAnyH_take (i := 3) (oi := ⟨_, _, _, _, _, _⟩) (v := undef) rfl (by kernel_rfl) (by kernel_rfl) (by kernel_rfl) (fun _ _ _ h => h) (Or.inr ⟨by rfl, rfl⟩) (by assumption) ?_))
      try simp only [Act.put, List.setIfInBounds_toArray, List.set_cons_zero, List.set_cons_succ]
      (first | ((refine wpAnyH_take (i := 5) (oi := ⟨_, _, _, _, _, _⟩) (v := ?_) rfl (by kernel_rfl) (by kernel_rfl) (by kernel_rfl) (fun _ _ _ h => h) (Or.inl ⟨by rfl, ?_⟩) (by assumption) ?_); rotate_left; focus ((intro w hSw); (try dsimp only at hSw); go_simp; all_goals (with_reducible rfl))) | (refine wpAnyH_take (i := 5) (oi := ⟨_, _, _, _, _, _⟩) (v := undef) rfl (by kernel_rfl) (by kernel_rfl) (by kernel_rfl) (fun _ _ _ h => h) (Or.inr ⟨by rfl, rfl⟩) (by assumption) ?_))
      try simp only [Act.put, List.setIfInBounds_toArray, List.set_cons_zero, List.set_cons_succ]
      (first | ((refine wpAnyH_take (i := 6) (oi := ⟨_, _, _, _, _, _⟩) (v := ?_) rfl (by kernel_rfl) (by kernel_rfl) (by kernel_rfl) (fun _ _ _ h => h) (Or.inl ⟨by rfl, ?_⟩) (by assumption) ?_); rotate_left; focus ((intro w hSw); (try dsimp only at hSw); go_simp; all_goals (with_reducible rfl))) | (refine wpAnyH_take (i := 6) (oi := ⟨_, _, _, _, _, _⟩) (v := undef) rfl (by kernel_rfl) (by kernel_rfl) (by kernel_rfl) (fun _ _ _ h => h) (Or.inr ⟨by rfl, rfl⟩) (by assumption) ?_))
      try simp only [Act.put, List.setIfInBounds_toArray, List.set_cons_zero, List.set_cons_succ]
      (first | ((refine wpAnyH_take (i := 7) (oi := ⟨_, _, _, _, _, _⟩) (v := ?_) rfl (by kernel_rfl) (by kernel_rfl) (by kernel_rfl) (fun _ _ _ h => h) (Or.inl ⟨by rfl, ?_⟩) (by assumption) ?_); rotate_left; focus ((intro w hSw); (try dsimp only at hSw); go_simp; all_goals (with_reducible rfl))) | (refine wpAnyH_take (i := 7) (oi := ⟨_, _, _, _, _, _⟩) (v := undef) rfl (by kernel_rfl) (by kernel_rfl) (by kernel_rfl) (fun _ _ _ h => h) (Or.inr ⟨by rfl, rfl⟩) (by assumption) ?_))
      try simp only [Act.put, List.setIfInBounds_toArray, List.set_cons_zero, List.set_cons_succ]
      (first | ((refine wpAnyH_take (i := 8) (oi := ⟨_, _, _, _, _, _⟩) (v := ?_) rfl (by kernel_rfl) (by kernel_rfl) (by kernel_rfl) (fun _ _ _ h => h) (Or.inl ⟨by rfl, ?_⟩) (by assumption) ?_); rotate_left; focus ((intro w hSw); (try dsimp only at hSw); go_simp; all_goals (with_reducible rfl))) | (refine wpAnyH_take (i := 8) (oi := ⟨_, _, _, _, _, _⟩) (v := undef) rfl (by kernel_rfl) (by kernel_rfl) (by kernel_rfl) (fun _ _ _ h => h) (Or.inr ⟨by rfl, rfl⟩) (by assumption) ?_))
      try simp only [Act.put, List.setIfInBounds_toArray, List.set_cons_zero, List.set_cons_succ]
      refine wpAnyH_ready (rs := [4]) (by kernel_rfl) (by simp) ?_
      refine AllReadyH.cons (o := ⟨_, _, _, _, _, _⟩) rfl (fun K hK => ?_) ?_
      · go_simp
        (with_reducible refine (plainP_any mq mk ma1 mb.length mc1 _).mono ?_)
        rintro e W1 ⟨rfl, hbb⟩
        go_wp2_with fail
        refine hK.out _ _ (HSA.out _ (Below.step h0.1 hbb)) (fun h1 => ?_)
        clear hK K
        try simp only [Act.put, List.setIfInBounds_toArray, List.set_cons_zero, List.set_cons_succ]
        refine wpAnyH_ready (rs := [9]) (by kernel_rfl) (by simp) ?_
        refine AllReadyH.cons (o := ⟨_, _, _, _, _, _⟩) rfl (fun K hK => ?_) ?_
        · go_simp
          (with_reducible refine (KSM.out _ (D1.out.slice.below h1.1) (D2.out.slice.below h1.1)).mono ?_)
          rintro e W2 ⟨rfl, hbc⟩
          go_wp2_with fail
          refine hK.out _ _ (HSA.out _ (Below.step h1.1 hbc)) (fun h2 => ?_)
          clear hK K
          try simp only [Act.put, List.setIfInBounds_toArray, List.set_cons_zero, List.set_cons_succ]
          (first | ((refine wpAnyH_take (i := 10) (oi := ⟨_, _, _, _, _, _⟩) (v := ?_) rfl (by kernel_rfl) (by kernel_rfl) (by kernel_rfl) (fun _ _ _ h => h) (Or.inl ⟨by rfl, ?_⟩) (by assumption) ?_); rotate_left; focus ((intro w hSw); (try dsimp only at hSw); go_simp; all_goals (with_reducible rfl))) | (refine wpAnyH_take (i := 10) (oi := ⟨_, _, _, _, _, _⟩) (v := undef) rfl (by kernel_rfl) (by kernel_rfl) (by kernel_rfl) (fun _ _ _ h => h) (Or.inr ⟨by rfl, rfl⟩) (by assumption) ?_))
          try simp only [Act.put, List.setIfInBounds_toArray, List.set_cons_zero, List.set_cons_succ]
          refine wpAnyH_done (by kernel_rfl) ?_ _
          have HN1 := Lib.hid (Below.step HB.out h2.1)
          clear h0 h1 h2 hbb hbc
          go_wp2_with fail
          go_roundw
          case rel => exact ⟨k + 1, by omega, by go_num, HN1.out⟩
          case measure => simp [intOf]; omega
        exact AllReadyH.nil
      exact AllReadyH.nil
    · obtain rfl : k = n := by omega
      go_wp2_with fail
      go_ret
      exact ⟨rfl, HB.out⟩
end Go.Proofs.Ytmonpnikdheokaa
