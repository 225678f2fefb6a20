/-
  The contract of In: a packet that is taken.
-/
import Derived.Test.YtaonhmdifinadaaChanD
import Derived.Deep.DeepCutAuto
import Derived.Deep.CutBlock
import Derived.Outline
namespace Go.Proofs.Ytaonhmdifinadaa
open Go Go.Proofs
open Go.RowKit
set_option linter.unusedVariables false
set_option linter.unusedSimpArgs false

/-- A slice of messages that object l owns. -/
def MRow (w : World) (o : Nat → Nat) (l : Nat) (v : Value) (ms : List (List UInt8)) : Prop := ∃ vs, RowL w o l 78 1 v vs.length vs ∧ Msgs w o vs ms
theorem MRow.step {L : Nat → Prop} {w w' : World} {o o' : Nat → Nat} {l : Nat} {v : Value} {ms : List (List UInt8)} (h : MRow w o l v ms) (hs : Step L w o w' o') (hl : ¬ L l) (h0 : ¬ L 0) : MRow w' o' l v ms := by
  obtain ⟨vs, h1, h2⟩ := h
  exact ⟨vs, h1.step hs hl, h2.step hs h0⟩
theorem MRow.nil (w : World) (o : Nat → Nat) (l : Nat) : MRow w o l (.slice none 0 0) [] := ⟨[], RowL.nil _ _ _ _ _, Msgs.nil _ _⟩

theorem held_isSome {w : World} {o : Nat → Nat} {es : List (Int × Value)} {hs : List (Int × List UInt8)} (h : HeldAt w o es hs) (j : Int) : (look es j).isSome = (look hs j).isSome := by
  rcases h.look j with ⟨h1, h2⟩ | ⟨v, m, h1, h2, _⟩ <;> rw [h1, h2] <;> rfl
theorem drainE_none {E : EndS} (h : look E.held (E.got + 1) = none) : drainE E = E ∧ drainO E = [] := by
  unfold drainE drainO
  rw [drain_none h]
  exact ⟨rfl, rfl⟩
theorem drainE_some {E : EndS} {m : List UInt8} (h : look E.held (E.got + 1) = some m) :
    drainE E = drainE { E with got := E.got + 1, held := drp E.held (E.got + 1) } ∧ drainO E = m :: drainO { E with got := E.got + 1, held := drp E.held (E.got + 1) } := by
  unfold drainE drainO
  rw [drain_some h]
  exact ⟨rfl, rfl⟩

theorem delete_int (g n cap k l : Nat) (xs : List Value) (w : World) (o : Nat → Nat) (kk : Int) (hkk : kk = k) (hrow : RowL w o l 78 1 (.slice (some ⟨g, 0, none⟩) n cap) n xs) (hk0 : 0 < k) (hk : k ≤ n) (h1 : ∀ v ∈ xs, v.oneCell' = true) :
    Calls Try.prog 95 #[.slice (some ⟨g, 0, none⟩) n cap, .int .i64 0, .int .i64 kk] w fun e w' => e = .returned (.slice (some ⟨g, 0, none⟩) (n - k : Nat) cap) ∧ RowL w' o l 78 1 (.slice (some ⟨g, 0, none⟩) (n - k) cap) (n - k) (xs.drop k) ∧ Step (· = l) w o w' o := by
  subst hkk
  exact delete_any g n cap k l xs w o hrow hk0 hk h1

set_option maxRecDepth 100000 in
set_option maxHeartbeats 4000000 in
theorem in_yes (i b : Nat) (E : EndS) (p : Pkt) (a : Option Addr) (c lm lr : Nat) (w : World) (o : Nat → Nat) (hi : 1 ≤ i) (hE : EndAt w o i b E) (hm : Dat w o lm a c (p.b.map byteV)) (hlm : ¬ Own i lm) (hlr : ¬ Own i lr) (hlr0 : lr ≠ 0) (hlrm : lr ≠ lm)
    (hlw : E.waiting.length ≤ 1000000) (hac : E.acked ≤ 1000000000) (hgo : E.got ≤ 1000000000) (hhl : E.held.length ≤ 1000000) (hr : refuses E p = false) :
    Calls Try.prog 58 #[.pointer (some ⟨b, 0, none⟩), .agg #[.int .i64 p.seq, .int .i64 p.ack, .slice a p.b.length c]] w fun e w' =>
      ∃ v, e = .returned v ∧ ∃ o', Step (fun x => Own i x ∨ x = lr) w o w' o' ∧ EndAt w' o' i b (inE E p) ∧ MRow w' o' lr v (inO E p) := by
  have hE0 := hE
  have hE1 : inE E p = if p.seq = 0 then ackE E p.ack else drainE (holdE (ackE E p.ack) p.seq p.b) := by unfold inE; rw [hr]; rfl
  have hE2 : inO E p = if p.seq = 0 then [] else drainO (holdE (ackE E p.ack) p.seq p.b) := by unfold inO; rw [hr]; rfl
  rw [hE1, hE2]
  clear hE1 hE2
  obtain ⟨q, k, m⟩ := p
  simp only at hm ⊢
  obtain ⟨wv, vs, mb, es, h1, h2, h3, h5, h6⟩ := hE
  obtain ⟨wa, wc, rfl⟩ := h2.form
  have hvl := h3.1
  have hlv : vs.length ≤ 1000000 := by omega
  have HVL := Lib.hid hvl
  have hml := hm.slice.len
  simp only [List.length_map] at hml
  have hlt := h1.lt
  have hv : pvalid ⟨q, k, m⟩ = true := by
    unfold refuses at hr
    cases h : pvalid ⟨q, k, m⟩ with
    | false => rw [h] at hr; simp at hr
    | true => rfl
  have hr2 : k ≤ (E.acked : Int) + vs.length ∧ q ≤ (E.got : Int) + 16 := by
    unfold refuses at hr
    simp only [hv] at hr
    simp at hr
    omega
  have hval : 0 ≤ q ∧ 0 ≤ k ∧ m.length ≤ 65536 := by
    unfold pvalid at hv
    simp at hv
    omega
  obtain ⟨hr2, hr3⟩ := hr2
  obtain ⟨hq0, hk0, hm6⟩ := hval
  clear hvl
  obtain ⟨w1, hw1⟩ : ∃ w1, w1 = w.alloc (.cells #[.int .i64 q, .int .i64 k, .slice a m.length c] 114) := ⟨_, rfl⟩
  have hb1 : Below w.heap.size w w1 := by rw [hw1]; exact (Below.refl _ w).alloc (Nat.le_refl _) _
  have hbox : Blk w1 (newLab w o 0) 0 w.heap.size [.int .i64 q, .int .i64 k, .slice a m.length c] := ⟨114, by rw [hw1]; exact heap_alloc_new w _, newLab_new _ _ _ (Nat.le_refl _)⟩
  have hs01 : Step (fun _ => False) w o w1 (newLab w o 0) := Step.below hb1 fun k hk => newLab_old _ _ _ hk
  have h11 := h1.step hs01 (fun h => h)
  have hS1 : InS w1 w1 b w.heap.size (.slice wa vs.length wc) E.acked E.got q k (.slice a m.length c) :=
    ⟨Below.refl _ _, h11.cell rfl, h11.cell rfl, h11.cell rfl, hbox.cell rfl, hbox.cell rfl, hbox.cell rfl⟩
  have kv : ∀ W, InS w1 W b w.heap.size (.slice wa vs.length wc) E.acked E.got q k (.slice a m.length c) →
      Calls Try.prog 94 #[.agg #[.int .i64 q, .int .i64 k, .slice a m.length c]] W fun e w' => e = .returned (.bool true) ∧ InS w1 w' b w.heap.size (.slice wa vs.length wc) E.acked E.got q k (.slice a m.length c) := by
    intro W hW
    refine (valid_any q k a c m W hml).mono ?_
    rintro e w' ⟨rfl, hb⟩
    exact ⟨by rw [hv], hS1.below (Below.step hW.1 hb)⟩
  have hSd : InS w1 w1.drew b w.heap.size (.slice wa vs.length wc) E.acked E.got q k (.slice a m.length c) := hS1.below (Below.drew (Below.refl _ _))
  have KV := Lib.hid kv
  have HSD := Lib.hid hSd
  have HS01 := Lib.hid hs01
  have HBX := Lib.hid hbox
  have HW1 := Lib.hid hw1
  have HM := Lib.hid hm
  have H1 := Lib.hid h1
  have H2 := Lib.hid h2
  have H3 := Lib.hid h3
  have H5 := Lib.hid h5
  have H6 := Lib.hid h6
  clear kv hSd hS1 hb1 hw1 h1 h2 h3 h5 h6 hm h11 hbox hs01 hv hr
  have d1 : decide ((E.acked : Int) + vs.length < k) = false := by simpa using hr2
  have d2 : decide ((E.got : Int) + 16 < q) = false := by simpa using hr3
  have wr1 := IntWalk.i64_in ((E.acked : Int) + vs.length) (by omega)
  have wr2 := IntWalk.i64_in ((E.got : Int) + 16) (by omega)
  go_enter Try.func58, Try.ntmps58
  go_wp2_with fail
  rw [← HW1.out]
  refine wp_region_held_drew (S := fun W => Below w1.heap.size w1 W ∧ W.cell? ⟨b, 1, none⟩ = some (.slice wa vs.length wc) ∧ W.cell? ⟨b, 2, none⟩ = some (.int .i64 E.acked) ∧ W.cell? ⟨b, 3, none⟩ = some (.int .i64 E.got) ∧
      W.cell? ⟨w.heap.size, 0, none⟩ = some (.int .i64 q) ∧ W.cell? ⟨w.heap.size, 1, none⟩ = some (.int .i64 k) ∧ W.cell? ⟨w.heap.size, 2, none⟩ = some (.slice a m.length c)) (by kernel_rfl) HSD.out (fun hHeld => ?_)
  (first | ((refine wpAnyH_take (i := 0) (oi := ⟨_, _, _, _, _, _⟩) (v := ?_) rfl (by kernel_rfl) (by kernel_rfl) (by kernel_rfl) (fun _ _ _ h => h) (Or.inl ⟨by rfl, ?_⟩) (by assumption) ?_); rotate_left; focus ((intro w hSw); (try dsimp only at hSw); go_simp; all_goals (with_reducible rfl))) | (refine wpAnyH_take (i := 0) (oi := ⟨_, _, _, _, _, _⟩) (v := undef) rfl (by kernel_rfl) (by kernel_rfl) (by kernel_rfl) (fun _ _ _ h => h) (Or.inr ⟨by rfl, rfl⟩) (by assumption) ?_))
  try simp only [Act.put, List.setIfInBounds_toArray, List.set_cons_zero, List.set_cons_succ]
  refine wpAnyH_ready (rs := [1]) (by kernel_rfl) (by simp) (AllReadyH.cons (o := ⟨_, _, _, _, _, _⟩) rfl (fun K hK => ?_) AllReadyH.nil)
  go_simp
  go_at_call 94
  (with_reducible refine (KV.out _ (by assumption)).mono ?_)
  rintro e w2 ⟨rfl, hbb⟩
  clear hHeld
  refine hK.out _ _ hbb (fun hHeld => ?_)
  (first | ((refine wpAnyH_take (i := 2) (oi := ⟨_, _, _, _, _, _⟩) (v := ?_) rfl (by kernel_rfl) (by kernel_rfl) (by kernel_rfl) (fun _ _ _ h => h) (Or.inl ⟨by rfl, ?_⟩) (by assumption) ?_); rotate_left; focus ((intro w hSw); (try dsimp only at hSw); go_simp; all_goals (with_reducible rfl))) | (refine wpAnyH_take (i := 2) (oi := ⟨_, _, _, _, _, _⟩) (v := undef) rfl (by kernel_rfl) (by kernel_rfl) (by kernel_rfl) (fun _ _ _ h => h) (Or.inr ⟨by rfl, rfl⟩) (by assumption) ?_))
  try simp only [Act.put, List.setIfInBounds_toArray, List.set_cons_zero, List.set_cons_succ]
  (first | ((refine wpAnyH_take (i := 3) (oi := ⟨_, _, _, _, _, _⟩) (v := ?_) rfl (by kernel_rfl) (by kernel_rfl) (by kernel_rfl) (fun _ _ _ h => h) (Or.inl ⟨by rfl, ?_⟩) (by assumption) ?_); rotate_left; focus ((intro w hSw); (try dsimp only at hSw); go_simp; all_goals (with_reducible rfl))) | (refine wpAnyH_take (i := 3) (oi := ⟨_, _, _, _, _, _⟩) (v := undef) rfl (by kernel_rfl) (by kernel_rfl) (by kernel_rfl) (fun _ _ _ h => h) (Or.inr ⟨by rfl, rfl⟩) (by assumption) ?_))
  try simp only [Act.put, List.setIfInBounds_toArray, List.set_cons_zero, List.set_cons_succ]
  (first | ((refine wpAnyH_take (i := 4) (oi := ⟨_, _, _, _, _, _⟩) (v := ?_) rfl (by kernel_rfl) (by kernel_rfl) (by kernel_rfl) (fun _ _ _ h => h) (Or.inl ⟨by rfl, ?_⟩) (by assumption) ?_); rotate_left; focus ((intro w hSw); (try dsimp only at hSw); go_simp; all_goals (with_reducible rfl))) | (refine wpAnyH_take (i := 4) (oi := ⟨_, _, _, _, _, _⟩) (v := undef) rfl (by kernel_rfl) (by kernel_rfl) (by kernel_rfl) (fun _ _ _ h => h) (Or.inr ⟨by rfl, rfl⟩) (by assumption) ?_))
  try simp only [Act.put, List.setIfInBounds_toArray, List.set_cons_zero, List.set_cons_succ]
  (first | ((refine wpAnyH_take (i := 5) (oi := ⟨_, _, _, _, _, _⟩) (v := ?_) rfl (by kernel_rfl) (by kernel_rfl) (by kernel_rfl) (fun _ _ _ h => h) (Or.inl ⟨by rfl, ?_⟩) (by assumption) ?_); rotate_left; focus ((intro w hSw); (try dsimp only at hSw); go_simp; all_goals (with_reducible rfl))) | (refine wpAnyH_take (i := 5) (oi := ⟨_, _, _, _, _, _⟩) (v := undef) rfl (by kernel_rfl) (by kernel_rfl) (by kernel_rfl) (fun _ _ _ h => h) (Or.inr ⟨by rfl, rfl⟩) (by assumption) ?_))
  try simp only [Act.put, List.setIfInBounds_toArray, List.set_cons_zero, List.set_cons_succ]
  (first | ((refine wpAnyH_take (i := 6) (oi := ⟨_, _, _, _, _, _⟩) (v := ?_) rfl (by kernel_rfl) (by kernel_rfl) (by kernel_rfl) (fun _ _ _ h => h) (Or.inl ⟨by rfl, ?_⟩) (by assumption) ?_); rotate_left; focus ((intro w hSw); (try dsimp only at hSw); go_simp; all_goals (with_reducible rfl))) | (refine wpAnyH_take (i := 6) (oi := ⟨_, _, _, _, _, _⟩) (v := undef) rfl (by kernel_rfl) (by kernel_rfl) (by kernel_rfl) (fun _ _ _ h => h) (Or.inr ⟨by rfl, rfl⟩) (by assumption) ?_))
  try simp only [Act.put, List.setIfInBounds_toArray, List.set_cons_zero, List.set_cons_succ]
  (first | ((refine wpAnyH_take (i := 7) (oi := ⟨_, _, _, _, _, _⟩) (v := ?_) rfl (by kernel_rfl) (by kernel_rfl) (by kernel_rfl) (fun _ _ _ h => h) (Or.inl ⟨by rfl, ?_⟩) (by assumption) ?_); rotate_left; focus ((intro w hSw); (try dsimp only at hSw); go_simp; all_goals (with_reducible rfl))) | (refine wpAnyH_take (i := 7) (oi := ⟨_, _, _, _, _, _⟩) (v := undef) rfl (by kernel_rfl) (by kernel_rfl) (by kernel_rfl) (fun _ _ _ h => h) (Or.inr ⟨by rfl, rfl⟩) (by assumption) ?_))
  try simp only [Act.put, List.setIfInBounds_toArray, List.set_cons_zero, List.set_cons_succ]
  (first | ((refine wpAnyH_take (i := 8) (oi := ⟨_, _, _, _, _, _⟩) (v := ?_) rfl (by kernel_rfl) (by kernel_rfl) (by kernel_rfl) (fun _ _ _ h => h) (Or.inl ⟨by rfl, ?_⟩) (by assumption) ?_); rotate_left; focus ((intro w hSw); (try dsimp only at hSw); go_simp; all_goals (with_reducible rfl))) | (refine wpAnyH_take (i := 8) (oi := ⟨_, _, _, _, _, _⟩) (v := undef) rfl (by kernel_rfl) (by kernel_rfl) (by kernel_rfl) (fun _ _ _ h => h) (Or.inr ⟨by rfl, rfl⟩) (by assumption) ?_))
  try simp only [Act.put, List.setIfInBounds_toArray, List.set_cons_zero, List.set_cons_succ]
  (first | ((refine wpAnyH_take (i := 9) (oi := ⟨_, _, _, _, _, _⟩) (v := ?_) rfl (by kernel_rfl) (by kernel_rfl) (by kernel_rfl) (fun _ _ _ h => h) (Or.inl ⟨by rfl, ?_⟩) (by assumption) ?_); rotate_left; focus ((intro w hSw); (try dsimp only at hSw); go_simp; all_goals (with_reducible rfl))) | (refine wpAnyH_take (i := 9) (oi := ⟨_, _, _, _, _, _⟩) (v := undef) rfl (by kernel_rfl) (by kernel_rfl) (by kernel_rfl) (fun _ _ _ h => h) (Or.inr ⟨by rfl, rfl⟩) (by assumption) ?_))
  try simp only [Act.put, List.setIfInBounds_toArray, List.set_cons_zero, List.set_cons_succ]
  (first | ((refine wpAnyH_take (i := 10) (oi := ⟨_, _, _, _, _, _⟩) (v := ?_) rfl (by kernel_rfl) (by kernel_rfl) (by kernel_rfl) (fun _ _ _ h => h) (Or.inl ⟨by rfl, ?_⟩) (by assumption) ?_); rotate_left; focus ((intro w hSw); (try dsimp only at hSw); go_simp; all_goals (with_reducible rfl))) | (refine wpAnyH_take (i := 10) (oi := ⟨_, _, _, _, _, _⟩) (v := undef) rfl (by kernel_rfl) (by kernel_rfl) (by kernel_rfl) (fun _ _ _ h => h) (Or.inr ⟨by rfl, rfl⟩) (by assumption) ?_))
  try simp only [Act.put, List.setIfInBounds_toArray, List.set_cons_zero, List.set_cons_succ]
  (first | ((refine wpAnyH_take (i := 11) (oi := ⟨_, _, _, _, _, _⟩) (v := ?_) rfl (by kernel_rfl) (by kernel_rfl) (by kernel_rfl) (fun _ _ _ h => h) (Or.inl ⟨by rfl, ?_⟩) (by assumption) ?_); rotate_left; focus ((intro w hSw); (try dsimp only at hSw); go_simp; all_goals (with_reducible rfl))) | (refine wpAnyH_take (i := 11) (oi := ⟨_, _, _, _, _, _⟩) (v := undef) rfl (by kernel_rfl) (by kernel_rfl) (by kernel_rfl) (fun _ _ _ h => h) (Or.inr ⟨by rfl, rfl⟩) (by assumption) ?_))
  try simp only [Act.put, List.setIfInBounds_toArray, List.set_cons_zero, List.set_cons_succ]
  (first | ((refine wpAnyH_take (i := 12) (oi := ⟨_, _, _, _, _, _⟩) (v := ?_) rfl (by kernel_rfl) (by kernel_rfl) (by kernel_rfl) (fun _ _ _ h => h) (Or.inl ⟨by rfl, ?_⟩) (by assumption) ?_); rotate_left; focus ((intro w hSw); (try dsimp only at hSw); go_simp; all_goals (with_reducible rfl))) | (refine wpAnyH_take (i := 12) (oi := ⟨_, _, _, _, _, _⟩) (v := undef) rfl (by kernel_rfl) (by kernel_rfl) (by kernel_rfl) (fun _ _ _ h => h) (Or.inr ⟨by rfl, rfl⟩) (by assumption) ?_))
  try simp only [Act.put, List.setIfInBounds_toArray, List.set_cons_zero, List.set_cons_succ]
  (first | ((refine wpAnyH_take (i := 13) (oi := ⟨_, _, _, _, _, _⟩) (v := ?_) rfl (by kernel_rfl) (by kernel_rfl) (by kernel_rfl) (fun _ _ _ h => h) (Or.inl ⟨by rfl, ?_⟩) (by assumption) ?_); rotate_left; focus ((intro w hSw); (try dsimp only at hSw); go_simp; all_goals (with_reducible rfl))) | (refine wpAnyH_take (i := 13) (oi := ⟨_, _, _, _, _, _⟩) (v := undef) rfl (by kernel_rfl) (by kernel_rfl) (by kernel_rfl) (fun _ _ _ h => h) (Or.inr ⟨by rfl, rfl⟩) (by assumption) ?_))
  try simp only [Act.put, List.setIfInBounds_toArray, List.set_cons_zero, List.set_cons_succ]
  (first | ((refine wpAnyH_take (i := 14) (oi := ⟨_, _, _, _, _, _⟩) (v := ?_) rfl (by kernel_rfl) (by kernel_rfl) (by kernel_rfl) (fun _ _ _ h => h) (Or.inl ⟨by rfl, ?_⟩) (by assumption) ?_); rotate_left; focus ((intro w hSw); (try dsimp only at hSw); go_simp; all_goals (with_reducible rfl))) | (refine wpAnyH_take (i := 14) (oi := ⟨_, _, _, _, _, _⟩) (v := undef) rfl (by kernel_rfl) (by kernel_rfl) (by kernel_rfl) (fun _ _ _ h => h) (Or.inr ⟨by rfl, rfl⟩) (by assumption) ?_))
  try simp only [Act.put, List.setIfInBounds_toArray, List.set_cons_zero, List.set_cons_succ]
  (first | ((refine wpAnyH_take (i := 15) (oi := ⟨_, _, _, _, _, _⟩) (v := ?_) rfl (by kernel_rfl) (by kernel_rfl) (by kernel_rfl) (fun _ _ _ h => h) (Or.inl ⟨by rfl, ?_⟩) (by assumption) ?_); rotate_left; focus ((intro w hSw); (try dsimp only at hSw); go_simp; all_goals (with_reducible rfl))) | (refine wpAnyH_take (i := 15) (oi := ⟨_, _, _, _, _, _⟩) (v := undef) rfl (by kernel_rfl) (by kernel_rfl) (by kernel_rfl) (fun _ _ _ h => h) (Or.inr ⟨by rfl, rfl⟩) (by assumption) ?_))
  try simp only [Act.put, List.setIfInBounds_toArray, List.set_cons_zero, List.set_cons_succ]
  (first | ((refine wpAnyH_take (i := 16) (oi := ⟨_, _, _, _, _, _⟩) (v := ?_) rfl (by kernel_rfl) (by kernel_rfl) (by kernel_rfl) (fun _ _ _ h => h) (Or.inl ⟨by rfl, ?_⟩) (by assumption) ?_); rotate_left; focus ((intro w hSw); (try dsimp only at hSw); go_simp; all_goals (with_reducible rfl))) | (refine wpAnyH_take (i := 16) (oi := ⟨_, _, _, _, _, _⟩) (v := undef) rfl (by kernel_rfl) (by kernel_rfl) (by kernel_rfl) (fun _ _ _ h => h) (Or.inr ⟨by rfl, rfl⟩) (by assumption) ?_))
  try simp only [Act.put, List.setIfInBounds_toArray, List.set_cons_zero, List.set_cons_succ]
  (first | ((refine wpAnyH_take (i := 17) (oi := ⟨_, _, _, _, _, _⟩) (v := ?_) rfl (by kernel_rfl) (by kernel_rfl) (by kernel_rfl) (fun _ _ _ h => h) (Or.inl ⟨by rfl, ?_⟩) (by assumption) ?_); rotate_left; focus ((intro w hSw); (try dsimp only at hSw); go_simp; all_goals (with_reducible rfl))) | (refine wpAnyH_take (i := 17) (oi := ⟨_, _, _, _, _, _⟩) (v := undef) rfl (by kernel_rfl) (by kernel_rfl) (by kernel_rfl) (fun _ _ _ h => h) (Or.inr ⟨by rfl, rfl⟩) (by assumption) ?_))
  try simp only [Act.put, List.setIfInBounds_toArray, List.set_cons_zero, List.set_cons_succ]
  (first | ((refine wpAnyH_take (i := 18) (oi := ⟨_, _, _, _, _, _⟩) (v := ?_) rfl (by kernel_rfl) (by kernel_rfl) (by kernel_rfl) (fun _ _ _ h => h) (Or.inl ⟨by rfl, ?_⟩) (by assumption) ?_); rotate_left; focus ((intro w hSw); (try dsimp only at hSw); go_simp; all_goals (with_reducible rfl))) | (refine wpAnyH_take (i := 18) (oi := ⟨_, _, _, _, _, _⟩) (v := undef) rfl (by kernel_rfl) (by kernel_rfl) (by kernel_rfl) (fun _ _ _ h => h) (Or.inr ⟨by rfl, rfl⟩) (by assumption) ?_))
  try simp only [Act.put, List.setIfInBounds_toArray, List.set_cons_zero, List.set_cons_succ]
  (first | ((refine wpAnyH_take (i := 19) (oi := ⟨_, _, _, _, _, _⟩) (v := ?_) rfl (by kernel_rfl) (by kernel_rfl) (by kernel_rfl) (fun _ _ _ h => h) (Or.inl ⟨by rfl, ?_⟩) (by assumption) ?_); rotate_left; focus ((intro w hSw); (try dsimp only at hSw); go_simp; all_goals (with_reducible rfl))) | (refine wpAnyH_take (i := 19) (oi := ⟨_, _, _, _, _, _⟩) (v := undef) rfl (by kernel_rfl) (by kernel_rfl) (by kernel_rfl) (fun _ _ _ h => h) (Or.inr ⟨by rfl, rfl⟩) (by assumption) ?_))
  try simp only [Act.put, List.setIfInBounds_toArray, List.set_cons_zero, List.set_cons_succ]
  (first | ((refine wpAnyH_take (i := 20) (oi := ⟨_, _, _, _, _, _⟩) (v := ?_) rfl (by kernel_rfl) (by kernel_rfl) (by kernel_rfl) (fun _ _ _ h => h) (Or.inl ⟨by rfl, ?_⟩) (by assumption) ?_); rotate_left; focus ((intro w hSw); (try dsimp only at hSw); go_simp; all_goals (with_reducible rfl))) | (refine wpAnyH_take (i := 20) (oi := ⟨_, _, _, _, _, _⟩) (v := undef) rfl (by kernel_rfl) (by kernel_rfl) (by kernel_rfl) (fun _ _ _ h => h) (Or.inr ⟨by rfl, rfl⟩) (by assumption) ?_))
  try simp only [Act.put, List.setIfInBounds_toArray, List.set_cons_zero, List.set_cons_succ]
  (first | ((refine wpAnyH_take (i := 21) (oi := ⟨_, _, _, _, _, _⟩) (v := ?_) rfl (by kernel_rfl) (by kernel_rfl) (by kernel_rfl) (fun _ _ _ h => h) (Or.inl ⟨by rfl, ?_⟩) (by assumption) ?_); rotate_left; focus ((intro w hSw); (try dsimp only at hSw); go_simp; all_goals (with_reducible rfl))) | (refine wpAnyH_take (i := 21) (oi := ⟨_, _, _, _, _, _⟩) (v := undef) rfl (by kernel_rfl) (by kernel_rfl) (by kernel_rfl) (fun _ _ _ h => h) (Or.inr ⟨by rfl, rfl⟩) (by assumption) ?_))
  try simp only [Act.put, List.setIfInBounds_toArray, List.set_cons_zero, List.set_cons_succ]
  (first | ((refine wpAnyH_take (i := 22) (oi := ⟨_, _, _, _, _, _⟩) (v := ?_) rfl (by kernel_rfl) (by kernel_rfl) (by kernel_rfl) (fun _ _ _ h => h) (Or.inl ⟨by rfl, ?_⟩) (by assumption) ?_); rotate_left; focus ((intro w hSw); (try dsimp only at hSw); go_simp; all_goals (with_reducible rfl))) | (refine wpAnyH_take (i := 22) (oi := ⟨_, _, _, _, _, _⟩) (v := undef) rfl (by kernel_rfl) (by kernel_rfl) (by kernel_rfl) (fun _ _ _ h => h) (Or.inr ⟨by rfl, rfl⟩) (by assumption) ?_))
  try simp only [Act.put, List.setIfInBounds_toArray, List.set_cons_zero, List.set_cons_succ]
  (first | ((refine wpAnyH_take (i := 23) (oi := ⟨_, _, _, _, _, _⟩) (v := ?_) rfl (by kernel_rfl) (by kernel_rfl) (by kernel_rfl) (fun _ _ _ h => h) (Or.inl ⟨by rfl, ?_⟩) (by assumption) ?_); rotate_left; focus ((intro w hSw); (try dsimp only at hSw); go_simp; all_goals (with_reducible rfl))) | (refine wpAnyH_take (i := 23) (oi := ⟨_, _, _, _, _, _⟩) (v := undef) rfl (by kernel_rfl) (by kernel_rfl) (by kernel_rfl) (fun _ _ _ h => h) (Or.inr ⟨by rfl, rfl⟩) (by assumption) ?_))
  try simp only [Act.put, List.setIfInBounds_toArray, List.set_cons_zero, List.set_cons_succ]
  (first | ((refine wpAnyH_take (i := 24) (oi := ⟨_, _, _, _, _, _⟩) (v := ?_) rfl (by kernel_rfl) (by kernel_rfl) (by kernel_rfl) (fun _ _ _ h => h) (Or.inl ⟨by rfl, ?_⟩) (by assumption) ?_); rotate_left; focus ((intro w hSw); (try dsimp only at hSw); go_simp; all_goals (with_reducible rfl))) | (refine wpAnyH_take (i := 24) (oi := ⟨_, _, _, _, _, _⟩) (v := undef) rfl (by kernel_rfl) (by kernel_rfl) (by kernel_rfl) (fun _ _ _ h => h) (Or.inr ⟨by rfl, rfl⟩) (by assumption) ?_))
  try simp only [Act.put, List.setIfInBounds_toArray, List.set_cons_zero, List.set_cons_succ]
  (first | ((refine wpAnyH_take (i := 25) (oi := ⟨_, _, _, _, _, _⟩) (v := ?_) rfl (by kernel_rfl) (by kernel_rfl) (by kernel_rfl) (fun _ _ _ h => h) (Or.inl ⟨by rfl, ?_⟩) (by assumption) ?_); rotate_left; focus ((intro w hSw); (try dsimp only at hSw); go_simp; all_goals (with_reducible rfl))) | (refine wpAnyH_take (i := 25) (oi := ⟨_, _, _, _, _, _⟩) (v := undef) rfl (by kernel_rfl) (by kernel_rfl) (by kernel_rfl) (fun _ _ _ h => h) (Or.inr ⟨by rfl, rfl⟩) (by assumption) ?_))
  try simp only [Act.put, List.setIfInBounds_toArray, List.set_cons_zero, List.set_cons_succ]
  (first | ((refine wpAnyH_take (i := 26) (oi := ⟨_, _, _, _, _, _⟩) (v := ?_) rfl (by kernel_rfl) (by kernel_rfl) (by kernel_rfl) (fun _ _ _ h => h) (Or.inl ⟨by rfl, ?_⟩) (by assumption) ?_); rotate_left; focus ((intro w hSw); (try dsimp only at hSw); go_simp; all_goals (with_reducible rfl))) | (refine wpAnyH_take (i := 26) (oi := ⟨_, _, _, _, _, _⟩) (v := undef) rfl (by kernel_rfl) (by kernel_rfl) (by kernel_rfl) (fun _ _ _ h => h) (Or.inr ⟨by rfl, rfl⟩) (by assumption) ?_))
  try simp only [Act.put, List.setIfInBounds_toArray, List.set_cons_zero, List.set_cons_succ]
  (first | ((refine wpAnyH_take (i := 27) (oi := ⟨_, _, _, _, _, _⟩) (v := ?_) rfl (by kernel_rfl) (by kernel_rfl) (by kernel_rfl) (fun _ _ _ h => h) (Or.inl ⟨by rfl, ?_⟩) (by assumption) ?_); rotate_left; focus ((intro w hSw); (try dsimp only at hSw); go_simp; all_goals (with_reducible rfl))) | (refine wpAnyH_take (i := 27) (oi := ⟨_, _, _, _, _, _⟩) (v := undef) rfl (by kernel_rfl) (by kernel_rfl) (by kernel_rfl) (fun _ _ _ h => h) (Or.inr ⟨by rfl, rfl⟩) (by assumption) ?_))
  try simp only [Act.put, List.setIfInBounds_toArray, List.set_cons_zero, List.set_cons_succ]
  refine wpAnyH_done (by kernel_rfl) ?_ _
  clear hK K hHeld wr1 wr2 d1 d2
  have hs2 : Step (fun _ => False) w o w2 (newLab w o 0) := HS01.out.trans (Step.same hbb.1)
  have hbx2 := HBX.out.step (Step.same (L := fun _ => False) hbb.1) (fun h => h)
  have hE2 := hE0.step hs2 (fun h => h) (fun _ _ h => h)
  have hm2 := HM.out.step hs2 (fun h => h)
  obtain ⟨B, hB⟩ : ∃ B, w.heap.size = B := ⟨_, rfl⟩
  obtain ⟨o2, ho2⟩ : ∃ o2, newLab w o 0 = o2 := ⟨_, rfl⟩
  rw [ho2] at hs2 hE2 hm2 hbx2
  rw [hB] at hbx2 hbb ⊢
  have HS2 := Lib.hid hs2
  have HBX2 := Lib.hid hbx2
  have HE2 := Lib.hid hE2
  have HM2 := Lib.hid hm2
  obtain ⟨_, -, c2, -, g0, g1, g2⟩ := hbb
  clear hs2 hbx2 hE2 hm2 HBX HM HS01 HW1 HSD KV ho2 hE0
  go_upto_region 3 with fail
  go_quiet (fail)
  go_upto_if 47 with fail
  go_cut [] (fun wx => ∃ E3, Hid (E3 = ackE E k) ∧ Hid (EndAt wx o2 i b E3) ∧ Hid (Step (Own i) w2 o2 wx o2))
  case first =>
    by_cases hk : (E.acked : Int) < k
    · obtain ⟨d, hd⟩ : ∃ d : Nat, k - E.acked = d := ⟨(k - E.acked).toNat, by omega⟩
      have hd0 : 0 < d := by omega
      have hdv : d ≤ vs.length := by omega
      have HDD := Lib.hid hd
      clear hd
      have h1 := H1.out.step HS2.out (fun h => h)
      have h2 := H2.out.step HS2.out (fun h => h)
      have h3 := H3.out.step HS2.out (fun h => h)
      have h5 := H5.out.step HS2.out (fun h => h)
      have h6 := H6.out.step HS2.out (fun h => h)
      obtain ⟨g, hg⟩ : ∃ g, wa = some ⟨g, 0, none⟩ := by
        rcases h2.1.2 with ⟨h, h'⟩ | ⟨g, cap, cur, h, _⟩
        · simp at h; omega
        · simp at h; exact ⟨g, h.1⟩
      subst hg
      have c1 := h1.cell (j := 1) rfl
      have hdr : Step (fun _ => False) w2 o2 (w2.drewN nq) o2 := Step.same (Below.drewN nq)
      have h2d := h2.step hdr (fun h => h)
      have kdel := delete_int g vs.length wc d (10 * i + 1) vs (w2.drewN nq) o2 (k - E.acked) HDD.out h2d hd0 hdv h3.one
      have KDEL := Lib.hid kdel
      have G1 := Lib.hid h1
      have G3 := Lib.hid h3
      have G5 := Lib.hid h5
      have G6 := Lib.hid h6
      have GD := Lib.hid hdr
      clear h1 h2 h3 h5 h6 h2d kdel hdr
      go_wp2_with (go_at_call 95; (with_reducible refine KDEL.out.mono ?_); rintro e w3 ⟨rfl, hrow3, hs3⟩
                   have GR3 := Lib.hid hrow3
                   have GS3 := Lib.hid hs3
                   have g13 := (G1.out.step GD.out (fun h => h)).step hs3 (by omega)
                   have gb3 := (HBX2.out.step GD.out (fun h => h)).step hs3 (by omega)
                   have e1 := g13.cell (j := 1) rfl
                   have e2 := g13.cell (j := 2) rfl
                   have e3 := g13.frozen 1
                   have e4 := g13.frozen 2
                   have e5 := gb3.cell (j := 1) rfl
                   have G13 := Lib.hid g13
                   clear hrow3 hs3 g13 gb3)
      go_meet
      have s4 := EndAt.set G13.out 1 (.slice (some ⟨g, 0, none⟩) (vs.length - d : Nat) wc)
      have g4 := G13.out.set 1 (.slice (some ⟨g, 0, none⟩) (vs.length - d : Nat) wc)
      have s5 := EndAt.set g4 2 (.int .i64 k)
      have g5 := g4.set 2 (.int .i64 k)
      have hS := s4.trans s5
      have hkn : ((k.toNat : Nat) : Int) = k := by omega
      have hdn : k.toNat - E.acked = d := by have := HDD.out; omega
      have hT := GD.out.mono (L' := (· = 10 * i + 1)) (fun _ h => h.elim) |>.trans GS3.out
      refine ⟨{ E with waiting := E.waiting.drop d, acked := k.toNat }, ?_, ⟨.slice (some ⟨g, 0, none⟩) (vs.length - d : Nat) wc, vs.drop d, mb, es, ?_, ?_, ?_, ?_, ?_⟩, ?_⟩
      · unfold Hid ackE; rw [if_pos (by omega), hdn]
      · rw [hkn]; exact g5
      · rw [List.length_drop]; exact GR3.out.step hS (by omega)
      · exact ((G3.out.drop d).step hT (by omega)).step hS (by omega)
      · exact (G5.out.step hT (by omega)).step hS (by omega)
      · exact (G6.out.step hT (by omega)).step hS (by omega)
      · exact (hT.mono fun l hl => by subst hl; exact Own.at1 i).trans (hS.mono fun l hl => by subst hl; exact Own.at0 i)
    · go_wp2
      go_meet
      refine ⟨E, ?_, ?_, ?_⟩
      · unfold Hid ackE; rw [if_neg (by omega)]
      · exact HE2.out.step (Step.same (L := fun _ => False) (Below.drewN nq)) (fun h => h) (fun _ _ h => h)
      · exact Step.same (Below.drewN nq)
  case rest =>
    obtain ⟨E3, HE3, HEA, HS3⟩ := hcut
    have hbx3 := HBX2.out.step HS3.out (Own.not0 hi)
    have hm3 := HM2.out.step HS3.out hlm
    have hg3 : E3.got = E.got := by rw [HE3.out]; unfold ackE; split <;> rfl
    have hgo3 : E3.got ≤ 1000000000 := by omega
    have hEnd := HEA.out
    obtain ⟨wv3, vs3, mb3, es3, h1, h2, h3, h5, h6⟩ := HEA.out
    have g0 := hbx3.cell (j := 0) rfl
    have e5 := h1.cell (j := 5) rfl
    have f5 := h1.frozen 5
    obtain ⟨wx, hwx⟩ : ∃ wx, wx = wc := ⟨_, rfl⟩
    subst hwx
    have HE := Lib.hid hEnd
    have HB3 := Lib.hid hbx3
    have HM3 := Lib.hid hm3
    have HG3 := Lib.hid hg3
    clear hEnd h1 h2 h3 h5 h6 hbx3 hm3 hg3 hgo
    by_cases hq : q = 0
    · have hq' : (q == 0) = true := by simpa using hq
      have HQ := Lib.hid hq
      clear hq
      go_wp2
      go_ret
      refine ⟨_, rfl, o2, ((HS2.out.mono fun _ h => h.elim).trans HS3.out).mono fun _ h => .inl h, ?_, MRow.nil _ _ _⟩
      rw [← HE3.out]
      exact HE.out
    · have hq' : (q == 0) = false := by simpa using hq
      have HQ := Lib.hid hq
      clear hq
      go_upto_region 10 with fail
      have ho := HE.out.owe hi true
      obtain ⟨W5, hW5⟩ : ∃ W5, W5 = wx.setCell ⟨b, 5, none⟩ (.bool true) := ⟨_, rfl⟩
      rw [← hW5] at ho ⊢
      clear hW5 e5 f5 g0
      obtain ⟨ho1, ho2⟩ := ho
      have hbx5 := HB3.out.step ho1 (by omega)
      have hm5 := HM3.out.step ho1 (fun e => hlm (by rw [e]; exact Own.at0 i))
      have g0 := hbx5.cell (j := 0) rfl
      have g2 := hbx5.cell (j := 2) rfl
      have HS5 := Lib.hid (HS3.out.trans (ho1.mono (L' := Own i) fun l hl => by subst hl; exact Own.at0 i))
      have HE5 := Lib.hid ho2
      have HB5 := Lib.hid hbx5
      have HM5 := Lib.hid hm5
      clear ho1 ho2 hbx5 hm5 HE HB3 HM3 HS3
      obtain ⟨wv5, vs5, mb5, es5, h1, h2, h3, h5, h6⟩ := HE5.out
      have c4 := h1.cell (j := 4) rfl
      have K1 := Lib.hid h1
      have K2 := Lib.hid h2
      have K3 := Lib.hid h3
      have K5 := Lib.hid h5
      have K6 := Lib.hid h6
      have hlk : ∀ n, (Instr.lookup 167 (.map (some mb5)) (.int .i64 q) true).run Try.prog (W5.drewN n) = .ok (.tuple #[(look es5 q).getD (.slice none 0 0), .bool (look es5 q).isSome]) (W5.drewN n) := fun n =>
        run_look Try.underlying167 Try.underlying3 (elemM.zeroV _) (h5.step (Step.same (L := fun _ => False) (Below.drewN n)) (fun h => h)).1 q
      have HLK := Lib.hid hlk
      clear h1 h2 h3 h5 h6 hlk
      go_cut [6, 7] (fun s6 s7 wx => ∃ x, Hid (x = (look es5 q).isSome) ∧ s7 = .bool x ∧ Hid (Step (fun _ => False) W5 o2 wx o2))
      case first =>
        have hlk := HLK.out
        go_quiet (fail)
        go_wp2
        go_meet
        exact ⟨_, rfl, rfl, Step.same (Below.drewN _)⟩
      case rest =>
        clear HLK c4 g0 g2
        obtain ⟨x7, HX7, rfl, HS6⟩ := hcut
        obtain ⟨W6, hW6⟩ : ∃ x, x = wc := ⟨_, rfl⟩
        subst hW6
        have g0 := (HB5.out.step HS6.out (fun h => h)).cell (j := 0) rfl
        have c3 : W6.cell? ⟨b, 3, none⟩ = some (.int .i64 E3.got) := (K1.out.step HS6.out (fun h => h)).cell (j := 3) rfl
        go_upto_region 11 with fail
        go_cut [88] (fun s88 wx => ∃ y, Hid (y = (decide ((E3.got : Int) < q) && !x7)) ∧ s88 = .bool y ∧ Hid (Step (fun _ => False) W5 o2 wx o2))
        case first =>
          have hs7 := HS6.out.drewN
          have HS7 := Lib.hid hs7
          clear hs7
          by_cases hgq : (E3.got : Int) < q
          · have d1 : decide ((E3.got : Int) < q) = true := by simpa using hgq
            have HGQ := Lib.hid hgq
            clear hgq
            go_quiet (fail)
            go_wp2
            go_meet
            exact ⟨!x7, by unfold Hid; simp [HGQ.out], rfl, HS7.out _⟩
          · have d1 : decide ((E3.got : Int) < q) = false := by simpa using hgq
            have HGQ := Lib.hid hgq
            clear hgq
            go_quiet (fail)
            go_wp2
            go_meet
            exact ⟨false, by unfold Hid; rw [decide_eq_false (by have := HGQ.out; omega)]; rfl, rfl, HS7.out _⟩
        case rest =>
          clear HS6 g0 c3
          obtain ⟨y, HY, rfl, HS7⟩ := hcut
          obtain ⟨W7, hW7⟩ : ∃ x, x = wc := ⟨_, rfl⟩
          subst hW7
          have HSM : Hid ((look es5 q).isSome = (look E3.held q).isSome) := held_isSome K6.out q
          go_upto_if 88 with fail
          go_cut [] (fun wx => ∃ o7 E7, Hid (E7 = holdE (ackE E k) q m) ∧ Hid (EndAt wx o7 i b E7) ∧ Hid (Step (Own i) w2 o2 wx o7))
          case first =>
            have k1 := K1.out.step HS7.out (fun h => h)
            have kb := HB5.out.step HS7.out (fun h => h)
            have km := HM5.out.step HS7.out (fun h => h)
            have k5 := K5.out.step HS7.out (fun h => h)
            cases y with
            | false =>
              clear k1 kb km k5
              go_wp2
              go_meet
              refine ⟨o2, { E3 with owing := true }, ?_, HE5.out.step HS7.out (fun h => h) (fun _ _ h => h), HS5.out.trans (HS7.out.mono fun _ h => h.elim)⟩
              unfold Hid holdE
              rw [← HE3.out, if_neg]
              rintro ⟨r1, r2⟩
              have y1 := HY.out
              have y2 := HX7.out
              rw [HSM.out, r2] at y2
              rw [decide_eq_true r1, y2] at y1
              simp at y1
            | true =>
              have p4 : W7.cell? ⟨b, 4, none⟩ = some (.map (some mb5)) := k1.cell (j := 4) rfl
              have p0 : W7.cell? ⟨B, 0, none⟩ = some (.int .i64 q) := kb.cell (j := 0) rfl
              have p2 : W7.cell? ⟨B, 2, none⟩ = some (.slice a m.length c) := kb.cell (j := 2) rfl
              have p4d : W7.drew.cell? ⟨b, 4, none⟩ = some (.map (some mb5)) := p4
              have p0d : W7.drew.cell? ⟨B, 0, none⟩ = some (.int .i64 q) := p0
              have p2d : W7.drew.cell? ⟨B, 2, none⟩ = some (.slice a m.length c) := p2
              have hy := HY.out
              have hx7 : look es5 q = none := by
                have := HX7.out
                simp at hy
                rw [hy.2] at this
                simpa using this.symm
              have HN := Lib.hid hx7
              have KK1 := Lib.hid k1
              have KKB := Lib.hid kb
              have KKM := Lib.hid km
              have KK5 := Lib.hid k5
              clear k1 kb km k5 hx7 hy
              go_wp2
              go_region_held3 (fun W => W.cell? ⟨b, 4, none⟩ = some (.map (some mb5)) ∧ W.cell? ⟨B, 0, none⟩ = some (.int .i64 q) ∧ W.cell? ⟨B, 2, none⟩ = some (.slice a m.length c)) (refine ⟨?_, ?_, ?_⟩ <;> first | assumption | go_keep)
                (first
                 | (go_at_call 87; (with_reducible refine (clone_any a c m _ (KKM.out.slice.below (Below.drew (Below.refl _ W7))) (by omega)).mono ?_); rintro e w8 ⟨v8, rfl, hown8, hb8⟩
                    obtain ⟨a8, c8, rfl, hd8⟩ := Dat.ofRow (l := 0) (o := o2) (f := byteV) hown8
                    have hs8 : Step (fun _ => False) W7 o2 w8 (newLab W7 o2 0) := Step.below ((Below.drew (Below.refl _ W7)).trans hb8) fun k hk => newLab_old _ _ _ hk
                    have KK58 := KK5.out.step hs8 (fun h => h)
                    have k18 := KK1.out.step hs8 (fun h => h)
                    have kb8 := KKB.out.step hs8 (fun h => h)
                    have p48 := k18.cell (j := 4) rfl
                    have p08 := kb8.cell (j := 0) rfl
                    have p28 := kb8.cell (j := 2) rfl
                    obtain ⟨w9, hrun9, hmap9, hs9⟩ := put_made Try.underlying167 Try.underlying3 KK58 HN.out (.slice a8 m.length c8)
                    have p49 := (k18.step hs9 (by omega)).cell (j := 4) rfl
                    have p09 := (kb8.step hs9 (by omega)).cell (j := 0) rfl
                    have p29 := (kb8.step hs9 (by omega)).cell (j := 2) rfl
                    have HM9 := Lib.hid hmap9
                    have HS9 := Lib.hid hs9
                    have K18 := Lib.hid k18
                    have HS8' := Lib.hid hs8
                    have HD8 := Lib.hid hd8
                    clear hmap9 hs9 k18 kb8 hs8 hd8))
              all_goals
                go_wp2
                go_meet
                have hs8 := HS8'.out
                have hs9 := HS9.out
                have kS : Step (Own i) W7 o2 w9 (newLab W7 o2 0) := (hs8.mono fun _ h => h.elim).trans (hs9.mono fun l hl => by subst hl; exact Own.at2 i)
                refine ⟨newLab W7 o2 0, { E3 with owing := true, held := put E3.held q m }, ?_, ⟨wv5, vs5, mb5, _, K18.out.step hs9 (by omega), ?_, ?_, HM9.out, ?_⟩, (HS5.out.trans (HS7.out.mono fun _ h => h.elim)).trans kS⟩
                · unfold Hid holdE
                  have y1 := HY.out
                  have y2 := HX7.out
                  rw [HN.out] at y2
                  rw [← HE3.out, if_pos]
                  refine ⟨?_, ?_⟩
                  · simp at y1; exact y1.1
                  · have := HSM.out
                    rw [HN.out] at this
                    simpa using this.symm
                · exact ((K2.out.step HS7.out (fun h => h)).step hs8 (fun h => h)).step hs9 (by omega)
                · exact (K3.out.step HS7.out (fun h => h)).step kS (Own.not0 hi)
                · exact HeldAt.put ((K6.out.step HS7.out (fun h => h)).step kS (Own.not0 hi)) q (Msg.step ⟨a8, c8, rfl, HD8.out⟩ hs9 (by omega))
          case rest =>
            clear HS5 HE5 HB5 HM5 K1 K2 K3 K5 K6 HX7 HY HS7 HSM HBX2 HM2 HE2 H1 H2 H3 H5 H6
            obtain ⟨o7, E7, HE7, HEA7, HS7⟩ := hcut
            obtain ⟨W7', hW7⟩ : ∃ x, x = wc := ⟨_, rfl⟩
            subst hW7
            have hgo7 : E7.got = E3.got := by rw [HE7.out, ← HE3.out]; rfl
            have hhl7 : E7.held.length ≤ 1000001 := by
              rw [HE7.out, ← HE3.out]
              unfold holdE
              simp only
              have : E3.held = E.held := by rw [HE3.out]; unfold ackE; split <;> rfl
              rw [this]
              split
              · simp [put]; omega
              · omega
            have hgo8 : E7.got ≤ 1000000000 := by omega
            clear hgo7
            go_wp2
            go_loopg [8] E7.held.length (fun g s8 wr => ∃ (o8 : Nat → Nat) (E8 : EndS) (acc : List (List UInt8)) (v : Value), s8 = v ∧ g = E8.held.length ∧ Hid (EndAt wr o8 i b E8) ∧ Hid (MRow wr o8 lr v acc) ∧ Hid (Step (fun x => Own i x ∨ x = lr) W7' o7 wr o8) ∧
              Hid (drainE E8 = drainE E7 ∧ acc ++ drainO E8 = drainO E7) ∧ E8.got + E8.held.length ≤ E7.got + E7.held.length ∧ acc.length ≤ E8.got)
            case atStart => exact ⟨o7, E7, [], _, rfl, rfl, HEA7.out, MRow.nil _ _ _, Step.refl _ _ _, ⟨rfl, by simp⟩, Nat.le_refl _, by simp⟩
            case round =>
              obtain ⟨o8, E8, acc, v, rfl, rfl, HEA8, HMR8, HS8, HDR8, hgl, hal⟩ := hrel
              obtain ⟨wv8, vs8, mb8, es8, h1, h2, h3, h5, h6⟩ := HEA8.out
              obtain ⟨ms8, hr8, hmm8⟩ := HMR8.out
              have hml8 := hmm8.1
              obtain ⟨a8, c8, rfl⟩ := hr8.form
              have c4 := h1.cell (j := 4) rfl
              have c3 : wr.cell? ⟨b, 3, none⟩ = some (.int .i64 E8.got) := h1.cell (j := 3) rfl
              have f3 := h1.frozen 3
              have hg8 : E8.got ≤ 1001000001 := by omega
              have hm8 : ms8.length ≤ 1001000001 := by omega
              have wr1 := IntWalk.i64_in ((E8.got : Int) + 1) (by omega)
              have hlk := fun n => run_look (k := (E8.got : Int) + 1) Try.underlying167 Try.underlying3 (elemM.zeroV _) (h5.step (Step.same (L := fun _ => False) (Below.drewN (w := wr) n)) (fun h => h)).1
              have HR8 := Lib.hid hr8
              have HMM8 := Lib.hid hmm8
              have HML8 := Lib.hid hml8
              rcases h6.look ((E8.got : Int) + 1) with ⟨l1, l2⟩ | ⟨u, mm, l1, l2, hmsg⟩
              · rw [l1] at hlk
                simp only [Option.getD_none, Option.isSome_none] at hlk
                have HL2 := Lib.hid l2
                clear l1 l2 h1 h2 h3 h5 h6 hr8 hmm8 hml8
                go_wp2
                go_quiet (fail)
                go_wp2
                go_ret
                obtain ⟨d1, d2⟩ := drainE_none HL2.out
                have hS := ((HS2.out.mono fun _ h => h.elim).trans (HS7.out.mono fun _ h => .inl h)).trans HS8.out
                have hD := HDR8.out
                rw [d1, d2, List.append_nil] at hD
                rw [HE7.out] at hD
                try rw [if_neg HQ.out, if_neg HQ.out]
                rw [← hD.1, ← hD.2]
                exact ⟨_, rfl, o8, hS.drewN _, HEA8.out.step (Step.same (L := fun _ => False) (Below.drewN _)) (fun h => h) (fun _ _ h => h), HMR8.out.step (Step.same (L := fun _ => False) (Below.drewN _)) (fun h => h) (fun h => h)⟩
              · rw [l1] at hlk
                simp only [Option.getD_some, Option.isSome_some] at hlk
                obtain ⟨au, cu, rfl, hdu⟩ := hmsg
                have HDU := Lib.hid hdu
                have HL2 := Lib.hid l2
                clear l1 l2 h1 h2 h3 h5 h6 hr8 hmm8 hml8 hdu
                go_upto_region 14 with fail
                go_quiet (fail)
                go_upto_region 18 with fail
                have hS8 := HS8.out.drewN nq
                have hE8 := HEA8.out.step (Step.same (L := fun _ => False) (Below.drewN nq)) (fun h => h) (fun _ _ h => h)
                obtain ⟨hs9, hE9⟩ := hE8.got hi (E8.got + 1)
                rw [show ((E8.got + 1 : Nat) : Int) = (E8.got : Int) + 1 from by omega] at hs9 hE9
                have hr9 := (HR8.out.step (Step.same (L := fun _ => False) (Below.drewN nq)) (fun h => h)).step hs9 (fun e => hlr (by rw [e]; exact Own.at0 i))
                have hmm9 := (HMM8.out.step (Step.same (L := fun _ => False) (Below.drewN nq)) (fun h => h)).step hs9 (by omega)
                have hdu9 := (HDU.out.step (Step.same (L := fun _ => False) (Below.drewN nq)) (fun h => h)).step hs9 (by omega)
                have hS9 := hS8.trans (hs9.mono (L' := fun x => Own i x ∨ x = lr) fun l hl => .inl (by subst hl; exact Own.at0 i))
                obtain ⟨W9, hW9⟩ : ∃ W9, W9 = (wr.drewN nq).setCell ⟨b, 3, none⟩ (.int .i64 ((E8.got : Int) + 1)) := ⟨_, rfl⟩
                rw [← hW9] at hE9 hr9 hmm9 hdu9 hS9 ⊢
                clear hW9 hs9 hE8 hS8 hlk c3 c4 f3 wr1
                obtain ⟨wv9, vs9, mb9, es9, h1, h2, h3, h5, h6⟩ := hE9
                have c4 : W9.cell? ⟨b, 4, none⟩ = some (.map (some mb9)) := h1.cell (j := 4) rfl
                have c3 : W9.cell? ⟨b, 3, none⟩ = some (.int .i64 ((E8.got : Int) + 1)) := h1.cell (j := 3) (by simp)
                have c4d : W9.drew.cell? ⟨b, 4, none⟩ = some (.map (some mb9)) := c4
                have c3d : W9.drew.cell? ⟨b, 3, none⟩ = some (.int .i64 ((E8.got : Int) + 1)) := c3
                have h5d := h5.step (Step.refl (fun _ => False) W9 o8).drew (fun h => h)
                have N1 := Lib.hid h1
                have N2 := Lib.hid h2
                have N3 := Lib.hid h3
                have N5 := Lib.hid h5d
                have N6 := Lib.hid h6
                have NR := Lib.hid hr9
                have NM := Lib.hid hmm9
                have ND := Lib.hid hdu9
                have NS := Lib.hid hS9
                clear h1 h2 h3 h5 h6 hr9 hmm9 hdu9 hS9 HR8 HMM8 HDU h5d
                go_region_held3 (fun W => W.cell? ⟨b, 4, none⟩ = some (.map (some mb9)) ∧ W.cell? ⟨b, 3, none⟩ = some (.int .i64 ((E8.got : Int) + 1))) (refine ⟨?_, ?_⟩ <;> first | assumption | go_keep)
                  (first
                   | (refine step_drp (by rfl) (.tmp 124) (.tmp 128) 167 (by rfl) Try.underlying167 Try.underlying3 (by rfl) N5.out (by rfl) ?_; intro w10 hmap10 hs10
                      have k110 := (N1.out.step (Step.refl (fun _ => False) W9 o8).drew (fun h => h)).step hs10 (by omega)
                      have p410 : w10.cell? ⟨b, 4, none⟩ = some (.map (some mb9)) := k110.cell (j := 4) rfl
                      have p310 : w10.cell? ⟨b, 3, none⟩ = some (.int .i64 ((E8.got : Int) + 1)) := k110.cell (j := 3) (by simp)
                      have hs10' := (Step.refl (fun x => x = 10 * i + 2) W9 o8).drew.trans hs10
                      have N110 := Lib.hid k110
                      have NS10 := Lib.hid hs10'
                      have NM10 := Lib.hid hmap10
                      have hr10 := NR.out.step hs10' (fun e => hlr (by rw [e]; exact Own.at2 i))
                      have NR10 := Lib.hid hr10
                      clear k110 hs10 hs10' hmap10 hr10))
                all_goals
                  go_wp2_with (at_builtin; refine wpList_append_row rfl (.tmp 129) (.tmp 131) 96 rfl elemM rfl NR10.out ((Below.refl _ w10).alloc (Nat.le_refl _) _) (some ⟨w10.heap.size, 0, none⟩) 1 1 [.slice au mm.length cu] rfl (row_new (cs := [.slice au mm.length cu]) (by simp) (by omega)) (by simp [Value.oneCell']) (by omega) (by omega) ?_; intro v' w11 hrow11 hs11
                               have NR11 := Lib.hid hrow11
                               have NS11 := Lib.hid hs11
                               clear hrow11 hs11)
                  have hlt := drp_length HL2.out
                  go_roundg (drp E8.held (E8.got + 1)).length
                  case measure => exact hlt
                  case rel =>
                    obtain ⟨d1, d2⟩ := drainE_some HL2.out
                    have hs10 := NS10.out
                    have hs11 := NS11.out
                    have hSS := (hs10.mono (L' := fun x => Own i x ∨ x = lr) fun l hl => .inl (by subst hl; exact Own.at2 i)).trans (hs11.mono (L' := fun x => Own i x ∨ x = lr) fun l hl => .inr hl)
                    have n0 : ¬ (Own i 0 ∨ 0 = lr) := fun h => h.elim (Own.not0 hi) (fun e => hlr0 e.symm)
                    refine ⟨_, { E8 with got := E8.got + 1, held := drp E8.held (E8.got + 1) }, acc ++ [mm], _, rfl, rfl, ⟨wv9, vs9, mb9, drp es9 (E8.got + 1), ?_, ?_, ?_, ?_, ?_⟩, ⟨ms8 ++ [.slice au mm.length cu], ?_, ?_⟩, NS.out.trans hSS, ⟨?_, ?_⟩, ?_, ?_⟩
                    · have := N110.out.step hs11 (fun e => hlr (by rw [← e]; exact Own.at0 i))
                      simpa using this
                    · exact (N2.out.step hs10 (by omega)).step hs11 (fun e => hlr (by rw [← e]; exact Own.at1 i))
                    · exact N3.out.step hSS n0
                    · exact NM10.out.step hs11 (fun e => hlr (by rw [← e]; exact Own.at2 i))
                    · exact HeldAt.drp (N6.out.step hSS n0) _
                    · have := NR11.out
                      simpa using this
                    · exact (NM.out.step hSS n0).snoc ⟨_, _, rfl, ND.out.step hSS n0⟩
                    · rw [← d1]; exact HDR8.out.1
                    · rw [← HDR8.out.2, d2]; simp
                    · simp only; omega
                    · simp; omega
end Go.Proofs.Ytaonhmdifinadaa
