/-
  The copy of an end that holds nothing: slices.Clone at [][]byte, Copy.
-/
import Derived.Test.YtmonpnikdheokaaChanF
import Derived.Laws.IdiomRangeMap
namespace Go.Proofs.Ytmonpnikdheokaa
open Go Go.Proofs
open Go.RowKit
set_option linter.unusedVariables false
set_option linter.unusedSimpArgs false

set_option maxRecDepth 100000 in
set_option maxHeartbeats 1000000 in
theorem clone2_any (a : Option Addr) (c : Nat) (vs : List Value) (w : World) (hx : SliceAt w a c vs) (h1 : ∀ u ∈ vs, u.oneCell' = true) (hl : vs.length ≤ 1000000) :
    Calls Try.prog 57 #[.slice a vs.length c] w fun e w' => ∃ v, e = .returned v ∧ w'.ownsRow w.heap.size 31 1 v vs.length vs ∧ Below w.heap.size w w' := by
  have hle := hx.le
  cases a with
  | none =>
    have hc : c = 0 := hx.2.2.1 rfl
    subst hc
    obtain rfl : vs = [] := List.eq_nil_of_length_eq_zero (by simpa using hle)
    clear hx hle
    have q := fun wx => Lib.run_eql_slice_nil (P := Try.prog) wx 42 31 none 0 0 0 0 Try.underlying42
    go_enter Try.func57, Try.ntmps57
    go_wp2
    go_ret
    exact ⟨_, rfl, World.ownsRow_nil _ _ _ _, Below.refl _ _⟩
  | some ad =>
    have hrow := hx.row
    clear hx hle
    generalize vs.length = n at *
    have q := fun wx => Lib.run_eql_slice_nil (P := Try.prog) wx 42 31 (some ad) n c 0 0 Try.underlying42
    have hown : (w.alloc (.cells #[] 31)).ownsRow w.heap.size 31 1 (.slice (some ⟨w.heap.size, 0, none⟩) 0 0) 0 [] := World.ownsRow_lit w #[] 0 (Nat.le_refl _) (by decide) rfl
    go_enter Try.func57, Try.ntmps57
    go_wp2_with (at_builtin; refine wpList_append_src _ rfl _ _ 42 rfl elemM w.heap.size _ 0 _ rfl hown (some ad) n c vs rfl (hrow.below ((Below.refl _ w).alloc (Nat.le_refl _) _)) h1 (by omega) (by omega) (by simp) ?_)
    intro v' w' hown' hbel' hgrow
    go_wp2
    go_ret
    refine ⟨_, rfl, by simpa using hown', ((Below.refl _ w).alloc (Nat.le_refl _) _).trans hbel'⟩

/-- 'range' and 'next' over an empty map. -/
theorem run_range_empty {P : Program} {w : World} {o : Nat → Nat} {l mb T K E : Nat} (hT : P.underlying T = some (.map K E)) (h : MapL w o l mb []) :
    ∃ c, w.heap[mb]? = some (.map #[] c) ∧ (Instr.range T (.map (some mb))).run P w = .ok (.pointer (some ⟨w.heap.size, 0, none⟩)) (w.alloc (.mapIter (some mb) c #[] c)) := by
  obtain ⟨⟨ms, c, h1, h2, _⟩, _⟩ := h
  have : ms = #[] := by
    apply Array.eq_empty_of_size_eq_zero
    have := congrArg List.length h2
    simpa using this
  subst this
  exact ⟨c, h1, run_range_map w T K E mb #[] c hT h1⟩
theorem run_next_empty {P : Program} {w : World} {mb c : Nat} (ty : Nat) (h : w.heap[mb]? = some (.map #[] c)) :
    (Instr.next (.pointer (some ⟨w.heap.size, 0, none⟩)) false ty).run P (w.alloc (.mapIter (some mb) c #[] c)) = .ok (.tuple #[.bool false]) (w.alloc (.mapIter (some mb) c #[] c)) := by
  rcases run_next_map (P := P) w ty mb c c #[] #[] c h (by simp) (Nat.le_refl _) with ⟨_, h2⟩ | ⟨e, he, _⟩
  · exact h2
  · simp [leftOf] at he

set_option maxRecDepth 100000 in
set_option maxHeartbeats 4000000 in
theorem copy_any (i i' b : Nat) (E : EndS) (w : World) (o : Nat → Nat) (hi' : 1 ≤ i') (hii : i ≠ i') (hE : EndAt w o i b E) (hh : E.held = []) (hlw : E.waiting.length ≤ 1000000) :
    Calls Try.prog 27 #[.pointer (some ⟨b, 0, none⟩)] w fun e w' => ∃ b', e = .returned (.pointer (some ⟨b', 0, none⟩)) ∧ ∃ o', Step (Own i') w o w' o' ∧ EndAt w' o' i' b' E := by
  obtain ⟨wv, vs, mb, es, h1, h2, h3, h5, h6⟩ := hE
  rw [hh] at h6
  obtain rfl : es = [] := by cases h6; rfl
  obtain ⟨wa, wc, rfl, _, hs⟩ := ownsRow_slice h2.1
  have hlt := h1.lt
  have x0 := h1.cell (j := 0) rfl
  have x1 := h1.cell (j := 1) rfl
  have x2 := h1.cell (j := 2) rfl
  have x3 := h1.cell (j := 3) rfl
  have x4 := h1.cell (j := 4) rfl
  have x5 := h1.cell (j := 5) rfl
  have HVS := h3.1
  obtain ⟨L, hL⟩ : ∃ L, vs.length = L := ⟨_, rfl⟩
  obtain ⟨Wn, hWn⟩ : ∃ x, E.window = x := ⟨_, rfl⟩
  obtain ⟨An, hAn⟩ : ∃ x, E.acked = x := ⟨_, rfl⟩
  obtain ⟨Gn, hGn⟩ : ∃ x, E.got = x := ⟨_, rfl⟩
  obtain ⟨On, hOn⟩ : ∃ x, E.owing = x := ⟨_, rfl⟩
  rw [hL] at x1
  rw [hWn] at x0
  rw [hAn] at x2
  rw [hGn] at x3
  rw [hOn] at x5
  obtain ⟨w1, hw1⟩ : ∃ x, x = w.alloc (.cells #[.int .i64 Wn, .slice wa L wc, .int .i64 An, .int .i64 Gn, .map (some mb), .bool On] 102) := ⟨_, rfl⟩
  obtain ⟨g, hg⟩ : ∃ g, w.heap.size = g := ⟨_, rfl⟩
  have HW1 := Lib.hid hw1
  have HG := Lib.hid hg
  have hB1 : Below w.heap.size w w1 := by rw [hw1]; exact (Below.refl _ w).alloc (Nat.le_refl _) _
  obtain ⟨o1, ho1⟩ : ∃ x, newLab w o (10 * i') = x := ⟨_, rfl⟩
  have hs1 : Step (Own i') w o w1 o1 := by rw [hw1, ← ho1]; exact Step.below ((Below.refl _ w).alloc (Nat.le_refl _) _) fun k hk => newLab_old w o _ hk
  have hX1 : Blk w1 o1 (10 * i') g [.int .i64 Wn, .slice wa L wc, .int .i64 An, .int .i64 Gn, .map (some mb), .bool On] := by rw [hw1, ← ho1, ← hg]; exact ⟨_, heap_alloc_new _ _, newLab_new _ _ _ (Nat.le_refl _)⟩
  have kc := clone2_any wa wc vs w1 (hs.below hB1) (fun u hu => h3.one u hu) (by omega)
  rw [hL] at kc
  have y4 : w.cell? ⟨b, 4, none⟩ = some (.map (some mb)) := x4
  have HE := Lib.hid h5
  have H3 := Lib.hid h3
  have HS1 := Lib.hid hs1
  have HX1 := Lib.hid hX1
  have KC := Lib.hid kc
  have HH := Lib.hid hh
  have HB1 := Lib.hid hB1
  have H1 := Lib.hid h1
  have HX0 := Lib.hid (show E.window = Wn ∧ E.acked = An ∧ E.got = Gn ∧ E.owing = On ∧ vs.length = L from ⟨hWn, hAn, hGn, hOn, hL⟩)
  clear hw1 ho1 hs1 hX1 kc y4 h3 h1 h2 h5 h6 hh hB1 hs hL hWn hAn hGn hOn hg
  go_enter Try.func27, Try.ntmps27
  go_upto_region 2 with fail
  rw [← HW1.out, HG.out]
  have x1' : w1.cell? ⟨b, 1, none⟩ = some (.slice wa L wc) := Below.kept HB1.out (Nat.le_refl _) x1
  clear x0 x1 x2 x3 x4 x5 HW1
  go_wp2_with fail
  refine KC.out.mono ?_
  rintro e w2 ⟨v, rfl, hown, hb⟩
  obtain ⟨o2, ho2⟩ : ∃ x, newLab w1 o1 (10 * i' + 1) = x := ⟨_, rfl⟩
  have hs2 : Step (Own i') w1 o1 w2 o2 := by rw [← ho2]; exact Step.below hb fun k hk => newLab_old w1 o1 _ hk
  have hr2 : RowL w2 o2 (10 * i' + 1) 31 1 v L vs := by rw [← ho2]; exact RowL.new hown
  obtain ⟨va, vc, rfl⟩ := hr2.form
  have hx2 : Blk w2 o2 (10 * i') g [.int .i64 Wn, .slice wa L wc, .int .i64 An, .int .i64 Gn, .map (some mb), .bool On] := HX1.out.step (Step.below (L := fun _ => False) hb (by rw [← ho2]; exact fun k hk => newLab_old w1 o1 _ hk)) fun h => h
  have xf := hx2.frozen 1
  have xc := hx2.cell (j := 1) rfl
  obtain ⟨w3, hw3⟩ : ∃ x, x = w2.setCell ⟨g, 1, none⟩ (.slice va L vc) := ⟨_, rfl⟩
  have hs' : Step (· = 10 * i') w2 o2 w3 o2 := by rw [hw3]; exact (Step.refl _ _ _).set (p := ⟨g, 1, none⟩) hx2.lab _
  have hx3 := hx2.set 1 (.slice va L vc)
  rw [← hw3] at hx3
  have HX3 := Lib.hid (show Blk w3 o2 (10 * i') g [.int .i64 Wn, .slice va L vc, .int .i64 An, .int .i64 Gn, .map (some mb), .bool On] from hx3)
  have HR3 := Lib.hid (hr2.step hs' (by omega))
  have HS3 := Lib.hid ((HS1.out.trans hs2).trans (hs'.mono fun l h => by unfold Own; omega))
  have HW3 := Lib.hid hw3
  clear hw3 hs' hx2 hx3 hr2 hs2 ho2 hown hb HX1 HS1 KC
  go_upto_region 3 with fail
  rw [← HW3.out]
  clear xf xc HW3 x1'
  obtain ⟨w4, hw4⟩ : ∃ x, x = w3.alloc (.map #[] 0) := ⟨_, rfl⟩
  obtain ⟨o4, ho4⟩ : ∃ x, newLab w3 o2 (10 * i' + 2) = x := ⟨_, rfl⟩
  have hs4 : Step (Own i') w3 o2 w4 o4 := by rw [hw4, ← ho4]; exact Step.below ((Below.refl _ w3).alloc (Nat.le_refl _) _) fun k hk => newLab_old w3 o2 _ hk
  have hs4' : Step (fun _ => False) w3 o2 w4 o4 := by rw [hw4, ← ho4]; exact Step.below ((Below.refl _ w3).alloc (Nat.le_refl _) _) fun k hk => newLab_old w3 o2 _ hk
  obtain ⟨m, hm⟩ : ∃ m, w3.heap.size = m := ⟨_, rfl⟩
  have hM4 : MapL w4 o4 (10 * i' + 2) m [] := by rw [hw4, ← ho4, ← hm]; exact ⟨⟨#[], 0, heap_alloc_new _ _, rfl, by simp⟩, newLab_new _ _ _ (Nat.le_refl _)⟩
  have hx4 := HX3.out.step hs4' fun h => h
  have hr4 := HR3.out.step hs4' fun h => h
  have xf := hx4.frozen 4
  have xc := hx4.cell (j := 4) rfl
  obtain ⟨w5, hw5⟩ : ∃ x, x = w4.setCell ⟨g, 4, none⟩ (.map (some m)) := ⟨_, rfl⟩
  have hs' : Step (· = 10 * i') w4 o4 w5 o4 := by rw [hw5]; exact (Step.refl _ _ _).set (p := ⟨g, 4, none⟩) hx4.lab _
  have hx5 := hx4.set 4 (.map (some m))
  rw [← hw5] at hx5
  have HX5 := Lib.hid (show Blk w5 o4 (10 * i') g [.int .i64 Wn, .slice va L vc, .int .i64 An, .int .i64 Gn, .map (some m), .bool On] from hx5)
  have HR5 := Lib.hid (hr4.step hs' (by omega))
  have HM5 := Lib.hid (hM4.step hs' (by omega))
  have hs5 := (HS3.out.trans hs4).trans (hs'.mono fun l h => by unfold Own; omega)
  have y4 := (H1.out.step hs5 (by unfold Own; omega)).cell (j := 4) rfl
  have hm5 := HE.out.step hs5 (by unfold Own; omega)
  obtain ⟨ck, hck, hrg⟩ := run_range_empty (P := Try.prog) Try.underlying100 hm5
  have hnx := fun ty => run_next_empty (P := Try.prog) ty hck
  have HS5 := Lib.hid hs5
  have HW5 := Lib.hid hw5
  have HW4 := Lib.hid hw4
  have HMM := Lib.hid hm
  have HRG := Lib.hid hrg
  have HNX := Lib.hid hnx
  clear hw4 hw5 hs' hx4 hr4 hs4 hs4' ho4 hM4 hx5 hs5 hm5 hck HX3 HR3 HS3 hrg hnx
  have hmm := @run_makeMap Try.prog
  have xc' := xc
  have xf' := xf
  rw [HW4.out] at xc' xf'
  go_upto_region 4 with fail
  rw [← HW4.out]
  try rw [hm]
  rw [← HW5.out]
  clear hmm xc xf xc' xf'
  have hrg := HRG.out
  have hnx := HNX.out
  go_wp2_with fail
  refine wp_loop_rounds 1 ?_
  rw [rounds_succ]
  go_wp2_with fail
  go_ret
  have hsf : Step (fun _ => False) w5 o4 (w5.alloc (.mapIter (some mb) ck #[] ck)) o4 := (Step.refl _ _ _).alloc _
  have hso := HS5.out.trans (hsf.mono fun _ h => h.elim)
  obtain ⟨e1, e2, e3, e4, e5⟩ := HX0.out
  refine ⟨g, rfl, o4, hso, .slice va L vc, vs, m, [], ?_, ?_, H3.out.step hso (by unfold Own; omega), HM5.out.step hsf fun h => h, ?_⟩
  · rw [e1, e2, e3, e4]
    exact HX5.out.step hsf fun h => h
  · rw [e5]
    exact HR5.out.step hsf fun h => h
  · rw [HH.out]
    exact .nil
end Go.Proofs.Ytmonpnikdheokaa
