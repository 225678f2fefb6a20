/-
  Contracts of package session: Cancel, Waiting, Answers, Finish.
-/
import Derived.Test.YtaonhmdifinadaaSesD
import Derived.Test.YtaonhmdifinadaaEnds
namespace Go.Proofs.Ytaonhmdifinadaa
open Go Go.Proofs
open Go.RowKit
set_option linter.unusedVariables false
set_option linter.unusedSimpArgs false

theorem cancel1_any (g : Nat) (id : Int) (v : Rq) (W : World) (h2 : W.cell? ⟨g, 0, none⟩ = some (.int .i64 id)) :
    Calls Try.prog 72 (#[.agg #[.int .i64 v.id, .int .i64 v.kind, .string v.doc, .int .i64 v.ver, .int .i64 v.off, .string v.txt]] ++ #[.pointer (some ⟨g, 0, none⟩)]) W fun e w' => e = .returned (.bool (v.id == id)) ∧ Below W.heap.size W w' := by
  have hlt := World.block_lt_of_cell? W _ h2
  have hne : W.heap.size ≠ g := by simp only at hlt; omega
  have hne' : g ≠ W.heap.size := fun h => hne h.symm
  show Calls _ _ #[_, _] _ _
  go_enter Try.func72, Try.ntmps72
  go_wp2
  go_ret
  exact ⟨rfl, (Below.refl _ _).alloc (Nat.le_refl _) _⟩
theorem ixI_rq (l : List Rq) (id : Int) : ixI (fun r : Rq => r.id == id) l = if ixR l id < l.length then (ixR l id : Int) else -1 := rfl

set_option maxRecDepth 100000 in
set_option maxHeartbeats 4000000 in
theorem cancel_any (i b : Nat) (S : SesS) (id : Int) (w : World) (o : Nat → Nat) (hi : 1 ≤ i) (hS : SesP w o i b S) (hn : S.rq.length ≤ 1000000) (ha : S.an.length ≤ 1000000) :
    Calls Try.prog 28 #[.pointer (some ⟨b, 0, none⟩), .int .i64 id] w fun e w' => e = .returned (.int .i64 (canE S id)) ∧ ∃ o', Step (Own i) w o w' o' ∧ SesP w' o' i b (canS S id) := by
  have hE : canE S id = if ixR S.rq id < S.rq.length then 0 else 7 := rfl
  have hT : canS S id = ansS S (ixR S.rq id) 18 ByteArray.empty := rfl
  obtain ⟨E, hEE⟩ : ∃ E, canE S id = E := ⟨_, rfl⟩
  obtain ⟨T, hTT⟩ : ∃ T, canS S id = T := ⟨_, rfl⟩
  rw [hEE] at hE ⊢
  rw [hTT] at hT ⊢
  obtain ⟨w1, hw1⟩ : ∃ x, x = w.alloc (.cells #[.int .i64 id] 3) := ⟨_, rfl⟩
  have hb0 : w1.heap[w.heap.size]? = some (.cells #[.int .i64 id] 3 (0, 0)) := by rw [hw1]; exact heap_alloc_new w _
  have hBB : Below w.heap.size w w1 := by rw [hw1]; exact (Below.refl _ w).alloc (Nat.le_refl _) _
  have x0 := cell_of_row w1 w.heap.size 0 _ _ _ hb0
  simp at x0
  have hS1 := hS.same hBB
  have hS1' := hS1
  obtain ⟨rv, av, h1, h2, h3⟩ := hS1'
  obtain ⟨ra, rc, rfl⟩ := h2.form
  have hrec := h2.recAt.2
  have c0 := h1.cell (j := 0) rfl
  rw [hw1] at c0
  have kx := indexR_any 72 #[.pointer (some ⟨w.heap.size, 0, none⟩)] (enters_of Try.func72 (by kernel_rfl) rfl) (fun r => r.id == id) ra rc S.rq w1 hrec
    fun W v hW => cancel1_any w.heap.size id v W (Below.kept hW (Nat.le_refl _) x0)
  rw [ixI_rq] at kx
  have hle := ixR_le S.rq id
  generalize ixR S.rq id = k at *
  have KX := Lib.hid kx
  have HW1 := Lib.hid hw1
  have HS1 := Lib.hid hS1
  have HT := Lib.hid hT
  have HE := Lib.hid hE
  clear kx hw1 hS1 hS hT hE h1 h2 h3 hrec hb0 x0 hEE hTT
  go_enter Try.func28, Try.ntmps28
  go_wp2_with fail
  rw [← HW1.out]
  refine KX.out.mono ?_
  rintro e w2 ⟨rfl, hb2⟩
  have hS2 := HS1.out.same hb2
  have hB := Below.step hBB hb2
  by_cases hk : k < S.rq.length
  · rw [if_pos hk]
    have hE := HE.out
    rw [if_pos hk] at hE
    subst hE
    have dk : ¬ (k : Int) < 0 := by omega
    have ka := answer_any i b k S 18 ⟨#[]⟩ w2 o hi hS2 hk hn ha
    clear c0
    go_wp2_with fail
    refine ka.mono ?_
    rintro e w3 ⟨rfl, o3, hs3, hS3⟩
    go_wp2_with fail
    go_ret
    refine ⟨rfl, o3, (Step.same (L := fun _ => False) hB).into hs3, ?_⟩
    rw [show T = _ from HT.out]
    exact hS3
  · rw [if_neg hk]
    have hE := HE.out
    rw [if_neg hk] at hE
    subst hE
    clear c0
    go_wp2_with fail
    go_ret
    refine ⟨rfl, o, Step.same hB, ?_⟩
    rw [show T = _ from HT.out, ans_none (by omega)]
    exact hS2

theorem Blk.setCellStep {w : World} {o : Nat → Nat} {l b : Nat} {cs : List Value} (h : Blk w o l b cs) (j : Nat) (u : Value) : Step (· = l) w o (w.setCell ⟨b, j, none⟩ u) o := (Step.refl _ _ _).set (p := ⟨b, j, none⟩) h.lab _

/-- Answers: the row goes on as it is. -/
theorem answers_any (i b : Nat) (S : SesS) (w : World) (o : Nat → Nat) (hi : 1 ≤ i) (hS : SesP w o i b S) :
    Calls Try.prog 22 #[.pointer (some ⟨b, 0, none⟩)] w fun e w' => ∃ v, e = .returned v ∧ Step (Own i) w o w' o ∧ SesP w' o i b (clrS S) ∧ RowA w' o (10 * i + 2) v S.an := by
  obtain ⟨rv, av, h1, h2, h3⟩ := hS
  have c3 := h1.cell (j := 3) rfl
  have d3 := h1.frozen 3
  obtain ⟨aa, ac, rfl⟩ := h3.form
  have H1 := Lib.hid h1
  have H2 := Lib.hid h2
  have H3 := Lib.hid h3
  clear h1 h2 h3
  go_enter Try.func22, Try.ntmps22
  go_wp2
  go_ret
  have hs := H1.out.setCellStep 3 (.slice none 0 0)
  exact ⟨_, rfl, hs.mono fun l hl => by subst hl; exact Own.at0 i, ⟨rv, .slice none 0 0, H1.out.set 3 _, H2.out.step hs (by omega), RecL.nil _ _ _⟩, H3.out.step hs (by omega)⟩

theorem row_new2 {w : World} {a : Obj} {cs : List Value} {e n size : Nat} (h : cs.length = n * size) (hn : n ≤ 9223372036854775807) :
    RowAt ((w.alloc a).alloc (.cells cs.toArray e)) (some ⟨w.heap.size + 1, 0, none⟩) n n size cs := by
  have := row_new (w := w.alloc a) (cs := cs) (e := e) h hn
  rwa [World.size_alloc] at this

set_option maxRecDepth 100000 in
set_option maxHeartbeats 1000000 in
theorem swaiting_any (i b : Nat) (S : SesS) (w : World) (o : Nat → Nat) (hS : SesP w o i b S) (hn : S.rq.length ≤ 1000000) :
    Calls Try.prog 20 #[.pointer (some ⟨b, 0, none⟩)] w fun e w' => ∃ v, e = .returned v ∧ w'.ownsRow w.heap.size 3 1 v S.rq.length ((idsR S.rq).map intV) ∧ Below w.heap.size w w' := by
  obtain ⟨rv, av, h1, h2, h3⟩ := hS
  obtain ⟨ra, rc, rfl⟩ := h2.form
  have hrec := h2.recAt.2
  have c0 := h1.cell (j := 0) rfl
  obtain ⟨rs, hrs⟩ : ∃ rs, S.rq = rs := ⟨_, rfl⟩
  rw [hrs] at hrec c0 hn ⊢
  have HR := Lib.hid hrec
  clear h1 h2 h3 hrs hrec
  have hcl := HR.out.cap_le
  have hle := HR.out.le
  go_enter Try.func20, Try.ntmps20
  go_wp2_with fail
  go_loopw [3, 11] (fun ov iv wr => ∃ k : Nat, k ≤ rs.length ∧ iv = .int .i64 k ∧ Hid (wr.ownsRow w.heap.size 3 1 ov k ((idsR (rs.take k)).map intV)) ∧ Below w.heap.size w wr) (fun _ iv _ => rs.length - (intOf iv).toNat)
  case atStart => exact ⟨0, by omega, rfl, World.ownsRow_nil _ _ _ _, Below.refl _ _⟩
  case round =>
    obtain ⟨k, hk, rfl, hO, hB⟩ := hrel
    by_cases hlt : k < rs.length
    · obtain ⟨b1, off, rfl⟩ := RecAt.addr rqZ (by decide) HR.out (by omega)
      obtain ⟨e, he⟩ : ∃ e, rs[k]? = some e := ⟨rs[k], List.getElem?_eq_getElem hlt⟩
      obtain ⟨f0, f1, f2, f3, f4, f5⟩ := Rqs.cells (RecAt.below HR.out hB) he
      have htk : idsR (rs.take (k + 1)) = idsR (rs.take k) ++ [e.id] := by
        rw [List.getElem?_eq_getElem hlt, Option.some.injEq] at he
        unfold idsR
        rw [List.take_succ_eq_append_getElem hlt, List.map_append, he]
        rfl
      have HTK := Lib.hid htk
      clear he htk
      obtain ⟨ei, ek, ed, ev, eo, et⟩ := e
      simp only at f0 f1 f2 f3 f4 f5
      have hb2 : ∀ a c, Below wr.heap.size wr ((wr.alloc a).alloc c) := fun a c => ((Below.refl _ wr).alloc (Nat.le_refl _) a).alloc (by simp) c
      go_wp2_with (at_builtin; refine wpList_append_src _ rfl _ _ 22 rfl elemI w.heap.size _ k _ rfl (ownsRow_below hO.out (hb2 _ _)) (some ⟨wr.heap.size + 1, 0, none⟩) 1 1 [.int .i64 ei] rfl (row_new2 (cs := [.int .i64 ei]) (by rfl) (by omega)) (by simp [Value.oneCell']) (by omega) (by omega) (by have := hB.size; simp; omega) ?_)
      intro v' w5 hown5 hbel5 hgrow5
      go_wp2_with fail
      go_roundw
      case rel =>
        refine ⟨k + 1, by omega, by go_num, ?_, (Below.step hB (hb2 _ _)).trans hbel5⟩
        show World.ownsRow _ _ _ _ _ _ _
        rw [HTK.out, List.map_append]
        exact hown5
      case measure => simp [intOf]; omega
    · obtain rfl : k = rs.length := by omega
      go_wp2_with fail
      go_ret
      have hO' := hO.out
      rw [List.take_length] at hO'
      exact ⟨_, rfl, hO', hB⟩
end Go.Proofs.Ytaonhmdifinadaa
