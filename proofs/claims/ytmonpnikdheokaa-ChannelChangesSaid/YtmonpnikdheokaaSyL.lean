/-
  Contracts of package document: apply, Receive of the next change.
-/
import Derived.Test.YtmonpnikdheokaaSyK
import Derived.Deep.CutBlock
namespace Go.Proofs.Ytmonpnikdheokaa
open Go Go.Proofs
open Go.RowKit
set_option linter.unusedVariables false
set_option linter.unusedSimpArgs false

theorem zeroPE (w : World) : (zeroValue 68).run Try.prog w = .ok (.slice none 0 0) w := by
  obtain ⟨i, hi, hz, _⟩ := info_parts (P := Try.prog) (e := 68) (z := .slice none 0 0) (size := 1) (bytes := 24) (by kernel_rfl)
  simp [zeroValue, typeInfo, hi, hz]

set_option maxRecDepth 100000 in
set_option maxHeartbeats 2000000 in
theorem docApply_any (i b m : Nat) (H : List (List UInt8)) (txt : List UInt8) (a : Option Addr) (c : Nat) (ps : List PEd) (es : List Ed) (w : World) (o : Nat → Nat) (hi : 1 ≤ i) (h : DocH w o i b m H) (ht : H[m]? = some txt) (hx : PEdsAt w a c ps) (h1 : OneC txt ps es) (hm : m ≤ 15) (hl : txt.length ≤ 4096) :
    Calls Try.prog 64 #[.pointer (some ⟨b, 0, none⟩), .slice a ps.length c] w fun e w' => e = .returned (.int .i64 0) ∧ ∃ o', Step (Own i) w o w' o' ∧ DocH w' o' i b (m + 1) (H ++ [applyL txt 0 es]) := by
  obtain ⟨e1, e2, e3, e4, e5, e6⟩ := h1
  have hft := snd_ft e2
  have hpx := pbX_all (l := txt) (es := es) (fun e he => ⟨e5 e he, (hft e he).2.2.1⟩) (by omega)
  rw [← e1] at hpx
  have hpw : ∀ p ∈ ps, PEdW p := by
    intro p hp
    rw [e1] at hp
    obtain ⟨e, he, rfl⟩ := List.mem_map.1 hp
    have hxl := e4 e he
    obtain ⟨f, t, hf, ht, bf, bt⟩ := e5 e he
    obtain ⟨l1, u1, q1, o1, r1, r2, r3⟩ := bord_posG bf (by omega)
    obtain ⟨l2, u2, q2, o2, r4, r5, r6⟩ := bord_posG bt (by omega)
    unfold pedOf
    rw [hf, ht, q1, q2]
    refine ⟨⟨?_, ?_⟩, ⟨?_, ?_⟩, ⟨?_, ?_⟩, ⟨?_, ?_⟩, ?_⟩ <;> (first | (dsimp only; omega) | (show (strB e.x).size ≤ _; rw [strB_size]; omega))
  have k1 := docText_any i b m H txt w o h ht (by omega)
  have k2 := fun W (hW : Below w.heap.size w W) => pbytes_any (strB txt) a c ps W (by rw [strB_size]; omega) (RecAt.below hx hW) hpw
  rw [strB_list, hpx] at k2
  have K1 := Lib.hid k1
  have K2 := Lib.hid k2
  have k3 := fun W (hW : Below w.heap.size w W) a' c' (hE : EdsAt W a' c' es) => docBecome_any i b m H txt a' c' es W o hi (h.same hW) ht hE hm hl e2 (by omega) e6
  have K3 := Lib.hid k3
  have HFT := Lib.hid hft
  clear k1 k2 k3 hx h hpw hpx e1 e2 e4 e5 e6 hft
  go_enter Try.func64, Try.ntmps64
  go_wp2_with fail
  refine K1.out.mono ?_
  rintro e w1 ⟨rfl, hb1⟩
  go_wp2_with fail
  refine (K2.out w1 hb1).mono ?_
  rintro e w2 ⟨v2, rfl, ho2, hb2⟩
  have hy := ownBEd_eds ho2 fun e he => ⟨(HFT.out e he).1, (HFT.out e he).2.1⟩
  obtain ⟨a2, c2, rfl, hY⟩ := hy.at
  have hB2 := Below.step hb1 hb2
  have K4 := Lib.hid (K3.out w2 hB2 a2 c2 hY)
  have HB2 := Lib.hid hB2
  clear ho2 hy hY hb1 hb2 hB2 K1 K2 K3
  go_wp2_with fail
  refine K4.out.mono ?_
  rintro e w3 ⟨rfl, o3, hs3, hd3⟩
  go_wp2_with fail
  go_ret
  exact ⟨rfl, o3, (Step.below HB2.out fun _ _ => rfl).trans hs3, hd3⟩

set_option maxRecDepth 100000 in
set_option maxHeartbeats 4000000 in
theorem docReceive_any (i b m : Nat) (H : List (List UInt8)) (txt : List UInt8) (a : Option Addr) (c : Nat) (ps : List PEd) (es : List Ed) (w : World) (o : Nat → Nat) (hi : 1 ≤ i) (h : DocH w o i b m H) (ht : H[m]? = some txt) (hx : PEdsAt w a c ps) (h1 : OneC txt ps es) (hm : m ≤ 15) (hl : txt.length ≤ 4096) :
    Calls Try.prog 30 #[.pointer (some ⟨b, 0, none⟩), .agg #[.int .i64 ((m : Int) + 1), .slice a ps.length c]] w fun e w' => e = .returned (.tuple #[.int .i64 1, .int .i64 0]) ∧ ∃ o', Step (Own i) w o w' o' ∧ DocH w' o' i b (m + 1) (H ++ [applyL txt 0 es]) := by
  have hpl : ps.length ≤ 5 := by rw [h1.ps, List.length_map]; exact h1.few
  obtain ⟨w1, hw1⟩ : ∃ x, x = w.alloc (.cells #[.int .i64 ((m : Int) + 1), .slice a ps.length c] 70) := ⟨_, rfl⟩
  have hb0 : w1.heap[w.heap.size]? = some (.cells #[.int .i64 ((m : Int) + 1), .slice a ps.length c] 70 (0, 0)) := by rw [hw1]; exact heap_alloc_new w _
  have hBB : Below w.heap.size w w1 := by rw [hw1]; exact (Below.refl _ w).alloc (Nat.le_refl _) _
  have x0 := cell_of_row w1 w.heap.size 0 _ _ _ hb0
  have x1 := cell_of_row w1 w.heap.size 1 _ _ _ hb0
  simp at x0 x1
  have hd1 := h.same hBB
  obtain ⟨g, cc, mb, c0, c1, c2, c3, hc, hcm, hmb⟩ := hd1.read
  have hlk : ∀ n, (Instr.lookup 120 (.map (some mb)) (.int .i64 ((m : Int) + 1)) true).run Try.prog (w1.drewN n) = .ok (.tuple #[.slice none 0 0, .bool false]) (w1.drewN n) := fun n =>
    run_look (w := w1.drewN n) Try.underlying120 Try.underlying3 (zeroPE _) (hmb.keep (w' := w1.drewN n) rfl) _
  have ka := fun W (hW : Below w1.heap.size w1 W) => docApply_any i b m H txt a c ps es W o hi (hd1.same hW) ht (RecAt.below hx (Below.step hBB hW)) h1 hm hl
  have HD1 := Lib.hid hd1
  have HBB := Lib.hid hBB
  have HW1 := Lib.hid hw1
  have KA := Lib.hid ka
  have i1 : IntKind.i64.wrap ((m : Int) + 1) = (m : Int) + 1 := IntWalk.i64_in _ (by omega)
  have i2 : IntKind.i64.wrap ((m : Int) + 1 + 1) = (m : Int) + 1 + 1 := IntWalk.i64_in _ (by omega)
  have d1 : decide ((m : Int) + 1 < (m : Int) + 1) = false := by simp
  have d2 : decide ((m : Int) + 1 < 1) = false := decide_eq_false (by omega)
  have d3 : decide ((1099511627776 : Int) < (m : Int) + 1) = false := decide_eq_false (by omega)
  have d4 : decide ((64 : Int) < (ps.length : Int)) = false := decide_eq_false (by omega)
  have d4' : decide (64 < ps.length) = false := decide_eq_false (by omega)
  have d5 : decide ((m : Int) + 1 ≤ (m : Int)) = false := decide_eq_false (by omega)
  clear hb0 hBB hw1 hd1 h hx h1 ka hmb c3
  generalize hgs : w.heap.size = gs at *
  go_enter Try.func30, Try.ntmps30
  go_wp2_with fail
  rw [← HW1.out]
  go_quiet (fail)
  obtain ⟨W2, hW2⟩ : ∃ x, x = w1.drewN nq := ⟨_, rfl⟩
  have hB2 : Below w1.heap.size w1 W2 := by rw [hW2]; exact Below.drewN _
  have c0 := Below.kept hB2 (Nat.le_refl _) c0
  have c1 := Below.kept hB2 (Nat.le_refl _) c1
  have c2 := Below.kept hB2 (Nat.le_refl _) c2
  have x0 := Below.kept hB2 (Nat.le_refl _) x0
  have x1 := Below.kept hB2 (Nat.le_refl _) x1
  rw [← hW2]
  clear hW2
  clear hlk
  go_wp2_with fail
  go_quiet (fail)
  obtain ⟨W3, hW3⟩ : ∃ x, x = W2.drewN nq := ⟨_, rfl⟩
  have hB3 : Below W2.heap.size W2 W3 := by rw [hW3]; exact Below.drewN _
  have c0 := Below.kept hB3 (Nat.le_refl _) c0
  have c1 := Below.kept hB3 (Nat.le_refl _) c1
  have c2 := Below.kept hB3 (Nat.le_refl _) c2
  have x0 := Below.kept hB3 (Nat.le_refl _) x0
  have x1 := Below.kept hB3 (Nat.le_refl _) x1
  rw [← hW3]
  clear hW3
  go_wp2_with fail
  go_quiet (fail)
  obtain ⟨W4, hW4⟩ : ∃ x, x = W3.drewN nq := ⟨_, rfl⟩
  have hB4 : Below W3.heap.size W3 W4 := by rw [hW4]; exact Below.drewN _
  have c0 := Below.kept hB4 (Nat.le_refl _) c0
  have c1 := Below.kept hB4 (Nat.le_refl _) c1
  have c2 := Below.kept hB4 (Nat.le_refl _) c2
  have x0 := Below.kept hB4 (Nat.le_refl _) x0
  have x1 := Below.kept hB4 (Nat.le_refl _) x1
  rw [← hW4]
  clear hW4
  have hB14 := Below.step (Below.step hB2 hB3) hB4
  have K5 := Lib.hid (KA.out W4 hB14)
  have HB14 := Lib.hid hB14
  clear KA hB2 hB3 hB4 hB14
  go_wp2_with fail
  refine K5.out.mono ?_
  rintro e w5 ⟨rfl, o5, hs5, hd5⟩
  obtain ⟨g', cc', mb', c0, c1, c2, c3, hc', hcm', hmb'⟩ := hd5.read
  have hlk : ∀ n, (Instr.lookup 120 (.map (some mb')) (.int .i64 ((m : Int) + 1 + 1)) true).run Try.prog (w5.drewN n) = .ok (.tuple #[.slice none 0 0, .bool false]) (w5.drewN n) := fun n =>
    run_look (w := w5.drewN n) Try.underlying120 Try.underlying3 (zeroPE _) (hmb'.keep (w' := w5.drewN n) rfl) _
  have HS5 := Lib.hid hs5
  have HD5 := Lib.hid hd5
  clear hs5 hd5 hmb' K5
  have cv : ((m + 1 : Nat) : Int) = (m : Int) + 1 := by omega
  rw [cv] at c0
  go_wp2_with fail
  go_loopw [10] (fun nv wr => nv = .int .i64 1 ∧ wr = w5) (fun _ _ => 0)
  case atStart => exact ⟨by first | rfl | trivial, by first | rfl | trivial⟩
  case round =>
    obtain ⟨rfl, hww⟩ := hrel
    have hww := hww.symm
    subst hww
    go_wp2_with fail
    go_quiet (fail)
    go_wp2_with fail
    go_ret2
    have s1 : Step (Own i) w o W4 o := (Step.below (o' := o) (L := Own i) (by rw [hgs]; exact HBB.out) fun _ _ => rfl).trans (Step.same HB14.out)
    exact ⟨rfl, o5, (s1.trans HS5.out).trans (Step.same (Below.drewN _)), HD5.out.same (Below.drewN _)⟩
end Go.Proofs.Ytmonpnikdheokaa
