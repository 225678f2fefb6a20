/-
  The law SessionArguments.
-/
import Derived.Test.YtaonhmdifinadaaSesU0
import Derived.Test.YtaonhmdifinadaaSesI
import Derived.Test.YtaonhmdifinadaaSesR2
import Derived.Test.YtaonhmdifinadaaSesS0
import Derived.Laws.MakeOwn
import Derived.Deep.DeepCutAuto
import Derived.Deep.CutBlock
namespace Go.Proofs.Ytaonhmdifinadaa
open Go Go.Proofs
open Go.RowKit
set_option linter.unusedVariables false
set_option linter.unusedSimpArgs false

/-! ### A string of many zero bytes -/
theorem make_n (n : Nat) (hn : n ≤ 5000) : ∃ X : Array Value, (∀ i, i < n → X[i]? = some (byteV 0)) ∧ ∀ w : World, (Instr.makeSlice 78 (.int .i64 n) (.int .i64 n)).run Try.prog w = .ok (.slice (some ⟨w.heap.size, 0, none⟩) n n) (w.alloc (.cells X 5)) := by
  obtain ⟨i, hi, hz0, hz1, hz2⟩ := elemB.info
  refine ⟨madeCells (Value.int .u8 0).cells (n * i.size), fun j hj => ?_, fun w => ?_⟩
  · rw [hz1, show (Value.int .u8 0).cells = #[.int .u8 0] from rfl, Nat.mul_one, Array.getElem?_eq_getElem (by rw [size_madeCells]; exact hj)]
    simp [madeCells, Nat.mod_one, byteV]
  · exact run_make w _ _ i _ Try.underlying78 hi hz0 .i64 .i64 n n (by omega) (by omega) (by rw [hz2]; omega) (by omega)
def zerosB (n : Nat) : ByteArray := ⟨(List.replicate n 0).toArray⟩
theorem zerosB_size (n : Nat) : (zerosB n).size = n := by simp [zerosB, ByteArray.size]
theorem conv_zeros {X : Array Value} {n : Nat} (hn : n ≤ 5000) (hX : ∀ i, i < n → X[i]? = some (byteV 0)) (w : World) (e : Nat) :
    (convert 78 9 (.slice (some ⟨w.heap.size, 0, none⟩) n n)).run Try.prog (w.alloc (.cells X e)) = .ok (.string (zerosB n)) (w.alloc (.cells X e)) := by
  have hs : SliceAt (w.alloc (.cells X e)) (some ⟨w.heap.size, 0, none⟩) n ((List.replicate n (0 : UInt8)).map byteV) := by
    refine ⟨by simp, by omega, by simp, fun _ => ⟨w.heap.size, 0, rfl, fun i v hi => ?_⟩⟩
    rw [Nat.zero_add, cell_of_row _ w.heap.size i X e (0, 0) (heap_alloc_new w _)]
    rw [List.getElem?_map, List.getElem?_replicate] at hi
    split at hi
    · rw [hX i (by assumption), ← hi]; rfl
    · simp at hi
  have h := run_string_of (P := Try.prog) (w.alloc (.cells X e)) Try.underlying78 Try.underlying5 Try.underlying9 (some ⟨w.heap.size, 0, none⟩) n (List.replicate n 0) hs
  rw [List.length_replicate] at h
  exact h

/-! ### The law's state in memory -/
structure AW (w wr : World) (o : Nat → Nat) (b : Nat) (S : SesS) : Prop where
  since : Step (fun x => x ≠ 0) w (fun _ => 0) wr o
  ses : SesP wr o 1 b S
section
variable {L : Nat → Prop} {w wr w' : World} {o o' : Nat → Nat} {b : Nat} {S S' : SesS}
theorem AW.step (h : AW w wr o b S) (hs : Step L wr o w' o') (h0 : ∀ l, L l → l ≠ 0 ∧ ¬ Own 1 l) : AW w w' o' b S :=
  ⟨h.since.trans (hs.mono fun l hl => (h0 l hl).1), h.ses.step hs fun l hl h => (h0 l h).2 hl⟩
theorem AW.same (h : AW w wr o b S) (hb : Below wr.heap.size wr w') : AW w w' o b S := h.step (L := fun _ => False) (Step.same hb) fun _ h => h.elim
theorem AW.setS (h : AW w wr o b S) (hs : Step (Own 1) wr o w' o') (hS : SesP w' o' 1 b S') : AW w w' o' b S' :=
  ⟨h.since.trans (hs.mono fun l hl e => by unfold Own at hl; omega), hS⟩
theorem AW.below (h : AW w wr o b S) : Below w.heap.size w wr := h.since.toBelow (Nat.le_refl _) fun k _ h => h rfl
end
theorem getV {r x : Rq} {k : Nat} (hk : k < 2) : ∃ q, ([r, x] : List Rq)[k]? = some q ∧ (q = r ∨ q = x) := by
  have : k = 0 ∨ k = 1 := by omega
  rcases this with rfl | rfl
  · exact ⟨r, rfl, .inl rfl⟩
  · exact ⟨x, rfl, .inr rfl⟩

set_option maxRecDepth 100000 in
set_option maxHeartbeats 8000000 in
theorem sessionArguments_walk (r : Rq) (field n many : Int) (w : World) (hd : r.doc.size ≤ 9223372036854775807) (ht : r.txt.size ≤ 9223372036854775807)
    (hf : -9223372036854775808 ≤ field ∧ field ≤ 9223372036854775807) (hn : -9223372036854775808 ≤ n ∧ n ≤ 9223372036854775807) (hm : -9223372036854775808 ≤ many ∧ many ≤ 9223372036854775807) :
    Calls Try.prog 6 #[.agg #[.int .i64 r.id, .int .i64 r.kind, .string r.doc, .int .i64 r.ver, .int .i64 r.off, .string r.txt], .int .i64 field, .int .i64 n, .int .i64 many] w fun e w' => e = .returned (.bool true) ∧ Below w.heap.size w w' := by
  obtain ⟨ri, rk, rd, rv, rof, rt⟩ := r
  simp only at hd ht
  obtain ⟨w1, hw1⟩ : ∃ x, x = w.alloc (.cells #[.int .i64 ri, .int .i64 rk, .string rd, .int .i64 rv, .int .i64 rof, .string rt] 44) := ⟨_, rfl⟩
  obtain ⟨o1, ho1⟩ : ∃ x, newLab w (fun _ => 0) 24 = x := ⟨_, rfl⟩
  have hs1 : Step (fun _ => False) w (fun _ => 0) w1 o1 := by rw [hw1, ← ho1]; exact Step.newBlk _ _ _
  have hb1 : Blk w1 o1 24 w.heap.size [.int .i64 ri, .int .i64 rk, .string rd, .int .i64 rv, .int .i64 rof, .string rt] := by rw [hw1, ← ho1]; exact ⟨_, heap_alloc_new _ _, newLab_new _ _ _ (Nat.le_refl _)⟩
  obtain ⟨gr, hgr⟩ : ∃ g, w.heap.size = g := ⟨_, rfl⟩
  rw [hgr] at hb1
  have HST1 := Lib.hid (hs1.mono (L' := fun x => x ≠ 0) fun _ h => h.elim)
  have HB1 := Lib.hid hb1
  have HW1 := Lib.hid hw1
  have HGR := Lib.hid hgr
  clear hw1 ho1 hs1 hb1 hgr
  go_enter Try.func6, Try.ntmps6
  go_wp2_with fail
  rw [HGR.out, ← HW1.out]
  refine (snew_any 1 w1 o1).mono ?_
  rintro e w2 ⟨b, rfl, o2, hs2, hS2⟩
  have HA2 := Lib.hid (show AW w w2 o2 b newS from ⟨HST1.out.trans (hs2.mono fun _ h => h.elim), hS2⟩)
  have hB2 := HB1.out.step hs2 fun h => h
  have c2 := hB2.cell (j := 2) rfl
  have HB2 := Lib.hid hB2
  clear hs2 hS2 hB2 HST1 HB1 HW1
  go_wp2_with fail
  refine (short_any rd 20 w2 hd (by omega)).mono ?_
  rintro e w3 ⟨rfl, rfl⟩
  obtain ⟨sd, hsd⟩ : ∃ sd, rd.extract 0 20 = sd := ⟨_, rfl⟩
  have hsd20 : sd.size ≤ 20 := by rw [← hsd, ByteArray.size_extract]; omega
  rw [show rd.extract 0 ((20 : Nat)) = sd from hsd]
  have f2 := HB2.out.frozen 2
  have hs3 := HB2.out.setCellStep 2 (.string sd)
  have hb3 := HB2.out.set 2 (.string sd)
  have hA3 := HA2.out.step hs3 (fun l hl => by unfold Own; omega)
  obtain ⟨w3, hw3⟩ : ∃ x, x = w2.setCell ⟨gr, 2, none⟩ (.string sd) := ⟨_, rfl⟩
  rw [← hw3] at hs3 hb3 hA3
  obtain ⟨w4, hw4⟩ : ∃ x, x = w3.alloc (.cells #[.int .i64 1, .int .i64 0, .string ⟨#[97]⟩, .int .i64 0, .int .i64 0, .string ⟨#[]⟩] 44) := ⟨_, rfl⟩
  obtain ⟨o4, ho4⟩ : ∃ x, newLab w3 o2 25 = x := ⟨_, rfl⟩
  have hs4 : Step (fun _ => False) w3 o2 w4 o4 := by rw [hw4, ← ho4]; exact Step.newBlk _ _ _
  have hb4 : Blk w4 o4 25 w3.heap.size (rqC ⟨1, 0, ⟨#[97]⟩, 0, 0, ⟨#[]⟩⟩) := by rw [hw4, ← ho4]; exact ⟨_, heap_alloc_new _ _, newLab_new _ _ _ (Nat.le_refl _)⟩
  have hsz3 : w3.heap.size = w2.heap.size := by rw [hw3]; simp [World.setCell]
  rw [hsz3] at hb4
  obtain ⟨gx, hgx⟩ : ∃ g, w2.heap.size = g := ⟨_, rfl⟩
  rw [hgx] at hb4
  have HA4 := Lib.hid (hA3.step hs4 fun _ h => h.elim)
  have HR4 := Lib.hid (show Blk w4 o4 24 gr (rqC ⟨ri, rk, sd, rv, rof, rt⟩) from hb3.step hs4 fun h => h)
  have HX4 := Lib.hid hb4
  have HW3 := Lib.hid hw3
  have HW4 := Lib.hid hw4
  have HGX := Lib.hid hgx
  clear hsd hs3 hb3 hA3 hw3 hw4 ho4 hs4 hb4 hsz3 hgx HA2 HB2 HGR
  obtain ⟨s, hs⟩ : ∃ s : Nat, aroundI field 5 = s := ⟨(aroundI field 5).toNat, by have := aroundI_lo field 5 (by omega); omega⟩
  have hs5 : s < 5 := by have := aroundI_hi field 5 (by omega); omega
  obtain ⟨k3, hk3⟩ : ∃ s : Nat, aroundI n 3 = s := ⟨(aroundI n 3).toNat, by have := aroundI_lo n 3 (by omega); omega⟩
  have hk33 : k3 < 3 := by have := aroundI_hi n 3 (by omega); omega
  obtain ⟨K, hK⟩ : ∃ s : Nat, aroundI many 70 = s := ⟨(aroundI many 70).toNat, by have := aroundI_lo many 70 (by omega); omega⟩
  have hK70 : K < 70 := by have := aroundI_hi many 70 (by omega); omega
  have HS := Lib.hid hs
  have HK3 := Lib.hid hk3
  have HK := Lib.hid hK
  clear hs hk3 hK
  go_wp2_with fail
  rw [← HW3.out, ← HW4.out, HGX.out]
  clear HW3 HW4 HGX
  refine (around_any field 5 w4 (by omega) (by omega) hf.1 hf.2).mono ?_
  rw [HS.out]
  rintro e w5 ⟨rfl, rfl⟩
  go_upto_block 0 with fail
  go_cut [] (fun wx => ∃ (o : Nat → Nat) (x : Rq), x.doc.size ≤ 1 ∧ x.txt.size ≤ 5000 ∧ Hid (AW w wx o b newS) ∧ Hid (Blk wx o 24 gr (rqC ⟨ri, rk, sd, rv, rof, rt⟩)) ∧ Hid (Blk wx o 25 gx (rqC x)))
  case first =>
    have hx4 := HX4.out
    have hcase : s = 0 ∨ s = 1 ∨ s = 2 ∨ s = 3 ∨ s = 4 := by omega
    rcases hcase with rfl | rfl | rfl | rfl | rfl
    · simp only [Int.cast_ofNat_Int]
      have x0 := hx4.cell (j := 0) rfl
      have y0 := hx4.frozen 0
      have hs6 := hx4.setCellStep 0 (.int .i64 n)
      have KA := Lib.hid (HA4.out.step hs6 (fun l hl => by unfold Own; omega))
      have KR := Lib.hid (HR4.out.step hs6 (by omega))
      have KX := Lib.hid (hx4.set 0 (.int .i64 n))
      clear hs6 hx4
      go_wp2_with fail
      go_meet
      exact ⟨o4, ⟨n, 0, ⟨#[97]⟩, 0, 0, ⟨#[]⟩⟩, (by decide : (1 : Nat) ≤ 1), (by decide : (0 : Nat) ≤ 5000), KA.out, KR.out, KX.out⟩
    · simp only [Int.cast_ofNat_Int]
      have x0 := hx4.cell (j := 1) rfl
      have y0 := hx4.frozen 1
      have hs6 := hx4.setCellStep 1 (.int .i64 n)
      have KA := Lib.hid (HA4.out.step hs6 (fun l hl => by unfold Own; omega))
      have KR := Lib.hid (HR4.out.step hs6 (by omega))
      have KX := Lib.hid (hx4.set 1 (.int .i64 n))
      clear hs6 hx4
      go_wp2_with fail
      go_meet
      exact ⟨o4, ⟨1, n, ⟨#[97]⟩, 0, 0, ⟨#[]⟩⟩, (by decide : (1 : Nat) ≤ 1), (by decide : (0 : Nat) ≤ 5000), KA.out, KR.out, KX.out⟩
    · simp only [Int.cast_ofNat_Int]
      have x0 := hx4.cell (j := 3) rfl
      have y0 := hx4.frozen 3
      have hs6 := hx4.setCellStep 3 (.int .i64 n)
      have KA := Lib.hid (HA4.out.step hs6 (fun l hl => by unfold Own; omega))
      have KR := Lib.hid (HR4.out.step hs6 (by omega))
      have KX := Lib.hid (hx4.set 3 (.int .i64 n))
      clear hs6 hx4
      go_wp2_with fail
      go_meet
      exact ⟨o4, ⟨1, 0, ⟨#[97]⟩, n, 0, ⟨#[]⟩⟩, (by decide : (1 : Nat) ≤ 1), (by decide : (0 : Nat) ≤ 5000), KA.out, KR.out, KX.out⟩
    · simp only [Int.cast_ofNat_Int]
      have x0 := hx4.cell (j := 4) rfl
      have y0 := hx4.frozen 4
      have hs6 := hx4.setCellStep 4 (.int .i64 n)
      have KA := Lib.hid (HA4.out.step hs6 (fun l hl => by unfold Own; omega))
      have KR := Lib.hid (HR4.out.step hs6 (by omega))
      have KX := Lib.hid (hx4.set 4 (.int .i64 n))
      clear hs6 hx4
      go_wp2_with fail
      go_meet
      exact ⟨o4, ⟨1, 0, ⟨#[97]⟩, 0, n, ⟨#[]⟩⟩, (by decide : (1 : Nat) ≤ 1), (by decide : (0 : Nat) ≤ 5000), KA.out, KR.out, KX.out⟩
    · simp only [Int.cast_ofNat_Int]
      obtain ⟨N, hN⟩ : ∃ N : Nat, N = 4095 + k3 := ⟨_, rfl⟩
      have hNI : (4095 : Int) + (k3 : Int) = (N : Int) := by omega
      have hN5 : N ≤ 5000 := by omega
      obtain ⟨X, hX, hmk⟩ := make_n N hN5
      have hcv := conv_zeros hN5 hX w4 5
      obtain ⟨Z, hZ⟩ : ∃ Z, zerosB N = Z := ⟨_, rfl⟩
      have hZs : Z.size ≤ 5000 := by rw [← hZ, zerosB_size]; exact hN5
      rw [hZ] at hcv
      have hsa : Step (fun _ => False) w4 o4 (w4.alloc (.cells X 5)) (newLab w4 o4 0) := Step.newBlk _ _ _
      have hxa := hx4.step hsa fun h => h
      have x0 := hxa.cell (j := 5) rfl
      have y0 := hxa.frozen 5
      have hs6 := hxa.setCellStep 5 (.string Z)
      have KA := Lib.hid ((HA4.out.step hsa fun _ h => h.elim).step hs6 (fun l hl => by unfold Own; omega))
      have KR := Lib.hid ((HR4.out.step hsa fun h => h).step hs6 (by omega))
      have KX := Lib.hid (hxa.set 5 (.string Z))
      clear hsa hxa hs6 hx4 hX hZ hN
      go_wp2_with fail
      refine (around_any n 3 w4 (by omega) (by omega) hn.1 hn.2).mono ?_
      rw [HK3.out]
      rintro e w5 ⟨rfl, rfl⟩
      go_wp2_with fail
      go_meet
      exact ⟨_, ⟨1, 0, ⟨#[97]⟩, 0, 0, Z⟩, (by decide : (1 : Nat) ≤ 1), hZs, KA.out, KR.out, KX.out⟩
  case rest =>
    obtain ⟨o, ⟨xi, xk, xd, xv, xo, xt⟩, hxd, hxt, HA, HR, HX⟩ := hcut
    simp only at hxd hxt
    clear HA4 HR4 HX4 HS HK3 hs5 hk33
    obtain ⟨f0, f1, f2, f3, f4, f5⟩ := HR.out.six
    obtain ⟨g0, g1, g2, g3, g4, g5⟩ := HX.out.six
    simp only at g0 g1 g2 g3 g4 g5
    obtain ⟨w6, hw6⟩ : ∃ x, x = wc.alloc (.cells #[.int .i64 ri, .int .i64 rk, .string sd, .int .i64 rv, .int .i64 rof, .string rt, .int .i64 xi, .int .i64 xk, .string xd, .int .i64 xv, .int .i64 xo, .string xt] 44) := ⟨_, rfl⟩
    obtain ⟨o6, ho6⟩ : ∃ x, newLab wc o 0 = x := ⟨_, rfl⟩
    have hs6 : Step (fun _ => False) wc o w6 o6 := by rw [hw6, ← ho6]; exact Step.newBlk _ _ _
    have hl6 : RecD rqC 6 w6 o6 0 (some ⟨wc.heap.size, 0, none⟩) 2 [⟨ri, rk, sd, rv, rof, rt⟩, ⟨xi, xk, xd, xv, xo, xt⟩] := by
      rw [hw6, ← ho6]
      exact ⟨rec_new (f := rqC) (z := 6) rqZ (w := wc) (xs := [⟨ri, rk, sd, rv, rof, rt⟩, ⟨xi, xk, xd, xv, xo, xt⟩]) (e := 44) (by simp), fun _ b off h => by simp at h; obtain ⟨rfl, rfl⟩ := h; exact ⟨newLab_new _ _ _ (Nat.le_refl _), by simp⟩⟩
    obtain ⟨ga, hga⟩ : ∃ g, wc.heap.size = g := ⟨_, rfl⟩
    rw [hga] at hl6
    have HA6 := Lib.hid (HA.out.step hs6 fun _ h => h.elim)
    have HL6 := Lib.hid hl6
    have HW6 := Lib.hid hw6
    have HGA := Lib.hid hga
    clear hw6 ho6 hs6 hl6 hga HA HR HX
    go_wp2_with fail
    rw [← HW6.out, HGA.out]
    clear f0 f1 f2 f3 f4 f5 g0 g1 g2 g3 g4 g5 HW6 HGA
    go_loopw [12] (fun iv wr => ∃ (k : Nat) (o : Nat → Nat), k ≤ 2 ∧ iv = .int .i64 k ∧ Hid (AW w wr o b newS) ∧ Hid (RecD rqC 6 wr o 0 (some ⟨ga, 0, none⟩) 2 [⟨ri, rk, sd, rv, rof, rt⟩, ⟨xi, xk, xd, xv, xo, xt⟩])) (fun iv _ => 2 - (intOf iv).toNat)
    case atStart => exact ⟨0, o6, by omega, rfl, HA6.out, HL6.out⟩
    case round =>
      clear HA6 HL6
      obtain ⟨k, o, hk, rfl, HA, HL⟩ := hrel
      by_cases hk2 : k < 2
      · obtain ⟨q, hq, hqq⟩ := getV (r := ⟨ri, rk, sd, rv, rof, rt⟩) (x := ⟨xi, xk, xd, xv, xo, xt⟩) hk2
        have hqd : q.doc.size ≤ 9223372036854775807 := by rcases hqq with rfl | rfl <;> (simp only; omega)
        have hqt : q.txt.size ≤ 9223372036854775807 := by rcases hqq with rfl | rfl <;> (simp only; omega)
        have HQ := Lib.hid hq
        clear hq hqq
        obtain ⟨q0, q1, q2, q3, q4, q5⟩ := q
        simp only at hqd hqt
        have hkI : (k : Int) < 2 := by omega
        have hk0 : (0 : Int) ≤ (k : Int) := by omega
        go_wp2_with fail
        refine (snew_any 3 wr o).mono ?_
        rintro e w2 ⟨b3, rfl, o2, hs2, hS2⟩
        obtain ⟨w3, hw3⟩ : ∃ x, x = w2.alloc (.cells #[.slice none 0 0, .bool false, .int .i64 0, .slice none 0 0] 73) := ⟨_, rfl⟩
        obtain ⟨o3, ho3⟩ : ∃ x, newLab w2 o2 (10 * 4) = x := ⟨_, rfl⟩
        have hs3 : Step (fun _ => False) w2 o2 w3 o3 := by rw [hw3, ← ho3]; exact Step.newBlk _ _ _
        have hQ3 : SesQ w3 o3 4 w2.heap.size newS := by rw [hw3, ← ho3]; exact SesAt.new
        obtain ⟨c4, hc4⟩ : ∃ c, w2.heap.size = c := ⟨_, rfl⟩
        rw [hc4] at hQ3
        have hd3 := Below.drew (Below.refl w3.heap.size w3)
        have HA3 := Lib.hid (((HA.out.step hs2 fun _ h => h.elim).step hs3 fun _ h => h.elim).same hd3)
        have HL3 := Lib.hid (((HL.out.step hs2 fun h => h).step hs3 fun h => h).same hd3)
        have HP3 := Lib.hid ((hS2.step hs3 fun _ _ h => h).same hd3)
        have HQ3 := Lib.hid (hQ3.same hd3)
        have HW3 := Lib.hid hw3
        have HC4 := Lib.hid hc4
        have HS0 := Lib.hid (Rqs.cells HL3.out.1 HQ.out)
        simp only [Nat.zero_add] at HS0
        clear hs2 hS2 hw3 ho3 hs3 hQ3 hc4 hd3 HA HL
        go_wp2_with fail
        rw [← HW3.out, HC4.out]
        refine wp_region_held_drew (S := fun W => W.cell? ⟨ga, k * 6, none⟩ = some (.int .i64 q0) ∧ W.cell? ⟨ga, k * 6 + 1, none⟩ = some (.int .i64 q1) ∧ W.cell? ⟨ga, k * 6 + 2, none⟩ = some (.string q2) ∧ W.cell? ⟨ga, k * 6 + 3, none⟩ = some (.int .i64 q3) ∧ W.cell? ⟨ga, k * 6 + 4, none⟩ = some (.int .i64 q4) ∧ W.cell? ⟨ga, k * 6 + 5, none⟩ = some (.string q5)) (by kernel_rfl) (HS0.out) (fun h0 => ?_)
        (first | ((refine wpAnyH_take (i := 0) (oi := ⟨_, _, _, _, _, _⟩) (v := ?_) rfl (by kernel_rfl) (by kernel_rfl) (by kernel_rfl) (fun _ _ _ h => h) (Or.inl ⟨by rfl, ?_⟩) (by assumption) ?_); rotate_left; focus ((intro w hSw); (try dsimp only at hSw); go_simp; all_goals (with_reducible rfl))) | (refine wpAnyH_take (i := 0) (oi := ⟨_, _, _, _, _, _⟩) (v := undef) rfl (by kernel_rfl) (by kernel_rfl) (by kernel_rfl) (fun _ _ _ h => h) (Or.inr ⟨by rfl, rfl⟩) (by assumption) ?_))
        try simp only [Act.put, List.setIfInBounds_toArray, List.set_cons_zero, List.set_cons_succ]
        (first | ((refine wpAnyH_take (i := 1) (oi := ⟨_, _, _, _, _, _⟩) (v := ?_) rfl (by kernel_rfl) (by kernel_rfl) (by kernel_rfl) (fun _ _ _ h => h) (Or.inl ⟨by rfl, ?_⟩) (by assumption) ?_); rotate_left; focus ((intro w hSw); (try dsimp only at hSw); go_simp; all_goals (with_reducible rfl))) | (refine wpAnyH_take (i := 1) (oi := ⟨_, _, _, _, _, _⟩) (v := undef) rfl (by kernel_rfl) (by kernel_rfl) (by kernel_rfl) (fun _ _ _ h => h) (Or.inr ⟨by rfl, rfl⟩) (by assumption) ?_))
        try simp only [Act.put, List.setIfInBounds_toArray, List.set_cons_zero, List.set_cons_succ]
        (first | ((refine wpAnyH_take (i := 2) (oi := ⟨_, _, _, _, _, _⟩) (v := ?_) rfl (by kernel_rfl) (by kernel_rfl) (by kernel_rfl) (fun _ _ _ h => h) (Or.inl ⟨by rfl, ?_⟩) (by assumption) ?_); rotate_left; focus ((intro w hSw); (try dsimp only at hSw); go_simp; all_goals (with_reducible rfl))) | (refine wpAnyH_take (i := 2) (oi := ⟨_, _, _, _, _, _⟩) (v := undef) rfl (by kernel_rfl) (by kernel_rfl) (by kernel_rfl) (fun _ _ _ h => h) (Or.inr ⟨by rfl, rfl⟩) (by assumption) ?_))
        try simp only [Act.put, List.setIfInBounds_toArray, List.set_cons_zero, List.set_cons_succ]
        (first | ((refine wpAnyH_take (i := 3) (oi := ⟨_, _, _, _, _, _⟩) (v := ?_) rfl (by kernel_rfl) (by kernel_rfl) (by kernel_rfl) (fun _ _ _ h => h) (Or.inl ⟨by rfl, ?_⟩) (by assumption) ?_); rotate_left; focus ((intro w hSw); (try dsimp only at hSw); go_simp; all_goals (with_reducible rfl))) | (refine wpAnyH_take (i := 3) (oi := ⟨_, _, _, _, _, _⟩) (v := undef) rfl (by kernel_rfl) (by kernel_rfl) (by kernel_rfl) (fun _ _ _ h => h) (Or.inr ⟨by rfl, rfl⟩) (by assumption) ?_))
        try simp only [Act.put, List.setIfInBounds_toArray, List.set_cons_zero, List.set_cons_succ]
        (first | ((refine wpAnyH_take (i := 4) (oi := ⟨_, _, _, _, _, _⟩) (v := ?_) rfl (by kernel_rfl) (by kernel_rfl) (by kernel_rfl) (fun _ _ _ h => h) (Or.inl ⟨by rfl, ?_⟩) (by assumption) ?_); rotate_left; focus ((intro w hSw); (try dsimp only at hSw); go_simp; all_goals (with_reducible rfl))) | (refine wpAnyH_take (i := 4) (oi := ⟨_, _, _, _, _, _⟩) (v := undef) rfl (by kernel_rfl) (by kernel_rfl) (by kernel_rfl) (fun _ _ _ h => h) (Or.inr ⟨by rfl, rfl⟩) (by assumption) ?_))
        try simp only [Act.put, List.setIfInBounds_toArray, List.set_cons_zero, List.set_cons_succ]
        (first | ((refine wpAnyH_take (i := 5) (oi := ⟨_, _, _, _, _, _⟩) (v := ?_) rfl (by kernel_rfl) (by kernel_rfl) (by kernel_rfl) (fun _ _ _ h => h) (Or.inl ⟨by rfl, ?_⟩) (by assumption) ?_); rotate_left; focus ((intro w hSw); (try dsimp only at hSw); go_simp; all_goals (with_reducible rfl))) | (refine wpAnyH_take (i := 5) (oi := ⟨_, _, _, _, _, _⟩) (v := undef) rfl (by kernel_rfl) (by kernel_rfl) (by kernel_rfl) (fun _ _ _ h => h) (Or.inr ⟨by rfl, rfl⟩) (by assumption) ?_))
        try simp only [Act.put, List.setIfInBounds_toArray, List.set_cons_zero, List.set_cons_succ]
        (first | ((refine wpAnyH_take (i := 6) (oi := ⟨_, _, _, _, _, _⟩) (v := ?_) rfl (by kernel_rfl) (by kernel_rfl) (by kernel_rfl) (fun _ _ _ h => h) (Or.inl ⟨by rfl, ?_⟩) (by assumption) ?_); rotate_left; focus ((intro w hSw); (try dsimp only at hSw); go_simp; all_goals (with_reducible rfl))) | (refine wpAnyH_take (i := 6) (oi := ⟨_, _, _, _, _, _⟩) (v := undef) rfl (by kernel_rfl) (by kernel_rfl) (by kernel_rfl) (fun _ _ _ h => h) (Or.inr ⟨by rfl, rfl⟩) (by assumption) ?_))
        try simp only [Act.put, List.setIfInBounds_toArray, List.set_cons_zero, List.set_cons_succ]
        (first | ((refine wpAnyH_take (i := 7) (oi := ⟨_, _, _, _, _, _⟩) (v := ?_) rfl (by kernel_rfl) (by kernel_rfl) (by kernel_rfl) (fun _ _ _ h => h) (Or.inl ⟨by rfl, ?_⟩) (by assumption) ?_); rotate_left; focus ((intro w hSw); (try dsimp only at hSw); go_simp; all_goals (with_reducible rfl))) | (refine wpAnyH_take (i := 7) (oi := ⟨_, _, _, _, _, _⟩) (v := undef) rfl (by kernel_rfl) (by kernel_rfl) (by kernel_rfl) (fun _ _ _ h => h) (Or.inr ⟨by rfl, rfl⟩) (by assumption) ?_))
        try simp only [Act.put, List.setIfInBounds_toArray, List.set_cons_zero, List.set_cons_succ]
        (first | ((refine wpAnyH_take (i := 9) (oi := ⟨_, _, _, _, _, _⟩) (v := ?_) rfl (by kernel_rfl) (by kernel_rfl) (by kernel_rfl) (fun _ _ _ h => h) (Or.inl ⟨by rfl, ?_⟩) (by assumption) ?_); rotate_left; focus ((intro w hSw); (try dsimp only at hSw); go_simp; all_goals (with_reducible rfl))) | (refine wpAnyH_take (i := 9) (oi := ⟨_, _, _, _, _, _⟩) (v := undef) rfl (by kernel_rfl) (by kernel_rfl) (by kernel_rfl) (fun _ _ _ h => h) (Or.inr ⟨by rfl, rfl⟩) (by assumption) ?_))
        try simp only [Act.put, List.setIfInBounds_toArray, List.set_cons_zero, List.set_cons_succ]
        (first | ((refine wpAnyH_take (i := 10) (oi := ⟨_, _, _, _, _, _⟩) (v := ?_) rfl (by kernel_rfl) (by kernel_rfl) (by kernel_rfl) (fun _ _ _ h => h) (Or.inl ⟨by rfl, ?_⟩) (by assumption) ?_); rotate_left; focus ((intro w hSw); (try dsimp only at hSw); go_simp; all_goals (with_reducible rfl))) | (refine wpAnyH_take (i := 10) (oi := ⟨_, _, _, _, _, _⟩) (v := undef) rfl (by kernel_rfl) (by kernel_rfl) (by kernel_rfl) (fun _ _ _ h => h) (Or.inr ⟨by rfl, rfl⟩) (by assumption) ?_))
        try simp only [Act.put, List.setIfInBounds_toArray, List.set_cons_zero, List.set_cons_succ]
        (first | ((refine wpAnyH_take (i := 11) (oi := ⟨_, _, _, _, _, _⟩) (v := ?_) rfl (by kernel_rfl) (by kernel_rfl) (by kernel_rfl) (fun _ _ _ h => h) (Or.inl ⟨by rfl, ?_⟩) (by assumption) ?_); rotate_left; focus ((intro w hSw); (try dsimp only at hSw); go_simp; all_goals (with_reducible rfl))) | (refine wpAnyH_take (i := 11) (oi := ⟨_, _, _, _, _, _⟩) (v := undef) rfl (by kernel_rfl) (by kernel_rfl) (by kernel_rfl) (fun _ _ _ h => h) (Or.inr ⟨by rfl, rfl⟩) (by assumption) ?_))
        try simp only [Act.put, List.setIfInBounds_toArray, List.set_cons_zero, List.set_cons_succ]
        (first | ((refine wpAnyH_take (i := 12) (oi := ⟨_, _, _, _, _, _⟩) (v := ?_) rfl (by kernel_rfl) (by kernel_rfl) (by kernel_rfl) (fun _ _ _ h => h) (Or.inl ⟨by rfl, ?_⟩) (by assumption) ?_); rotate_left; focus ((intro w hSw); (try dsimp only at hSw); go_simp; all_goals (with_reducible rfl))) | (refine wpAnyH_take (i := 12) (oi := ⟨_, _, _, _, _, _⟩) (v := undef) rfl (by kernel_rfl) (by kernel_rfl) (by kernel_rfl) (fun _ _ _ h => h) (Or.inr ⟨by rfl, rfl⟩) (by assumption) ?_))
        try simp only [Act.put, List.setIfInBounds_toArray, List.set_cons_zero, List.set_cons_succ]
        (first | ((refine wpAnyH_take (i := 13) (oi := ⟨_, _, _, _, _, _⟩) (v := ?_) rfl (by kernel_rfl) (by kernel_rfl) (by kernel_rfl) (fun _ _ _ h => h) (Or.inl ⟨by rfl, ?_⟩) (by assumption) ?_); rotate_left; focus ((intro w hSw); (try dsimp only at hSw); go_simp; all_goals (with_reducible rfl))) | (refine wpAnyH_take (i := 13) (oi := ⟨_, _, _, _, _, _⟩) (v := undef) rfl (by kernel_rfl) (by kernel_rfl) (by kernel_rfl) (fun _ _ _ h => h) (Or.inr ⟨by rfl, rfl⟩) (by assumption) ?_))
        try simp only [Act.put, List.setIfInBounds_toArray, List.set_cons_zero, List.set_cons_succ]
        refine wpAnyH_ready (rs := [8]) (by kernel_rfl) (by simp) ?_
        refine AllReadyH.cons (o := ⟨_, _, _, _, _, _⟩) rfl (fun K hK => ?_) ?_
        · go_simp
          (with_reducible refine (begin_any 3 b3 newS ⟨q0, q1, q2, q3, q4, q5⟩ _ o3 (by omega) HP3.out good_new hqd hqt).mono ?_)
          rintro e w4 ⟨rfl, o4, hs4, hS4⟩
          have HA4 := Lib.hid (HA3.out.step hs4 (fun l hl => by unfold Own at *; omega))
          have HL4 := Lib.hid (HL3.out.step hs4 (by unfold Own; omega))
          have HQ4 := Lib.hid (HQ3.out.step hs4 (fun l hl => by unfold Own at *; omega))
          clear hs4 hS4
          go_wp2_with fail
          refine hK.out _ _ (by have := Rqs.cells HL4.out.1 HQ.out; simp only [Nat.zero_add] at this; exact this) (fun h1 => ?_)
          clear hK K
          try simp only [Act.put, List.setIfInBounds_toArray, List.set_cons_zero, List.set_cons_succ]
          refine wpAnyH_ready (rs := [14]) (by kernel_rfl) (by simp) ?_
          refine AllReadyH.cons (o := ⟨_, _, _, _, _, _⟩) rfl (fun K hK => ?_) ?_
          · go_simp
            (with_reducible refine (plain_any ⟨q0, q1, q2, q3, q4, q5⟩ _).mono ?_)
            rintro e w5 ⟨rfl, hb5⟩
            have HA5 := Lib.hid (HA4.out.same hb5)
            have HL5 := Lib.hid (HL4.out.same hb5)
            have HQ5 := Lib.hid (HQ4.out.same hb5)
            clear hb5
            go_wp2_with fail
            refine hK.out _ _ (by have := Rqs.cells HL5.out.1 HQ.out; simp only [Nat.zero_add] at this; exact this) (fun h2 => ?_)
            clear hK K
            try simp only [Act.put, List.setIfInBounds_toArray, List.set_cons_zero, List.set_cons_succ]
            refine wpAnyH_ready (rs := [15]) (by kernel_rfl) (by simp) ?_
            refine AllReadyH.cons (o := ⟨_, _, _, _, _, _⟩) rfl (fun K hK => ?_) ?_
            · go_simp
              (with_reducible refine (rbegin_any 4 c4 newS ⟨q0, q1, q2, q3, q4, q5⟩ _ o4 (by omega) HQ5.out good_new hqd hqt).mono ?_)
              rintro e w6 ⟨rfl, o6', hs6, hS6⟩
              have HA6 := Lib.hid (HA5.out.step hs6 (fun l hl => by unfold Own at *; omega))
              have HL6 := Lib.hid (HL5.out.step hs6 (by unfold Own; omega))
              clear hs6 hS6
              go_wp2_with fail
              refine hK.out _ _ (by have := Rqs.cells HL6.out.1 HQ.out; simp only [Nat.zero_add] at this; exact this) (fun h3 => ?_)
              clear hK K
              try simp only [Act.put, List.setIfInBounds_toArray, List.set_cons_zero, List.set_cons_succ]
              (first | ((refine wpAnyH_take (i := 16) (oi := ⟨_, _, _, _, _, _⟩) (v := ?_) rfl (by kernel_rfl) (by kernel_rfl) (by kernel_rfl) (fun _ _ _ h => h) (Or.inl ⟨by rfl, ?_⟩) (by assumption) ?_); rotate_left; focus ((intro w hSw); (try dsimp only at hSw); go_simp; all_goals (with_reducible rfl))) | (refine wpAnyH_take (i := 16) (oi := ⟨_, _, _, _, _, _⟩) (v := undef) rfl (by kernel_rfl) (by kernel_rfl) (by kernel_rfl) (fun _ _ _ h => h) (Or.inr ⟨by rfl, rfl⟩) (by assumption) ?_))
              try simp only [Act.put, List.setIfInBounds_toArray, List.set_cons_zero, List.set_cons_succ]
              (first | ((refine wpAnyH_take (i := 17) (oi := ⟨_, _, _, _, _, _⟩) (v := ?_) rfl (by kernel_rfl) (by kernel_rfl) (by kernel_rfl) (fun _ _ _ h => h) (Or.inl ⟨by rfl, ?_⟩) (by assumption) ?_); rotate_left; focus ((intro w hSw); (try dsimp only at hSw); go_simp; all_goals (with_reducible rfl))) | (refine wpAnyH_take (i := 17) (oi := ⟨_, _, _, _, _, _⟩) (v := undef) rfl (by kernel_rfl) (by kernel_rfl) (by kernel_rfl) (fun _ _ _ h => h) (Or.inr ⟨by rfl, rfl⟩) (by assumption) ?_))
              try simp only [Act.put, List.setIfInBounds_toArray, List.set_cons_zero, List.set_cons_succ]
              refine wpAnyH_done (by kernel_rfl) ?_ _
              clear h0 h1 h2 h3
              go_wp2_with fail
              go_roundw
              case rel => exact ⟨k + 1, o6', by omega, by go_num, HA6.out, HL6.out⟩
              case measure => simp [intOf]; omega
            exact AllReadyH.nil
          exact AllReadyH.nil
        exact AllReadyH.nil
      · have hk2' : k = 2 := by omega
        subst hk2'
        clear HL
        go_wp2_with fail
        refine (around_any many 70 wr (by omega) (by omega) hm.1 hm.2).mono ?_
        rw [HK.out]
        rintro e w5 ⟨rfl, rfl⟩
        go_wp2_with fail
        go_loopw [16, 17] (fun gv iv wr => ∃ (i g : Nat) (o : Nat → Nat) (S : SesS), 1 ≤ i ∧ i ≤ 71 ∧ iv = .int .i64 i ∧ gv = .int .i64 g ∧ Hid (ArgI K i g S) ∧ Hid (AW w wr o b S)) (fun _ iv _ => 100 - (intOf iv).toNat)
        case atStart => exact ⟨1, 0, o, newS, by omega, by omega, rfl, rfl, ArgI.start K, HA.out⟩
        case round =>
          clear HA
          obtain ⟨i, g, o, S, hi1, hi71, rfl, rfl, HI, HA⟩ := hrel
          have hg65 := HI.out.small
          by_cases hi70 : i ≤ 70
          · have d1 : decide ((i : Int) ≤ 70) = true := decide_eq_true (by omega)
            have hrl := HI.out.good.len
            have HZ := Lib.hid HI.out.an
            go_upto_if 88 with fail
            go_cut [] (fun wx => ∃ (o : Nat → Nat) (T : SesS), Hid (ArgM K i g T) ∧ Hid (AW w wx o b T))
            case first =>
              by_cases hiK : i = K + 1
              · have hb : ((i : Int) == (K : Int) + 1) = true := by simp; omega
                obtain ⟨w5, hw5⟩ : ∃ x, x = wr.alloc (.cells #[.string ⟨#[97]⟩, .int .i64 0] 34) := ⟨_, rfl⟩
                obtain ⟨o5, ho5⟩ : ∃ x, newLab wr o 0 = x := ⟨_, rfl⟩
                have hs5 : Step (fun _ => False) wr o w5 o5 := by rw [hw5, ← ho5]; exact Step.newBlk _ _ _
                have hx5 : RecD vnC 2 w5 o5 0 (some ⟨wr.heap.size, 0, none⟩) 1 argV := by
                  rw [hw5, ← ho5]
                  exact ⟨rec_new (f := vnC) (z := 2) vnZ (w := wr) (xs := argV) (e := 34) (by decide), fun _ b off h => by simp at h; obtain ⟨rfl, rfl⟩ := h; exact ⟨newLab_new _ _ _ (Nat.le_refl _), by simp⟩⟩
                have HA5 := Lib.hid (HA.out.step hs5 fun _ h => h.elim)
                have K5 := Lib.hid (next_any 1 b 0 S _ _ argV w5 o5 (by omega) HA5.out.ses (by omega) (by rw [HZ.out]; decide) hx5 (by unfold Own; omega))
                have HM5 := Lib.hid (HI.out.next hiK)
                have HW5 := Lib.hid hw5
                clear hw5 ho5 hs5 hx5 hiK HA
                go_wp2_with fail
                rw [← HW5.out]
                refine K5.out.mono ?_
                rintro e w6 ⟨⟨r, hr, rfl⟩, o6, hs6, hS6⟩
                have HA6 := Lib.hid (HA5.out.setS hs6 hS6)
                clear hs6 hS6 hr
                go_wp2_with fail
                go_meet
                exact ⟨o6, _, HM5.out, HA6.out⟩
              · have hb : ((i : Int) == (K : Int) + 1) = false := by simp; omega
                have HM5 := Lib.hid (HI.out.skip hiK)
                clear hiK
                go_wp2_with fail
                go_meet
                exact ⟨o, S, HM5.out, HA.out⟩
            case rest =>
              obtain ⟨o, T, HM, HA⟩ := hcut
              have kb := begin_any 1 b T (argR i) wc o (by omega) HA.out.ses HM.out.good (by show (1 : Nat) ≤ _; decide) (by show (0 : Nat) ≤ _; decide)
              rcases HM.out.beg hi1 hi70 (by omega) with ⟨hE, hI⟩ | ⟨hE, hI⟩
              · rw [hE] at kb
                have KB : Hid (Calls Try.prog 17 #[.pointer (some ⟨b, 0, none⟩), .agg #[.int .i64 i, .int .i64 0, .string ⟨#[97]⟩, .int .i64 0, .int .i64 0, .string ⟨#[]⟩]] wc fun e w' => e = .returned (.int .i64 0) ∧ ∃ o', Step (Own 1) wc o w' o' ∧ SesP w' o' 1 b (begS T (argR i))) := kb
                have HI2 := Lib.hid hI
                clear kb hE hI
                go_wp2_with fail
                refine KB.out.mono ?_
                rintro e w6 ⟨rfl, o6, hs6, hS6⟩
                have HA6 := Lib.hid (HA.out.setS hs6 hS6)
                clear hs6 hS6
                go_wp2_with fail
                go_roundw
                case rel => exact ⟨i + 1, g + 1, o6, _, by omega, by omega, by go_num, by go_num, HI2.out, HA6.out⟩
                case measure => simp [intOf]; omega
              · rw [hE] at kb
                have KB : Hid (Calls Try.prog 17 #[.pointer (some ⟨b, 0, none⟩), .agg #[.int .i64 i, .int .i64 0, .string ⟨#[97]⟩, .int .i64 0, .int .i64 0, .string ⟨#[]⟩]] wc fun e w' => e = .returned (.int .i64 4) ∧ ∃ o', Step (Own 1) wc o w' o' ∧ SesP w' o' 1 b (begS T (argR i))) := kb
                have HI2 := Lib.hid hI
                clear kb hE hI
                go_wp2_with fail
                refine KB.out.mono ?_
                rintro e w6 ⟨rfl, o6, hs6, hS6⟩
                have HA6 := Lib.hid (HA.out.setS hs6 hS6)
                clear hs6 hS6
                go_wp2_with fail
                go_roundw
                case rel => exact ⟨i + 1, g, o6, _, by omega, by omega, by go_num, rfl, HI2.out, HA6.out⟩
                case measure => simp [intOf]; omega
          · have hi71' : i = 71 := by omega
            subst hi71'
            have hl := HI.out.len
            have hw := swaiting_any 1 b S wr o HA.out.ses (by omega)
            rw [hl] at hw
            have HW := Lib.hid hw
            rcases HI.out.fin (by omega) with ⟨rfl, rfl⟩ | ⟨rfl, hK1⟩
            · clear hl hw hg65
              go_wp2_with fail
              refine HW.out.mono ?_
              rintro e w6 ⟨v6, rfl, hown6, hb6⟩
              obtain ⟨ia, ic, rfl⟩ : ∃ a c, v6 = .slice a 64 c := by
                rcases hown6.2 with ⟨rfl, h0⟩ | ⟨g, cap, cur, rfl, _⟩
                · omega
                · exact ⟨_, _, rfl⟩
              have hB6 := Below.step HA.out.below hb6
              clear hown6 hb6
              go_wp2_with fail
              refine (lives_any w6).mono ?_
              rintro e w7 ⟨rfl, hb7⟩
              go_wp2_with fail
              go_ret
              exact ⟨rfl, Below.step hB6 hb7⟩
            · clear hl hw hg65
              have hKI : (0 : Int) < (K : Int) := by omega
              have hKz : ((K : Int) == 0) = false := by simp; omega
              go_wp2_with fail
              refine HW.out.mono ?_
              rintro e w6 ⟨v6, rfl, hown6, hb6⟩
              obtain ⟨ia, ic, rfl⟩ : ∃ a c, v6 = .slice a 65 c := by
                rcases hown6.2 with ⟨rfl, h0⟩ | ⟨g, cap, cur, rfl, _⟩
                · omega
                · exact ⟨_, _, rfl⟩
              have hB6 := Below.step HA.out.below hb6
              clear hown6 hb6
              go_wp2_with fail
              refine (lives_any w6).mono ?_
              rintro e w7 ⟨rfl, hb7⟩
              go_wp2_with fail
              go_ret
              exact ⟨rfl, Below.step hB6 hb7⟩
end Go.Proofs.Ytaonhmdifinadaa
