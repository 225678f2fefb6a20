/-
  The generator of calls (Ops of schemalensref37): what its results are good for.
-/
import Derived.Test.YtaonhmdifinadaaSesG
import Derived.Test.YtaonhmdifinadaaSesH
import Derived.Test.YtaonhmdifinadaaHas
import Derived.Deep.DeepCutAuto
import Derived.Deep.CutBlock
namespace Go.Proofs.Ytaonhmdifinadaa
open Go Go.Proofs
open Go.RowKit
set_option linter.unusedVariables false
set_option linter.unusedSimpArgs false

structure OpM where
  kind : Int
  r : Rq
  n : Int
  e : Int
  la : Option Addr
  lc : Nat
  l : List Vn
def opC (m : OpM) : List Value := [.int .i64 m.kind, .int .i64 m.r.id, .int .i64 m.r.kind, .string m.r.doc, .int .i64 m.r.ver, .int .i64 m.r.off, .string m.r.txt, .int .i64 m.n, .int .i64 m.e, .slice m.la m.l.length m.lc]
theorem opZ (r : OpM) : (opC r).length = 10 := rfl
theorem opO (r : OpM) : ∀ u ∈ opC r, u.oneCell' = true := by
  intro u hu
  simp only [opC, List.mem_cons, List.not_mem_nil, or_false] at hu
  rcases hu with rfl | rfl | rfl | rfl | rfl | rfl | rfl | rfl | rfl | rfl <;> rfl
/-- What is known of a call. -/
structure OpB (m : OpM) : Prop where
  k0 : 0 ≤ m.kind
  k1 : m.kind ≤ 4
  i0 : 0 ≤ m.r.id
  i1 : m.r.id ≤ 100
  rk0 : -1 ≤ m.r.kind
  rk1 : m.r.kind ≤ 8
  d : m.r.doc.size ≤ 1
  v0 : 0 ≤ m.r.ver
  v1 : m.r.ver ≤ 100
  f0 : 0 ≤ m.r.off
  f1 : m.r.off ≤ 8
  t : m.r.txt.size ≤ 1
  n0 : 0 ≤ m.n
  n1 : m.n ≤ 100
  e : m.e = 0 ∨ m.e = 5
  l : m.l.length ≤ 2
def OpAt (w : World) (o : Nat → Nat) (m : OpM) : Prop := OpB m ∧ RecD vnC 2 w o 0 m.la m.lc m.l
theorem OpAt.step {L : Nat → Prop} {w w' : World} {o o' : Nat → Nat} {m : OpM} (h : OpAt w o m) (hs : Step L w o w' o') (h0 : ¬ L 0) : OpAt w' o' m := ⟨h.1, h.2.step hs h0⟩
/-- A list of calls in memory. -/
def OpsL (w : World) (o : Nat → Nat) (lo : Nat) (v : Value) (ops : List OpM) : Prop := RecL opC 10 63 w o lo v ops ∧ ∀ m ∈ ops, OpAt w o m
theorem OpsL.step {L : Nat → Prop} {w w' : World} {o o' : Nat → Nat} {lo : Nat} {v : Value} {ops : List OpM} (h : OpsL w o lo v ops) (hs : Step L w o w' o') (h0 : ¬ L 0) (h1 : ¬ L lo) : OpsL w' o' lo v ops :=
  ⟨h.1.step hs h1, fun m hm => (h.2 m hm).step hs h0⟩
theorem elemO : ElemT Try.prog 58 63 (.agg #[.int .i64 0, .int .i64 0, .int .i64 0, .string ⟨#[]⟩, .int .i64 0, .int .i64 0, .string ⟨#[]⟩, .int .i64 0, .int .i64 0, .slice none 0 0]) 10 112 := ⟨Try.underlying58, info_parts (by kernel_rfl), rfl, by decide⟩

set_option maxRecDepth 100000 in
set_option maxHeartbeats 8000000 in
theorem ops_any (a : Option Addr) (cap : Nat) (xs : List Int) (lo : Nat) (w : World) (o : Nat → Nat) (hx : Dat w o 0 a cap (xs.map intV)) (hb : ∀ n ∈ xs, -9223372036854775808 ≤ n ∧ n ≤ 9223372036854775807) (hlo : lo ≠ 0) :
    Calls Try.prog 25 #[.slice a xs.length cap] w fun e w' => ∃ v o' ops, e = .returned v ∧ Step (· = lo) w o w' o' ∧ OpsL w' o' lo v ops ∧ ops.length = min 30 xs.length := by
  have hxl := hx.slice.len
  simp only [List.length_map] at hxl
  have HX := Lib.hid hx
  have HB := Lib.hid hb
  clear hx hb
  go_enter Try.func25, Try.ntmps25
  go_wp2_with fail
  go_loopw [3, 4, 5, 6, 7] (fun ov av bv dv iv wr => ∃ (k A B D : Nat), k ≤ 30 ∧ k ≤ xs.length ∧ iv = .int .i64 k ∧ av = .int .i64 A ∧ bv = .int .i64 B ∧ dv = .int .i64 D ∧ A ≤ k + 1 ∧ B ≤ k + 1 ∧ D ≤ 2 * k ∧ Hid (∃ o' ops, ops.length = k ∧ Step (· = lo) w o wr o' ∧ OpsL wr o' lo ov ops)) (fun _ _ _ _ iv _ => 30 - (intOf iv).toNat)
  case atStart => exact ⟨0, 1, 1, 0, by omega, by omega, rfl, rfl, rfl, rfl, by omega, by omega, by omega, o, [], rfl, Step.refl _ _ _, RecL.nil _ _ _, fun m h => by cases h⟩
  case round =>
    obtain ⟨k, A, B, D, hk3, hkx, rfl, rfl, rfl, rfl, hA, hB, hD, HM⟩ := hrel
    have hend : (k = 30 ∨ k = xs.length) → ∃ o' ops, Step (· = lo) w o wr o' ∧ OpsL wr o' lo u3 ops ∧ ops.length = min 30 xs.length := by
      intro he
      obtain ⟨o', ops, hl, hs, hops⟩ := HM.out
      exact ⟨o', ops, hs, hops, by omega⟩
    have HE := Lib.hid hend
    clear hend
    by_cases hin : k < xs.length
    · by_cases hi30 : k < 30
      · have d1 : decide ((k : Int) < xs.length) = true := decide_eq_true (by omega)
        have d2 : decide ((k : Int) < 30) = true := decide_eq_true (by omega)
        obtain ⟨o', ops, hl, hs, hops⟩ := HM.out
        obtain ⟨xb, off, rfl⟩ := HX.out.slice.addr (by simp; omega)
        have c1 : wr.cell? ⟨xb, off + k, none⟩ = some (.int .i64 xs[k]) := (HX.out.step hs (fun h => hlo h.symm)).slice.intV hin
        have hv := HB.out xs[k] (List.getElem_mem _)
        obtain ⟨v, hvx⟩ : ∃ v, xs[k] = v := ⟨_, rfl⟩
        rw [hvx] at c1 hv
        have t16 := tdivI_in v 16 (by omega) hv.1 hv.2
        have a1 := aroundI_lo (v.tdiv 16) 1073741824 (by omega)
        have a2 := aroundI_hi (v.tdiv 16) 1073741824 (by omega)
        have a3 := aroundI_lo v 16 (by omega)
        have a4 := aroundI_hi v 16 (by omega)
        obtain ⟨N, hN⟩ : ∃ N : Nat, aroundI (v.tdiv 16) 1073741824 = N := ⟨(aroundI (v.tdiv 16) 1073741824).toNat, by omega⟩
        obtain ⟨s, hs16⟩ : ∃ s : Nat, aroundI v 16 = s := ⟨(aroundI v 16).toNat, by omega⟩
        rw [hN] at a1 a2
        rw [hs16] at a3 a4
        have HNN := Lib.hid hN
        have HSS := Lib.hid hs16
        have HL := Lib.hid hl
        have HS := Lib.hid hs
        have HO := Lib.hid hops
        clear hN hs16 a1 a3 hvx hl hs hops HM HE
        obtain ⟨M, hM, hM1⟩ : ∃ M : Nat, (if (1 : Int) < (D : Int) + 1 then (D : Int) + 1 else 1) = M ∧ 1 ≤ M ∧ M ≤ 61 := by
          by_cases h : (1 : Int) < (D : Int) + 1
          · exact ⟨D + 1, by rw [if_pos h]; omega, by omega⟩
          · exact ⟨1, by rw [if_neg h]; rfl, by omega⟩
        obtain ⟨q, hq⟩ : ∃ q : Nat, (N : Int) % (M : Int) = q := ⟨N % M, by simp⟩
        have hq1 : q ≤ 100 := by have := Int.emod_lt_of_pos (N : Int) (show (0 : Int) < M by omega); omega
        go_wp2_with fail
        refine (around_any (v.tdiv 16) 1073741824 _ (by omega) (by omega) t16.1 t16.2).mono ?_
        rw [HNN.out]
        rintro e w3 ⟨rfl, rfl⟩
        go_upto_if 34 with fail
        clear hM hM1 hq
        go_cut [4] (fun s4 wx => ∃ A' : Nat, s4 = .int .i64 A' ∧ A' ≤ k + 2 ∧ wx = wr.alloc (.cells #[.int .i64 0, .int .i64 0, .int .i64 0, .string ⟨#[]⟩, .int .i64 0, .int .i64 0, .string ⟨#[]⟩, .int .i64 q, .int .i64 0, .slice none 0 0] 63))
        case first =>
          generalize ((N : Int) % 13 == 0) = z
          cases z
          · go_wp2_with fail
            go_meet
            exact ⟨A, by go_num, by omega, rfl⟩
          · go_wp2_with fail
            go_meet
            exact ⟨A + 1, by go_num, by omega, rfl⟩
        case rest =>
          obtain ⟨A', rfl, hA', rfl⟩ := hcut
          go_upto_if 39 with fail
          go_cut [5] (fun s5 wx => ∃ B' : Nat, s5 = .int .i64 B' ∧ B' ≤ k + 2 ∧ wx = wr.alloc (.cells #[.int .i64 0, .int .i64 0, .int .i64 0, .string ⟨#[]⟩, .int .i64 0, .int .i64 0, .string ⟨#[]⟩, .int .i64 q, .int .i64 0, .slice none 0 0] 63))
          case first =>
            generalize ((N : Int) % 17 == 0) = z
            cases z
            · go_wp2_with fail
              go_meet
              exact ⟨B, by go_num, by omega, rfl⟩
            · go_wp2_with fail
              go_meet
              exact ⟨B + 1, by go_num, by omega, rfl⟩
          case rest =>
            obtain ⟨B', rfl, hB', rfl⟩ := hcut
            have c1a := fun ob => Below.kept ((Below.refl _ wr).alloc (Nat.le_refl _) ob) (Nat.le_refl _) c1
            clear c1
            go_wp2_with fail
            refine (around_any v 16 _ (by omega) (by omega) hv.1 hv.2).mono ?_
            rw [HSS.out]
            rintro e w3 ⟨rfl, rfl⟩
            clear c1a
            go_upto_block 2 with fail
            go_cut [6] (fun s6 wx => ∃ (D' : Nat) (kd ri rk rv ro e : Int) (rd rt : ByteArray), s6 = .int .i64 D' ∧ D' ≤ 2 * (k + 1) ∧ Hid (0 ≤ kd ∧ kd ≤ 4 ∧ 0 ≤ ri ∧ ri ≤ 100 ∧ -1 ≤ rk ∧ rk ≤ 8 ∧ rd.size ≤ 1 ∧ 0 ≤ rv ∧ rv ≤ 100 ∧ 0 ≤ ro ∧ ro ≤ 8 ∧ rt.size ≤ 1 ∧ (e = 0 ∨ e = 5)) ∧ wx = wr.alloc (.cells #[.int .i64 kd, .int .i64 ri, .int .i64 rk, .string rd, .int .i64 rv, .int .i64 ro, .string rt, .int .i64 q, .int .i64 e, .slice none 0 0] 63))
            case first =>
              obtain ⟨e1, he1, he1'⟩ : ∃ e1 : Nat, (N : Int) % 2 = e1 ∧ e1 ≤ 1 := ⟨N % 2, by simp, by omega⟩
              obtain ⟨k5, hk5, hk5'⟩ : ∃ e1 : Nat, (N : Int) / 2 % 5 = e1 ∧ e1 ≤ 4 := ⟨N / 2 % 5, by simp, by omega⟩
              obtain ⟨o9, ho9, ho9'⟩ : ∃ e1 : Nat, (N : Int) / 10 % 9 = e1 ∧ e1 ≤ 8 := ⟨N / 10 % 9, by simp, by omega⟩
              obtain ⟨r9, hr9, hr9'⟩ : ∃ e1 : Nat, (N : Int) / 19 % 9 = e1 ∧ e1 ≤ 8 := ⟨N / 19 % 9, by simp, by omega⟩
              obtain ⟨r8, hr8, hr8'⟩ : ∃ e1 : Nat, (N : Int) / 23 % 8 = e1 ∧ e1 ≤ 7 := ⟨N / 23 % 8, by simp, by omega⟩
              obtain ⟨e4, he4, he4'⟩ : ∃ e1 : Nat, (N : Int) / 4 % 2 = e1 ∧ e1 ≤ 1 := ⟨N / 4 % 2, by simp, by omega⟩
              clear HSS
              go_step
              go_step
              go_cut [48] (fun s48 wx => s48 = .bool (decide (s ≤ 5)) ∧ wx = wr.alloc (.cells #[.int .i64 0, .int .i64 0, .int .i64 0, .string ⟨#[]⟩, .int .i64 0, .int .i64 0, .string ⟨#[]⟩, .int .i64 q, .int .i64 0, .slice none 0 0] 63))
              case first => as_aux_lemma =>
                have hcase : s = 0 ∨ s = 1 ∨ s = 2 ∨ s = 3 ∨ s = 4 ∨ s = 5 ∨ s = 6 ∨ s = 7 ∨ s = 8 ∨ s = 9 ∨ s = 10 ∨ s = 11 ∨ s = 12 ∨ s = 13 ∨ s = 14 ∨ s = 15 := by omega
                rcases hcase with rfl | rfl | rfl | rfl | rfl | rfl | rfl | rfl | rfl | rfl | rfl | rfl | rfl | rfl | rfl | rfl
                all_goals
                  simp only [Int.cast_ofNat_Int]
                  go_wp2_with fail
                  go_meet
                  exact ⟨rfl, rfl⟩
              case rest =>
                obtain ⟨rfl, rfl⟩ := hcut
                have hcase : s ≤ 5 ∨ (s = 6 ∨ s = 7) ∨ (s = 8 ∨ s = 9 ∨ s = 10) ∨ (s = 11 ∨ s = 12 ∨ s = 13 ∨ s = 14) ∨ s = 15 := by omega
                rcases hcase with hcase | hcase | hcase | hcase | hcase
                · as_aux_lemma =>
                  rw [decide_eq_true hcase]
                  go_upto_if 72 with fail
                  generalize ((N : Int) % 3 == 0) = z
                  cases z
                  all_goals
                    go_upto_if 80 with fail
                    generalize ((N : Int) % 19 == 0) = z
                    cases z
                    all_goals
                      go_upto_if 88 with fail
                      generalize ((N : Int) % 23 == 0) = z
                      cases z
                      all_goals
                        go_wp2_with fail
                        go_meet
                        refine ⟨D + 1 + e1, _, _, _, _, _, _, _, _, by go_num, by omega, ?_, rfl⟩
                        exact ⟨by omega, by omega, by omega, by omega, by omega, by omega, by decide, by omega, by omega, by omega, by omega, by decide, .inl rfl⟩
                · as_aux_lemma =>
                  rw [decide_eq_false (show ¬ s ≤ 5 by omega)]
                  rcases hcase with rfl | rfl
                  all_goals
                    simp only [Int.cast_ofNat_Int]
                    go_wp2_with fail
                    go_meet
                    refine ⟨D, _, _, _, _, _, _, _, _, by go_num, by omega, ?_, rfl⟩
                    exact ⟨by omega, by omega, by omega, by omega, by omega, by omega, by decide, by omega, by omega, by omega, by omega, by decide, .inl rfl⟩
                · as_aux_lemma =>
                  rw [decide_eq_false (show ¬ s ≤ 5 by omega)]
                  rcases hcase with rfl | rfl | rfl
                  all_goals
                    simp only [Int.cast_ofNat_Int]
                    go_wp2_with fail
                    go_meet
                    refine ⟨D, _, _, _, _, _, _, _, _, by go_num, by omega, ?_, rfl⟩
                    exact ⟨by omega, by omega, by omega, by omega, by omega, by omega, by decide, by omega, by omega, by omega, by omega, by decide, .inl rfl⟩
                · as_aux_lemma =>
                  rw [decide_eq_false (show ¬ s ≤ 5 by omega)]
                  rcases hcase with rfl | rfl | rfl | rfl
                  all_goals
                    simp only [Int.cast_ofNat_Int]
                    go_wp2_with fail
                    go_meet
                    refine ⟨D, _, _, _, _, _, _, _, _, by go_num, by omega, ?_, rfl⟩
                    exact ⟨by omega, by omega, by omega, by omega, by omega, by omega, by decide, by omega, by omega, by omega, by omega, by decide, by omega⟩
                · as_aux_lemma =>
                  rw [decide_eq_false (show ¬ s ≤ 5 by omega)]
                  subst hcase
                  simp only [Int.cast_ofNat_Int]
                  go_wp2_with fail
                  go_meet
                  refine ⟨D, _, _, _, _, _, _, _, _, by go_num, by omega, ?_, rfl⟩
                  exact ⟨by omega, by omega, by omega, by omega, by omega, by omega, by decide, by omega, by omega, by omega, by omega, by decide, .inl rfl⟩
            case rest =>
              obtain ⟨D', kd, ri, rk, rv, ro, e, rd, rt, rfl, hD', HBD, rfl⟩ := hcut
              clear HSS
              go_upto_if 123 with fail
              go_cut [] (fun wx => ∃ z : Nat, 1 ≤ z ∧ z ≤ 2 ∧ Hid (wx = (wr.alloc (.cells #[.int .i64 kd, .int .i64 ri, .int .i64 rk, .string rd, .int .i64 rv, .int .i64 ro, .string rt, .int .i64 q, .int .i64 e, .slice (some ⟨wr.heap.size + 1, 0, none⟩) z 2] 63)).alloc (.cells #[.string ⟨#[97]⟩, .int .i64 A', .string ⟨#[98]⟩, .int .i64 B'] 141)))
              case first => as_aux_lemma =>
                generalize ((N : Int) % 29 == 0) = z
                cases z
                · go_wp2_with fail
                  go_meet
                  exact ⟨2, by omega, by omega, rfl⟩
                · go_wp2_with fail
                  go_meet
                  exact ⟨1, by omega, by omega, rfl⟩
              case rest =>
                obtain ⟨z, hz1, hz2, HW⟩ := hcut
                have hBw : Below wr.heap.size wr wc := by rw [HW.out]; exact ((Below.refl _ wr).alloc (Nat.le_refl _) _).alloc (by simp) _
                obtain ⟨o2, ho2⟩ : ∃ x, newLab wr o' 0 = x := ⟨_, rfl⟩
                have hs2 : Step (fun _ => False) wr o' wc o2 := by rw [← ho2]; exact Step.below hBw fun k hk => newLab_old _ _ _ hk
                obtain ⟨l, hll⟩ : ∃ l : List Vn, l = ([⟨⟨#[97]⟩, A'⟩, ⟨⟨#[98]⟩, B'⟩] : List Vn).take z := ⟨_, rfl⟩
                have hlz : l.length = z := by rw [hll]; simp; omega
                have hxl : RecD vnC 2 wc o2 0 (some ⟨wr.heap.size + 1, 0, none⟩) 2 l := by
                  have h := rec_new (f := vnC) (z := 2) vnZ (w := wr.alloc (.cells #[.int .i64 kd, .int .i64 ri, .int .i64 rk, .string rd, .int .i64 rv, .int .i64 ro, .string rt, .int .i64 q, .int .i64 e, .slice (some ⟨wr.heap.size + 1, 0, none⟩) z 2] 63)) (xs := [⟨⟨#[97]⟩, A'⟩, ⟨⟨#[98]⟩, B'⟩]) (e := 141) (by simp)
                  rw [World.size_alloc] at h
                  have h2 := RecAt.take vnZ h z
                  rw [hll]
                  refine ⟨?_, fun _ b off hb => ?_⟩
                  · rw [HW.out]; exact h2
                  · simp only [Option.some.injEq, Addr.mk.injEq, and_true] at hb
                    obtain ⟨rfl, rfl⟩ := hb
                    refine ⟨by rw [← ho2]; exact newLab_new _ _ _ (by omega), ?_⟩
                    rw [HW.out]
                    simp
                have hblk : wc.heap[wr.heap.size]? = some (.cells #[.int .i64 kd, .int .i64 ri, .int .i64 rk, .string rd, .int .i64 rv, .int .i64 ro, .string rt, .int .i64 q, .int .i64 e, .slice (some ⟨wr.heap.size + 1, 0, none⟩) z 2] 63 (0, 0)) := by
                  rw [HW.out]
                  rw [heap_alloc_old]
                  · exact heap_alloc_new _ _
                  · simp
                have x0 := cell_of_row wc wr.heap.size 0 _ _ _ hblk
                have x1 := cell_of_row wc wr.heap.size 1 _ _ _ hblk
                have x2 := cell_of_row wc wr.heap.size 2 _ _ _ hblk
                have x3 := cell_of_row wc wr.heap.size 3 _ _ _ hblk
                have x4 := cell_of_row wc wr.heap.size 4 _ _ _ hblk
                have x5 := cell_of_row wc wr.heap.size 5 _ _ _ hblk
                have x6 := cell_of_row wc wr.heap.size 6 _ _ _ hblk
                have x7 := cell_of_row wc wr.heap.size 7 _ _ _ hblk
                have x8 := cell_of_row wc wr.heap.size 8 _ _ _ hblk
                have x9 := cell_of_row wc wr.heap.size 9 _ _ _ hblk
                simp at x0 x1 x2 x3 x4 x5 x6 x7 x8 x9
                have hO2 := HO.out.step hs2 (fun h => h) (fun h => h)
                obtain ⟨ra, rc, hru⟩ := hO2.1.form
                rw [HL.out] at hru
                subst hru
                have hrow := hO2.1
                unfold RecL at hrow
                rw [HL.out] at hrow
                have HR := Lib.hid hrow
                have HO2 := Lib.hid hO2
                have HS2 := Lib.hid ((HS.out.trans (hs2.mono fun _ h => h.elim)))
                have HXL := Lib.hid hxl
                have HLZ := Lib.hid hlz
                clear hrow hO2 hs2 hxl hlz hll hBw ho2 hblk HO HS
                go_wp2_with (at_builtin; refine wpList_append_row rfl (.tmp 128) (.tmp 130) 58 rfl elemO rfl HR.out ((Below.refl _ wc).alloc (Nat.le_refl _) _) (some ⟨wc.heap.size, 0, none⟩) 1 1 [.int .i64 kd, .int .i64 ri, .int .i64 rk, .string rd, .int .i64 rv, .int .i64 ro, .string rt, .int .i64 q, .int .i64 e, .slice (some ⟨wr.heap.size + 1, 0, none⟩) z 2] rfl (row_new (cs := [.int .i64 kd, .int .i64 ri, .int .i64 rk, .string rd, .int .i64 rv, .int .i64 ro, .string rt, .int .i64 q, .int .i64 e, .slice (some ⟨wr.heap.size + 1, 0, none⟩) z 2]) (by rfl) (by omega)) (by simp [Value.oneCell']) (by omega) (by omega) ?_)
                intro v5 w5 hrow5 hs5
                obtain ⟨a5, k5, rfl⟩ := hrow5.form
                have HR5 := Lib.hid hrow5
                have HS5 := Lib.hid hs5
                clear hrow5 hs5 x0 x1 x2 x3 x4 x5 x6 x7 x8 x9
                go_wp2_with fail
                go_roundw
                case rel =>
                  refine ⟨k + 1, A', B', D', by omega, by omega, by go_num, rfl, rfl, rfl, by omega, by omega, by omega, newLab wc o2 lo, ops ++ [⟨kd, ⟨ri, rk, rd, rv, ro, rt⟩, q, e, some ⟨wr.heap.size + 1, 0, none⟩, 2, l⟩], ?_, HS2.out.trans HS5.out, ?_, ?_⟩
                  · rw [List.length_append, HL.out]; rfl
                  · refine RecL.snoc ?_
                    rw [HL.out]
                    have h := HR5.out
                    unfold opC
                    rw [HLZ.out]
                    exact h
                  · intro m hm
                    rcases List.mem_append.1 hm with hm | hm
                    · exact (HO2.out.2 m hm).step HS5.out (fun h => hlo h.symm)
                    · simp only [List.mem_singleton] at hm
                      subst hm
                      obtain ⟨b1, b2, b3, b4, b5, b6, b7, b8, b9, b10, b11, b12, b13⟩ := HBD.out
                      exact ⟨⟨b1, b2, b3, b4, b5, b6, b7, b8, b9, b10, b11, b12, by show (0 : Int) ≤ (q : Int); omega, by show (q : Int) ≤ 100; omega, b13, by show l.length ≤ 2; rw [HLZ.out]; exact hz2⟩, HXL.out.step HS5.out (fun h => hlo h.symm)⟩
                case measure => simp [intOf]; omega
      · have hk' : k = 30 := by omega
        subst hk'
        have d1 : decide ((30 : Int) < xs.length) = true := decide_eq_true (by omega)
        have hin' : (30 : Int) < xs.length := by omega
        obtain ⟨o', ops, h1, h2, h3⟩ := HE.out (by omega)
        have H1 := Lib.hid h1
        have H2 := Lib.hid h2
        have H3 := Lib.hid h3
        clear h1 h2 h3 HE HM
        go_wp2_with fail
        go_ret
        exact ⟨_, o', ops, rfl, H1.out, H2.out, H3.out⟩
    · have hk' : k = xs.length := by omega
      obtain ⟨o', ops, h1, h2, h3⟩ := HE.out (by omega)
      have H1 := Lib.hid h1
      have H2 := Lib.hid h2
      have H3 := Lib.hid h3
      clear h1 h2 h3 HE HM
      subst hk'
      go_wp2_with fail
      go_ret
      exact ⟨_, o', ops, rfl, H1.out, H2.out, H3.out⟩
end Go.Proofs.Ytaonhmdifinadaa
