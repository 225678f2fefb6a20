/-
  The generator of values: whatever the numbers, up to eight values within bounds.
-/
import Derived.Test.YtplhclmmmfpgeaaValR
import Derived.Deep.DeepCutAuto
import Derived.Deep.CutBlock
import Derived.StillTailTactics
import Derived.Deep.RegionLaw
namespace Go.Proofs.Ytplhclmmmfpgeaa
open Go Go.Proofs
open Go.RowKit
set_option linter.unusedVariables false
set_option linter.unusedSimpArgs false

theorem elemV : ElemT Try.prog 35 47 (.agg #[.int .i64 0, .int .u64 0, .int .i64 0, .slice none 0 0, .slice none 0 0]) 5 72 := ⟨Try.underlying35, info_parts (by kernel_rfl), rfl, by decide⟩
/-- What a generated value is: what its kind does not use is zero. -/
def ValS.Small (v : ValS) : Prop := v.Ok ∧ v.b.length ≤ 10 ∧ v.l.length ≤ 5 ∧ (v.kind ≠ 0 → v.u = 0) ∧ (v.kind ≠ 1 → v.kind ≠ 2 → v.n = 0) ∧ (v.kind = 2 → v.n = 0 ∨ v.n = 1) ∧ (v.kind ≠ 3 → v.kind ≠ 4 → v.b = []) ∧ (v.kind ≠ 5 → v.l = [])
/-- A value in a block. -/
def Mk (w : World) (o : Nat → Nat) (lt n kd : Nat) : Prop := ∃ (v : ValS) (x y : Value), v.kind = kd ∧ v.Small ∧ Blk w o lt n [.int .i64 kd, .int .u64 v.u, .int .i64 v.n, x, y] ∧ ValC w o v x y
theorem kept_alloc {w : World} {p : Addr} {v : Value} (h : w.cell? p = some v) : ∀ ob, (w.alloc ob).cell? p = some v :=
  fun ob => Below.kept ((Below.refl _ w).alloc (Nat.le_refl _) ob) (Nat.le_refl _) h

theorem tdiv6 {n : Int} (h1 : -9223372036854775808 ≤ n) (h2 : n ≤ 9223372036854775807) : -9223372036854775808 ≤ n.tdiv 6 ∧ n.tdiv 6 ≤ 9223372036854775807 := by
  by_cases h : 0 ≤ n
  · rw [Int.tdiv_eq_ediv_of_nonneg h]; omega
  · have e : n.tdiv 6 = -((-n).tdiv 6) := by rw [Int.neg_tdiv, Int.neg_neg]
    rw [e, Int.tdiv_eq_ediv_of_nonneg (by omega)]; omega
theorem shr_bound {n lo hi : Int} (d : Int) (hd : 1 ≤ d) (h1 : lo ≤ n) (h2 : n ≤ hi) (h3 : lo ≤ 0) (h4 : 0 ≤ hi) : lo ≤ n / d ∧ n / d ≤ hi := by
  by_cases h : 0 ≤ n
  · have a := Int.ediv_nonneg h (show (0 : Int) ≤ d by omega)
    have b := Int.ediv_le_self d h
    omega
  · have a : n ≤ n / d := by
      rw [Int.le_ediv_iff_mul_le (by omega)]
      have := Int.mul_le_mul_of_nonpos_left (show n ≤ 0 by omega) hd
      omega
    have b : n / d ≤ 0 := Int.ediv_nonpos_of_nonpos_of_neg (by omega) (by omega)
    omega
theorem pow_pos1 (m : Nat) : (1 : Int) ≤ 2 ^ m := by
  have := Nat.one_le_two_pow (n := m)
  have e : ((2 : Int) ^ m) = ((2 ^ m : Nat) : Int) := by simp
  rw [e]; omega
theorem mk_set {wr w1 : World} {o1 o2 : Nat → Nat} {lt n kd : Nat} (hs : Step (fun _ => False) wr o1 w1 o2) (hb : Blk w1 o2 lt n [.int .i64 kd, .int .u64 0, .int .i64 0, .slice none 0 0, .slice none 0 0]) (hf : ∀ k, k < wr.heap.size → o1 k ≠ lt) (j : Nat) (U : Value) (v : ValS) (hk : v.kind = kd) (hok : v.Small) (hvb : v.b = []) (hvl : v.l = [])
    (he : ([.int .i64 kd, .int .u64 0, .int .i64 0, .slice none 0 0, .slice none 0 0] : List Value).set j U = [.int .i64 kd, .int .u64 v.u, .int .i64 v.n, .slice none 0 0, .slice none 0 0]) :
    ∃ o3, Hid (Step (fun _ => False) wr o1 (w1.setCell ⟨n, j, none⟩ U) o3) ∧ Hid (Mk (w1.setCell ⟨n, j, none⟩ U) o3 lt n kd) := by
  have h1 : Step (· = lt) w1 o2 (w1.setCell ⟨n, j, none⟩ U) o2 := (Step.refl _ _ _).set (p := ⟨n, j, none⟩) hb.lab _
  refine ⟨o2, ((hs.mono fun _ h => h.elim).trans h1).sub fun k hk h => hf k hk h, v, .slice none 0 0, .slice none 0 0, hk, hok, ?_, ⟨none, 0, none, 0, by rw [hvb]; rfl, by rw [hvl]; rfl, by rw [hvb]; exact Dat.nil byteV _ _ _, by rw [hvl]; exact Dat.nil intV _ _ _⟩⟩
  have := hb.set j U
  rw [he] at this
  exact this
theorem u8_byte {X : Int} : IntKind.u8.wrap X = ((UInt8.ofNat (X % 256).toNat).toNat : Int) := by
  rw [UInt8.toNat_ofNat']
  simp [IntKind.wrap, IntKind.bits, IntKind.signed]
  omega
set_option maxRecDepth 100000 in
set_option maxHeartbeats 8000000 in
theorem vals_any (a : Option Addr) (c : Nat) (xs : List Int) (lv : Nat) (w : World) (o : Nat → Nat) (hx : SliceAt w a c (xs.map intV)) (hxb : ∀ n ∈ xs, -9223372036854775808 ≤ n ∧ n ≤ 9223372036854775807)
    (hlv : 0 < lv) (hfv : ∀ k, k < w.heap.size → o k ≠ lv) :
    Calls Try.prog 19 #[.slice a xs.length c] w fun e w' => ∃ v o' vs, e = .returned v ∧ Step (fun _ => False) w o w' o' ∧ VRow w' o' lv v vs ∧ vs.length ≤ 8 ∧ ∀ x ∈ vs, x.Small := by
  have hxl := hx.len
  simp only [List.length_map] at hxl
  have HX := Lib.hid hx
  have HXB := Lib.hid hxb
  have HFV := Lib.hid hfv
  clear hx hxb hfv
  go_enter Try.func19, Try.ntmps19
  go_wp2_with fail
  go_loopw [3, 4] (fun ov iv wr => ∃ (i : Nat) (o1 : Nat → Nat) (vs : List ValS), i ≤ 8 ∧ i ≤ xs.length ∧ iv = .int .i64 i ∧ vs.length = i ∧ Hid (Step (fun _ => False) w o wr o1) ∧ Hid (VRow wr o1 lv ov vs) ∧ Hid (∀ x ∈ vs, x.Small)) (fun _ iv _ => 8 - (intOf iv).toNat)
  case atStart => exact ⟨0, o, [], by omega, by omega, rfl, rfl, Step.refl _ _ _, ⟨[], RowL.nil _ _ _ _ _, rfl, fun p hp => by cases hp⟩, fun x hx => by cases hx⟩
  case round =>
    obtain ⟨i, o1, vs, hi8, hil, rfl, hvl, HS, HV, HO⟩ := hrel
    obtain ⟨wo, rfl⟩ : ∃ x : World, x = wr := ⟨_, rfl⟩
    by_cases hlt : i < xs.length
    · have d1 : decide ((i : Int) < (xs.length : Int)) = true := decide_eq_true (by omega)
      have d1' : decide (i < xs.length) = true := decide_eq_true hlt
      by_cases h8 : i < 8
      · have d2 : decide ((i : Int) < 8) = true := decide_eq_true (by omega)
        have hxr : SliceAt wo a c (xs.map intV) := HX.out.below (HS.out.toBelow (Nat.le_refl _) (fun _ _ h => h))
        obtain ⟨b, off, rfl⟩ := hxr.addr (by simp; omega)
        have f1 := hxr.intV hlt
        have hnb := HXB.out xs[i] (List.getElem_mem _)
        generalize xs[i] = n at *
        have f1a := kept_alloc f1
        have k0 := aroundI_lo n 6 (by omega)
        have k1 := aroundI_hi n 6 (by omega)
        have m0 := aroundI_lo (n.tdiv 6) 63 (by omega)
        have m1 := aroundI_hi (n.tdiv 6) 63 (by omega)
        have R1 := Lib.hid (around_any n 6 wo (by omega) (by omega) hnb.1 hnb.2)
        have hq : -9223372036854775808 ≤ n.tdiv 6 ∧ n.tdiv 6 ≤ 9223372036854775807 := tdiv6 hnb.1 hnb.2
        have R2 := Lib.hid (around_any (n.tdiv 6) 63 wo (by omega) (by omega) hq.1 hq.2)
        generalize aroundI n 6 = k at *
        generalize aroundI (n.tdiv 6) 63 = m at *
        obtain ⟨k, rfl⟩ : ∃ z : Nat, k = z := ⟨k.toNat, by omega⟩
        obtain ⟨m, rfl⟩ : ∃ z : Nat, m = z := ⟨m.toNat, by omega⟩
        obtain ⟨lt, hlt1, hlt2, hft⟩ := fresh_lab wo o1 0 lv
        have s1 := step_new wo o1 lt (.cells #[.int .i64 k, .int .u64 0, .int .i64 0, .slice none 0 0, .slice none 0 0] 47)
        have B1 : Blk (wo.alloc (.cells #[.int .i64 k, .int .u64 0, .int .i64 0, .slice none 0 0, .slice none 0 0] 47)) (newLab wo o1 lt) lt wo.heap.size [.int .i64 k, .int .u64 0, .int .i64 0, .slice none 0 0, .slice none 0 0] := ⟨_, heap_alloc_new _ _, newLab_new _ _ _ (Nat.le_refl _)⟩
        obtain ⟨w1, hw1⟩ : ∃ x, x = wo.alloc (.cells #[.int .i64 k, .int .u64 0, .int .i64 0, .slice none 0 0, .slice none 0 0] 47) := ⟨_, rfl⟩
        rw [← hw1] at s1 B1
        have S1 := Lib.hid s1
        have BB1 := Lib.hid B1
        have HW := Lib.hid hw1
        have f2 : w1.cell? ⟨b, off + i, none⟩ = some (.int .i64 n) := by rw [hw1]; exact f1a _
        clear s1 B1 hw1
        go_wp2_with fail
        refine R1.out.mono ?_
        rintro e w9 ⟨rfl, rfl⟩
        go_wp2_with fail
        refine R2.out.mono ?_
        rintro e w9 ⟨rfl, rfl⟩
        go_upto_block 2 with fail
        rw [← HW.out]
        have g0 := BB1.out.cell (j := 0) rfl
        have g1 := BB1.out.cell (j := 1) rfl
        have g2 := BB1.out.cell (j := 2) rfl
        have g3 := BB1.out.cell (j := 3) rfl
        have g4 := BB1.out.cell (j := 4) rfl
        have g5 := BB1.out.frozen
        go_cut [] (fun wx => ∃ o3, Hid (Step (fun _ => False) wo o1 wx o3) ∧ Hid (Mk wx o3 lt wo.heap.size k))
        case first =>
          have hk : k = 0 ∨ k = 1 ∨ k = 2 ∨ k = 3 ∨ k = 4 ∨ k = 5 := by omega
          rcases hk with rfl | rfl | rfl | hk3 | hk4 | hk5
          · go_wp2_with fail
            go_meet
            have e1 : 0 ≤ IntKind.u64.wrap n / 2 ^ m ∧ IntKind.u64.wrap n / 2 ^ m ≤ 18446744073709551615 := by
              rw [wrap_u64]
              exact shr_bound _ (pow_pos1 m) (by omega) (by omega) (by omega) (by omega)
            refine mk_set S1.out BB1.out hft 1 _ ⟨0, (IntKind.u64.wrap n / 2 ^ m).toNat, 0, [], []⟩ rfl ⟨⟨by simp, by simp only; omega, by simp, by simp, by simp, by simp⟩, by simp, by simp, by simp, by simp, by simp, by simp, by simp⟩ rfl rfl ?_
            simp only [List.set_cons_succ, List.set_cons_zero]
            rw [Int.toNat_of_nonneg e1.1]
          · go_wp2_with fail
            go_meet
            have e1 := shr_bound (2 ^ m) (pow_pos1 m) hnb.1 hnb.2 (by omega) (by omega)
            exact mk_set S1.out BB1.out hft 2 _ ⟨1, 0, n / 2 ^ m, [], []⟩ rfl ⟨⟨by simp, by simp, e1, by simp, by simp, by simp⟩, by simp, by simp, by simp, by simp, by simp, by simp, by simp⟩ rfl rfl rfl
          · go_wp2_with fail
            go_meet
            exact mk_set S1.out BB1.out hft 2 _ ⟨2, 0, (m : Int) % 2, [], []⟩ rfl ⟨⟨by simp, by simp, by simp only; omega, by simp, by simp, by simp⟩, by simp, by simp, by simp, by simp, fun _ => by simp only; omega, by simp, by simp⟩ rfl rfl rfl
          · have k0 : ((k : Int) == 0) = false := by simp; omega
            have k1 : ((k : Int) == 1) = false := by simp; omega
            have k2 : ((k : Int) == 2) = false := by simp; omega
            have k3 : ((k : Int) == 3) = true := by simp; omega
            have HK := Lib.hid hk3
            clear hk3
            obtain ⟨lr, hlr1, hlr2, hfr⟩ := fresh_lab wo o1 0 lt
            obtain ⟨q, hq⟩ : ∃ q, q = m % 10 := ⟨_, rfl⟩
            have hmq : (m : Int) % 10 = (q : Int) := by omega
            have hq5 : q < 10 := by omega
            clear hq
            go_wp2_with fail
            go_loopw [8] (fun jv wq => ∃ (j : Nat) (o' : Nat → Nat) (bs : List UInt8) (bv : Value), j ≤ q ∧ jv = .int .i64 j ∧ bs.length = j ∧ Hid (Step (fun _ => False) wo o1 wq o') ∧ Hid (Blk wq o' lt wo.heap.size [.int .i64 k, .int .u64 0, .int .i64 0, bv, .slice none 0 0]) ∧ Hid (RowL wq o' lr 5 1 bv bs.length (bs.map byteV))) (fun jv _ => q - (intOf jv).toNat)
            case atStart => exact ⟨0, _, [], .slice none 0 0, by omega, rfl, rfl, S1.out, BB1.out, RowL.nil _ _ _ _ _⟩
            case round =>
              obtain ⟨j, o2, bs, bv, hj, rfl, hbl, HS2, HB2, HR2⟩ := hrel
              have f3 : wr.cell? ⟨b, off + i, none⟩ = some (.int .i64 n) := Below.kept (HS2.out.toBelow (Nat.le_refl _) (fun _ _ h => h)) (Nat.le_refl _) f1
              obtain ⟨ba, bc, hbv⟩ := HR2.out.form
              subst hbv
              rw [hbl] at HR2 HB2
              by_cases hjq : j < q
              · have d3 : decide ((j : Int) < (q : Int)) = true := decide_eq_true (by omega)
                have d3' : decide (j < q) = true := decide_eq_true hjq
                have c4 := HB2.out.cell (j := 3) rfl
                have c4d : wr.drew.cell? ⟨wo.heap.size, 3, none⟩ = some (.slice ba j bc) := c4
                have f3d : wr.drew.cell? ⟨b, off + i, none⟩ = some (.int .i64 n) := f3
                have c4a := kept_alloc c4d
                have f3a := kept_alloc f3d
                have hz60 : j ≤ 63 := by omega
                have hz1 : j ≤ 10 := by omega
                have c4e : ∀ ob, ((wr.alloc ob).drew).cell? ⟨wo.heap.size, 3, none⟩ = some (.slice ba j bc) := kept_alloc c4
                have f3e : ∀ ob, ((wr.alloc ob).drew).cell? ⟨b, off + i, none⟩ = some (.int .i64 n) := kept_alloc f3
                have wz1 : IntKind.i64.wrap (j : Int) = j := IntWalk.i64_in _ (by omega)
                have wz2 : IntKind.u64.wrap (j : Int) = j := by rw [wrap_u64]; omega
                have wz3 : min j 64 = j := by omega
                go_wp2_with fail
                go_region_law (refine step_append_row (by rfl) (.tmp 89) (.tmp 98) 24 (by rfl) elemB (by rfl) HR2.out (w := wr.drew.alloc (.cells #[.int .u8 (IntKind.u8.wrap (n / 2 ^ j))] 5)) ((Below.drew (Below.refl _ wr)).alloc (Nat.le_refl _) _) (some ⟨wr.heap.size, 0, none⟩) 1 1 [.int .u8 (IntKind.u8.wrap (n / 2 ^ j))] (by rfl) (row_new (w := wr.drew) (cs := [.int .u8 (IntKind.u8.wrap (n / 2 ^ j))]) (by simp) (by omega)) (by simp [Value.oneCell']) (by omega) (by omega) ?_; intro v' w2 hrow2 hs2; obtain ⟨a2, c2, rfl⟩ := hrow2.form; have H22 := HB2.out.step hs2 (by omega); have k2 := H22.cell (j := 3) rfl; have k3 := H22.frozen 3)
                all_goals
                  have hs3 : Step (· = lt) w2 (newLab wr o2 lr) (w2.setCell ⟨wo.heap.size, 3, none⟩ (.slice a2 (j + 1) c2)) (newLab wr o2 lr) := (Step.refl _ _ _).set (p := ⟨wo.heap.size, 3, none⟩) H22.lab _
                  have HS4 : Hid (Step (fun _ => False) wo o1 (w2.setCell ⟨wo.heap.size, 3, none⟩ (.slice a2 (j + 1) c2)) (newLab wr o2 lr)) :=
                    (((HS2.out.mono (L' := fun l => l = lr ∨ l = lt) fun _ h => h.elim).trans (hs2.mono fun _ h => .inl h)).trans (hs3.mono fun _ h => .inr h)).sub fun k hk h => h.elim (hfr k hk) (hft k hk)
                  have HB4 := Lib.hid (H22.set 3 (.slice a2 (j + 1) c2))
                  have HR4 : Hid (RowL (w2.setCell ⟨wo.heap.size, 3, none⟩ (.slice a2 (j + 1) c2)) (newLab wr o2 lr) lr 5 1 (.slice a2 (j + 1) c2) (bs ++ [UInt8.ofNat ((n / 2 ^ j) % 256).toNat]).length ((bs ++ [UInt8.ofNat ((n / 2 ^ j) % 256).toNat]).map byteV)) := by
                    have := hrow2.step hs3 (by omega)
                    unfold Hid
                    rw [List.length_append, List.map_append, hbl]
                    rw [u8_byte] at this; exact this
                  clear hs3 hs2 hrow2 H22
                  go_wp2
                  go_roundw
                  case rel => first | exact ⟨j + 1, _, bs ++ [UInt8.ofNat ((n / 2 ^ j) % 256).toNat], _, by omega, by go_num, by rw [List.length_append, hbl]; rfl, HS4.out, HB4.out, HR4.out⟩ | ((repeat apply Exists.intro); refine ⟨?_, rfl⟩; exact ⟨j + 1, _, bs ++ [UInt8.ofNat ((n / 2 ^ j) % 256).toNat], _, by omega, by go_num, by rw [List.length_append, hbl]; rfl, HS4.out, HB4.out, HR4.out⟩)
                  case measure => simp [intOf]; omega
              · have d3 : decide ((j : Int) < (q : Int)) = false := decide_eq_false (by omega)
                have d3' : decide (j < q) = false := decide_eq_false hjq
                go_wp2_with fail
                go_meet
                have hr := HR2.out
                rw [← hbl] at hr
                refine ⟨reLab o2 lr, HS2.out.relabel hfr, ⟨k, 0, 0, bs, []⟩, _, _, rfl, ⟨⟨by simp only; omega, by simp, by simp, by simp only; omega, by simp, by simp⟩, by simp only; omega, by simp, by simp, by simp, fun h => by have := HK.out; simp only at h; omega, fun h1 h2 => by have := HK.out; simp only at h1 h2; omega, by simp⟩, HB2.out.relab (reLab_ne rfl (by rw [HB2.out.lab]; omega)), ?_⟩
                exact ⟨ba, bc, none, 0, by rw [hbl], rfl, hr.relabel, Dat.nil intV _ _ _⟩
          · have k0 : ((k : Int) == 0) = false := by simp; omega
            have k1 : ((k : Int) == 1) = false := by simp; omega
            have k2 : ((k : Int) == 2) = false := by simp; omega
            have k3 : ((k : Int) == 3) = false := by simp; omega
            have k4 : ((k : Int) == 4) = true := by simp; omega
            have HK := Lib.hid hk4
            clear hk4
            obtain ⟨lr, hlr1, hlr2, hfr⟩ := fresh_lab wo o1 0 lt
            obtain ⟨q, hq⟩ : ∃ q, q = m % 10 := ⟨_, rfl⟩
            have hmq : (m : Int) % 10 = (q : Int) := by omega
            have hq5 : q < 10 := by omega
            clear hq
            go_wp2_with fail
            go_loopw [8] (fun jv wq => ∃ (j : Nat) (o' : Nat → Nat) (bs : List UInt8) (bv : Value), j ≤ q ∧ jv = .int .i64 j ∧ bs.length = j ∧ Hid (Step (fun _ => False) wo o1 wq o') ∧ Hid (Blk wq o' lt wo.heap.size [.int .i64 k, .int .u64 0, .int .i64 0, bv, .slice none 0 0]) ∧ Hid (RowL wq o' lr 5 1 bv bs.length (bs.map byteV))) (fun jv _ => q - (intOf jv).toNat)
            case atStart => exact ⟨0, _, [], .slice none 0 0, by omega, rfl, rfl, S1.out, BB1.out, RowL.nil _ _ _ _ _⟩
            case round =>
              obtain ⟨j, o2, bs, bv, hj, rfl, hbl, HS2, HB2, HR2⟩ := hrel
              have f3 : wr.cell? ⟨b, off + i, none⟩ = some (.int .i64 n) := Below.kept (HS2.out.toBelow (Nat.le_refl _) (fun _ _ h => h)) (Nat.le_refl _) f1
              obtain ⟨ba, bc, hbv⟩ := HR2.out.form
              subst hbv
              rw [hbl] at HR2 HB2
              by_cases hjq : j < q
              · have d3 : decide ((j : Int) < (q : Int)) = true := decide_eq_true (by omega)
                have d3' : decide (j < q) = true := decide_eq_true hjq
                have c4 := HB2.out.cell (j := 3) rfl
                have c4d : wr.drew.cell? ⟨wo.heap.size, 3, none⟩ = some (.slice ba j bc) := c4
                have f3d : wr.drew.cell? ⟨b, off + i, none⟩ = some (.int .i64 n) := f3
                have c4a := kept_alloc c4d
                have f3a := kept_alloc f3d
                have hz60 : j ≤ 63 := by omega
                have hz1 : j ≤ 10 := by omega
                have c4e : ∀ ob, ((wr.alloc ob).drew).cell? ⟨wo.heap.size, 3, none⟩ = some (.slice ba j bc) := kept_alloc c4
                have f3e : ∀ ob, ((wr.alloc ob).drew).cell? ⟨b, off + i, none⟩ = some (.int .i64 n) := kept_alloc f3
                have wz1 : IntKind.i64.wrap (j : Int) = j := IntWalk.i64_in _ (by omega)
                have wz2 : IntKind.u64.wrap (j : Int) = j := by rw [wrap_u64]; omega
                have wz3 : min j 64 = j := by omega
                go_wp2_with fail
                go_region_law (refine step_append_row (by rfl) (.tmp 89) (.tmp 98) 24 (by rfl) elemB (by rfl) HR2.out (w := wr.drew.alloc (.cells #[.int .u8 (IntKind.u8.wrap (n / 2 ^ j))] 5)) ((Below.drew (Below.refl _ wr)).alloc (Nat.le_refl _) _) (some ⟨wr.heap.size, 0, none⟩) 1 1 [.int .u8 (IntKind.u8.wrap (n / 2 ^ j))] (by rfl) (row_new (w := wr.drew) (cs := [.int .u8 (IntKind.u8.wrap (n / 2 ^ j))]) (by simp) (by omega)) (by simp [Value.oneCell']) (by omega) (by omega) ?_; intro v' w2 hrow2 hs2; obtain ⟨a2, c2, rfl⟩ := hrow2.form; have H22 := HB2.out.step hs2 (by omega); have k2 := H22.cell (j := 3) rfl; have k3 := H22.frozen 3)
                all_goals
                  have hs3 : Step (· = lt) w2 (newLab wr o2 lr) (w2.setCell ⟨wo.heap.size, 3, none⟩ (.slice a2 (j + 1) c2)) (newLab wr o2 lr) := (Step.refl _ _ _).set (p := ⟨wo.heap.size, 3, none⟩) H22.lab _
                  have HS4 : Hid (Step (fun _ => False) wo o1 (w2.setCell ⟨wo.heap.size, 3, none⟩ (.slice a2 (j + 1) c2)) (newLab wr o2 lr)) :=
                    (((HS2.out.mono (L' := fun l => l = lr ∨ l = lt) fun _ h => h.elim).trans (hs2.mono fun _ h => .inl h)).trans (hs3.mono fun _ h => .inr h)).sub fun k hk h => h.elim (hfr k hk) (hft k hk)
                  have HB4 := Lib.hid (H22.set 3 (.slice a2 (j + 1) c2))
                  have HR4 : Hid (RowL (w2.setCell ⟨wo.heap.size, 3, none⟩ (.slice a2 (j + 1) c2)) (newLab wr o2 lr) lr 5 1 (.slice a2 (j + 1) c2) (bs ++ [UInt8.ofNat ((n / 2 ^ j) % 256).toNat]).length ((bs ++ [UInt8.ofNat ((n / 2 ^ j) % 256).toNat]).map byteV)) := by
                    have := hrow2.step hs3 (by omega)
                    unfold Hid
                    rw [List.length_append, List.map_append, hbl]
                    rw [u8_byte] at this; exact this
                  clear hs3 hs2 hrow2 H22
                  go_wp2
                  go_roundw
                  case rel => first | exact ⟨j + 1, _, bs ++ [UInt8.ofNat ((n / 2 ^ j) % 256).toNat], _, by omega, by go_num, by rw [List.length_append, hbl]; rfl, HS4.out, HB4.out, HR4.out⟩ | ((repeat apply Exists.intro); refine ⟨?_, rfl⟩; exact ⟨j + 1, _, bs ++ [UInt8.ofNat ((n / 2 ^ j) % 256).toNat], _, by omega, by go_num, by rw [List.length_append, hbl]; rfl, HS4.out, HB4.out, HR4.out⟩)
                  case measure => simp [intOf]; omega
              · have d3 : decide ((j : Int) < (q : Int)) = false := decide_eq_false (by omega)
                have d3' : decide (j < q) = false := decide_eq_false hjq
                go_wp2_with fail
                go_meet
                have hr := HR2.out
                rw [← hbl] at hr
                refine ⟨reLab o2 lr, HS2.out.relabel hfr, ⟨k, 0, 0, bs, []⟩, _, _, rfl, ⟨⟨by simp only; omega, by simp, by simp, by simp only; omega, by simp, by simp⟩, by simp only; omega, by simp, by simp, by simp, fun h => by have := HK.out; simp only at h; omega, fun h1 h2 => by have := HK.out; simp only at h1 h2; omega, by simp⟩, HB2.out.relab (reLab_ne rfl (by rw [HB2.out.lab]; omega)), ?_⟩
                exact ⟨ba, bc, none, 0, by rw [hbl], rfl, hr.relabel, Dat.nil intV _ _ _⟩
          · have k0 : ((k : Int) == 0) = false := by simp; omega
            have k1 : ((k : Int) == 1) = false := by simp; omega
            have k2 : ((k : Int) == 2) = false := by simp; omega
            have k3 : ((k : Int) == 3) = false := by simp; omega
            have k4 : ((k : Int) == 4) = false := by simp; omega
            have HK := Lib.hid hk5
            clear hk5
            obtain ⟨lr, hlr1, hlr2, hfr⟩ := fresh_lab wo o1 0 lt
            obtain ⟨q, hq⟩ : ∃ q, q = m % 5 := ⟨_, rfl⟩
            have hmq : (m : Int) % 5 = (q : Int) := by omega
            have hq5 : q < 5 := by omega
            clear hq
            go_wp2_with fail
            go_loopw [9] (fun jv wq => ∃ (j : Nat) (o' : Nat → Nat) (bs : List Int) (bv : Value), j ≤ q ∧ jv = .int .i64 j ∧ bs.length = j ∧ Hid (∀ z ∈ bs, -9223372036854775808 ≤ z ∧ z ≤ 9223372036854775807) ∧ Hid (Step (fun _ => False) wo o1 wq o') ∧ Hid (Blk wq o' lt wo.heap.size [.int .i64 k, .int .u64 0, .int .i64 0, .slice none 0 0, bv]) ∧ Hid (RowL wq o' lr 3 1 bv bs.length (bs.map intV))) (fun jv _ => q - (intOf jv).toNat)
            case atStart => exact ⟨0, _, [], .slice none 0 0, by omega, rfl, rfl, (by unfold Hid; simp), S1.out, BB1.out, RowL.nil _ _ _ _ _⟩
            case round =>
              obtain ⟨j, o2, bs, bv, hj, rfl, hbl, HBB, HS2, HB2, HR2⟩ := hrel
              have f3 : wr.cell? ⟨b, off + i, none⟩ = some (.int .i64 n) := Below.kept (HS2.out.toBelow (Nat.le_refl _) (fun _ _ h => h)) (Nat.le_refl _) f1
              obtain ⟨ba, bc, hbv⟩ := HR2.out.form
              subst hbv
              rw [hbl] at HR2 HB2
              by_cases hjq : j < q
              · have d3 : decide ((j : Int) < (q : Int)) = true := decide_eq_true (by omega)
                have d3' : decide (j < q) = true := decide_eq_true hjq
                have c4 := HB2.out.cell (j := 4) rfl
                have c4d : wr.drew.cell? ⟨wo.heap.size, 4, none⟩ = some (.slice ba j bc) := c4
                have f3d : wr.drew.cell? ⟨b, off + i, none⟩ = some (.int .i64 n) := f3
                have c4a := kept_alloc c4d
                have f3a := kept_alloc f3d
                obtain ⟨z, hz⟩ : ∃ z, z = 13 * j := ⟨_, rfl⟩
                have hj13 : (13 : Int) * (j : Int) = (z : Int) := by omega
                have hz60 : z ≤ 63 := by omega
                clear hz
                have hz1 : j ≤ 10 := by omega
                have c4e : ∀ ob, ((wr.alloc ob).drew).cell? ⟨wo.heap.size, 4, none⟩ = some (.slice ba j bc) := kept_alloc c4
                have f3e : ∀ ob, ((wr.alloc ob).drew).cell? ⟨b, off + i, none⟩ = some (.int .i64 n) := kept_alloc f3
                have wz1 : IntKind.i64.wrap (z : Int) = z := IntWalk.i64_in _ (by omega)
                have wz2 : IntKind.u64.wrap (z : Int) = z := by rw [wrap_u64]; omega
                have wz3 : min z 64 = z := by omega
                go_wp2_with fail
                go_region_law (refine step_append_row (by rfl) (.tmp 41) (.tmp 50) 33 (by rfl) elemI (by rfl) HR2.out (w := wr.drew.alloc (.cells #[.int .i64 (n / 2 ^ z)] 3)) ((Below.drew (Below.refl _ wr)).alloc (Nat.le_refl _) _) (some ⟨wr.heap.size, 0, none⟩) 1 1 [.int .i64 (n / 2 ^ z)] (by rfl) (row_new (w := wr.drew) (cs := [.int .i64 (n / 2 ^ z)]) (by simp) (by omega)) (by simp [Value.oneCell']) (by omega) (by omega) ?_; intro v' w2 hrow2 hs2; obtain ⟨a2, c2, rfl⟩ := hrow2.form; have H22 := HB2.out.step hs2 (by omega); have k2 := H22.cell (j := 4) rfl; have k3 := H22.frozen 4)
                all_goals
                  have hs3 : Step (· = lt) w2 (newLab wr o2 lr) (w2.setCell ⟨wo.heap.size, 4, none⟩ (.slice a2 (j + 1) c2)) (newLab wr o2 lr) := (Step.refl _ _ _).set (p := ⟨wo.heap.size, 4, none⟩) H22.lab _
                  have HS4 : Hid (Step (fun _ => False) wo o1 (w2.setCell ⟨wo.heap.size, 4, none⟩ (.slice a2 (j + 1) c2)) (newLab wr o2 lr)) :=
                    (((HS2.out.mono (L' := fun l => l = lr ∨ l = lt) fun _ h => h.elim).trans (hs2.mono fun _ h => .inl h)).trans (hs3.mono fun _ h => .inr h)).sub fun k hk h => h.elim (hfr k hk) (hft k hk)
                  have HB4 := Lib.hid (H22.set 4 (.slice a2 (j + 1) c2))
                  have HR4 : Hid (RowL (w2.setCell ⟨wo.heap.size, 4, none⟩ (.slice a2 (j + 1) c2)) (newLab wr o2 lr) lr 3 1 (.slice a2 (j + 1) c2) (bs ++ [n / 2 ^ z]).length ((bs ++ [n / 2 ^ z]).map intV)) := by
                    have := hrow2.step hs3 (by omega)
                    unfold Hid
                    rw [List.length_append, List.map_append, hbl]
                    exact this
                  have HBB2 : Hid (∀ y ∈ bs ++ [n / 2 ^ z], -9223372036854775808 ≤ y ∧ y ≤ 9223372036854775807) := by
                    intro y hy
                    rcases List.mem_append.1 hy with h | h
                    · exact HBB.out y h
                    · simp only [List.mem_singleton] at h
                      subst h
                      exact shr_bound _ (pow_pos1 z) hnb.1 hnb.2 (by omega) (by omega)
                  clear hs3 hs2 hrow2 H22
                  go_wp2
                  go_roundw
                  case rel => first | exact ⟨j + 1, _, bs ++ [n / 2 ^ z], _, by omega, by go_num, by rw [List.length_append, hbl]; rfl, HBB2, HS4.out, HB4.out, HR4.out⟩ | ((repeat apply Exists.intro); refine ⟨?_, rfl⟩; exact ⟨j + 1, _, bs ++ [n / 2 ^ z], _, by omega, by go_num, by rw [List.length_append, hbl]; rfl, HBB2, HS4.out, HB4.out, HR4.out⟩)
                  case measure => simp [intOf]; omega
              · have d3 : decide ((j : Int) < (q : Int)) = false := decide_eq_false (by omega)
                have d3' : decide (j < q) = false := decide_eq_false hjq
                go_wp2_with fail
                go_meet
                have hr := HR2.out
                rw [← hbl] at hr
                refine ⟨reLab o2 lr, HS2.out.relabel hfr, ⟨k, 0, 0, [], bs⟩, _, _, rfl, ⟨⟨by simp only; omega, by simp, by simp, by simp, by simp only; omega, HBB.out⟩, by simp, by simp only; omega, by simp, by simp, by simp, by simp, fun h => absurd HK.out h⟩, HB2.out.relab (reLab_ne rfl (by rw [HB2.out.lab]; omega)), ?_⟩
                exact ⟨none, 0, ba, bc, rfl, by rw [hbl], Dat.nil byteV _ _ _, hr.relabel⟩
        case rest =>
          obtain ⟨o3, HS3, HM⟩ := hcut
          obtain ⟨v, x, y, hvk, hvo, hvb, ba, bc, la, lc, rfl, rfl, hvd1, hvd2⟩ := HM.out
          obtain ⟨ps, hr1, hr2, hr3⟩ := HV.out.step HS3.out (fun h => h) (fun h => h)
          obtain ⟨oa, oc, hov⟩ := hr1.form
          subst hov
          have g0' := hvb.cell (j := 0) rfl
          have g1' := hvb.cell (j := 1) rfl
          have g2' := hvb.cell (j := 2) rfl
          have g3' := hvb.cell (j := 3) rfl
          have g4' := hvb.cell (j := 4) rfl
          have HR1 := Lib.hid hr1
          have HR2 := Lib.hid hr2
          have HR3 := Lib.hid hr3
          have HVO := Lib.hid hvo
          have HVD1 := Lib.hid hvd1
          have HVD2 := Lib.hid hvd2
          have HVK := Lib.hid hvk
          clear hr1 hr2 hr3 hvo hvd1 hvd2 hvb HM hvk g0 g1 g2 g3 g4 g5
          go_wp2_with (at_builtin; refine wpList_append_row rfl (.tmp 101) (.tmp 103) 35 rfl elemV rfl HR1.out ((Below.refl _ wc).alloc (Nat.le_refl _) _) (some ⟨wc.heap.size, 0, none⟩) 1 1 [.int .i64 k, .int .u64 v.u, .int .i64 v.n, .slice ba v.b.length bc, .slice la v.l.length lc] rfl (row_new (cs := [.int .i64 k, .int .u64 v.u, .int .i64 v.n, .slice ba v.b.length bc, .slice la v.l.length lc]) (by simp) (by omega)) (by simp [Value.oneCell']) (by omega) (by omega) ?_)
          intro v5 w5 hrow5 hs5
          have HS5 : Hid (Step (fun _ => False) w o w5 (newLab wc o3 lv)) := (((HS.out.trans HS3.out).mono (L' := (· = lv)) fun _ h => h.elim).trans hs5).sub fun k hk h => HFV.out k hk h
          have HV5 : Hid (VRow w5 (newLab wc o3 lv) lv v5 (vs ++ [v])) := by
            refine ⟨ps ++ [(v, .slice ba v.b.length bc, .slice la v.l.length lc)], ?_, by rw [List.map_append, HR2.out]; rfl, fun p hp => ?_⟩
            · have e : vcells (ps ++ [(v, .slice ba v.b.length bc, .slice la v.l.length lc)]) = vcells ps ++ [.int .i64 k, .int .u64 v.u, .int .i64 v.n, .slice ba v.b.length bc, .slice la v.l.length lc] := by
                unfold vcells
                rw [List.flatMap_append, List.flatMap_singleton, HVK.out]
              rw [e, List.length_append, hvl]
              exact hrow5
            · rcases List.mem_append.1 hp with h | h
              · exact (HR3.out p h).step hs5 (by omega)
              · simp only [List.mem_singleton] at h
                subst h
                exact ValC.step ⟨ba, bc, la, lc, rfl, rfl, HVD1.out, HVD2.out⟩ hs5 (by omega)
          have HO5 : Hid (∀ x ∈ vs ++ [v], x.Small) := by
            intro x hx
            rcases List.mem_append.1 hx with h | h
            · exact HO.out x h
            · simp only [List.mem_singleton] at h
              subst h
              exact HVO.out
          clear hrow5 hs5
          go_wp2_with fail
          go_roundw
          case rel => first | exact ⟨i + 1, _, vs ++ [v], by omega, by omega, by go_num, by rw [List.length_append, hvl]; rfl, HS5.out, HV5.out, HO5.out⟩ | ((repeat apply Exists.intro); refine ⟨?_, rfl⟩; exact ⟨i + 1, _, vs ++ [v], by omega, by omega, by go_num, by rw [List.length_append, hvl]; rfl, HS5.out, HV5.out, HO5.out⟩)
          case measure => simp [intOf]; omega
      · obtain rfl : i = 8 := by omega
        go_wp2_with fail
        go_ret
        exact ⟨_, o1, vs, rfl, HS.out, HV.out, by omega, HO.out⟩
    · have d1 : decide ((i : Int) < (xs.length : Int)) = false := decide_eq_false (by omega)
      have d1' : decide (i < xs.length) = false := decide_eq_false hlt
      go_wp2_with fail
      go_ret
      exact ⟨_, o1, vs, rfl, HS.out, HV.out, by omega, HO.out⟩
end Go.Proofs.Ytplhclmmmfpgeaa
