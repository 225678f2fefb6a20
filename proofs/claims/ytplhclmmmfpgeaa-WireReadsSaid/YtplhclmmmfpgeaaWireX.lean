/-
  The walk of the law WireReads. Printed by wip/mk_wirex.py.
-/
import Derived.Test.YtplhclmmmfpgeaaWireW
import Derived.Test.YtplhclmmmfpgeaaWireP
import Derived.Test.YtplhclmmmfpgeaaWireI
import Derived.Deep.CutBlock
namespace Go.Proofs.Ytplhclmmmfpgeaa
open Go Go.Proofs
open Go.RowKit
set_option linter.unusedVariables false
set_option linter.unusedSimpArgs false

/-- A store into a row of bytes. -/
theorem RowL.putB {w : World} {o : Nat → Nat} {l g n c : Nat} {e : TypeId} {xs : List Value} (h : RowL w o l e 1 (.slice (some ⟨g, 0, none⟩) n c) n xs) {j : Nat} (hj : j < n) (u : Value) :
    RowL (w.setCell ⟨g, j, none⟩ u) o l e 1 (.slice (some ⟨g, 0, none⟩) n c) n (xs.set j u) ∧ Step (· = l) w o (w.setCell ⟨g, j, none⟩ u) o := by
  obtain ⟨hxl, hnc, hcm, hog, cur, hcur, hcs, hcg⟩ := h.cellsOf
  have hlt := lt_of_block hcur
  have hb : (w.setCell ⟨g, j, none⟩ u).heap[g]? = some (.cells (cur.setIfInBounds j u) e (0, 0)) := by
    have hh : w.heap[g] = .cells cur e (0, 0) := by simpa [Array.getElem?_eq_getElem hlt] using hcur
    show (w.heap.modify g _)[g]? = _
    rw [Array.getElem?_eq_getElem (by simpa using hlt), Array.getElem_modify_self, hh]
    simp
  refine ⟨⟨⟨by simp [hxl], .inr ⟨g, c, cur.setIfInBounds j u, rfl, Nat.zero_le _, hb, hnc, by simpa [maxLen] using hcm, by simp [hcs], ?_⟩⟩, h.2⟩, (Step.refl _ _ _).set (p := ⟨g, j, none⟩) hog u⟩
  apply List.ext_getElem?
  intro i
  rw [Nat.mul_one, List.getElem?_take, List.getElem?_set]
  by_cases hi : i < n
  · rw [if_pos hi, Array.getElem?_toList, Array.getElem?_setIfInBounds]
    by_cases hij : j = i
    · subst hij
      rw [if_pos rfl, if_pos rfl, if_pos (by omega), if_pos (by omega)]
    · rw [if_neg hij, if_neg hij]
      exact hcg i hi
  · rw [if_neg hi]
    by_cases hij : j = i
    · omega
    · rw [if_neg hij, List.getElem?_eq_none (by omega)]
theorem VRow.parts {w : World} {o : Nat → Nat} {l : Nat} {x : Value} {vs : List ValS} (h : VRow w o l x vs) : ∃ a c, x = .slice a vs.length c := by
  obtain ⟨ps, h1, _⟩ := h
  exact h1.form
theorem Eqv.trans {A B C : RdS} (h : Eqv A B) (k : Eqv B C) : Eqv A C := ⟨h.1.trans k.1, fun he => (h.2 (by rw [k.1]; exact he)).trans (k.2 he)⟩
theorem Eqv.read {Q R : RdS} (h : Eqv Q R) {k : Nat} (hk : k ≤ 5) : (readV Q k).1 = (readV R k).1 ∧ Eqv (readV Q k).2 (readV R k).2 := by
  by_cases he : R.e = 0
  · rw [h.eq he]
    exact ⟨rfl, Eqv.refl _⟩
  · rw [readV_err he hk, readV_err (by rw [h.1]; exact he) hk]
    exact ⟨rfl, h⟩
def OwnRW : Nat → Prop := fun l => Own 1 l ∨ Own 2 l

set_option maxRecDepth 100000 in
set_option maxHeartbeats 4000000 in
theorem wireReads_walk (a0 : Option Addr) (c0 : Nat) (raw : List UInt8) (a : Option Addr) (c : Nat) (xs : List Int) (at1 by1 : Int) (ka : Option Addr) (kc : Nat) (ks : List Int) (w : World)
    (hr0 : SliceAt w a0 c0 (raw.map byteV)) (hx : SliceAt w a c (xs.map intV)) (hxb : ∀ n ∈ xs, -9223372036854775808 ≤ n ∧ n ≤ 9223372036854775807) (hat : -9223372036854775808 ≤ at1 ∧ at1 ≤ 9223372036854775807) (hby : 0 ≤ by1 ∧ by1 ≤ 255)
    (hk : SliceAt w ka kc (ks.map intV)) (hkb : ∀ n ∈ ks, -9223372036854775808 ≤ n ∧ n ≤ 9223372036854775807) :
    Calls Try.prog 4 #[.slice a0 raw.length c0, .slice a xs.length c, .int .i64 at1, .int .u8 by1, .slice ka ks.length kc] w fun e w' => e = .returned (.bool true) ∧ Below w.heap.size w w' := by
  obtain ⟨by1, rfl⟩ : ∃ z : Nat, by1 = z := ⟨by1.toNat, by omega⟩
  have HX := Lib.hid hx
  have HXB := Lib.hid hxb
  have HR0 := Lib.hid hr0
  have HK := Lib.hid hk
  have HKB := Lib.hid hkb
  have hkl := hk.len
  simp only [List.length_map] at hkl
  clear hx hxb hr0 hk hkb
  go_enter Try.func4, Try.ntmps4
  go_wp2_with fail
  refine (vals_any a c xs 1 w (fun _ => 0) HX.out HXB.out (by omega) (fun _ _ => by omega)).mono ?_
  rintro e w1 ⟨v, o1, vs, rfl, hs1, hv1, hvl, hvo⟩
  obtain ⟨va, vc, rfl⟩ := hv1.parts
  have hlab1 : ∀ k, k < w.heap.size → o1 k = 0 := fun k hk => hs1.lab k hk
  have hB1 : Below w.heap.size w w1 := hs1.toBelow (Nat.le_refl _) fun _ _ h => h
  have hbs := encVs_small vs hvo
  obtain ⟨bs, hbsd⟩ : ∃ bs, vs.flatMap encV = bs := ⟨_, rfl⟩
  have henc := refEncode_any va vc 1 vs w1 o1 hv1 (fun v hv => (hvo v hv).1) (by omega)
  rw [hbsd] at henc hbs
  have HEN := Lib.hid henc
  have HV1 := Lib.hid hv1
  have HVO := Lib.hid hvo
  clear hs1 hv1 hvo henc hbsd
  go_wp2_with fail
  refine HEN.out.mono ?_
  rintro e w2 ⟨v2, rfl, hown2, hb2⟩
  have hrl2 : RowL w2 (newLab w1 o1 4) 4 5 1 v2 bs.length (bs.map byteV) := RowL.new hown2
  have hs12 : Step (fun _ => False) w1 o1 w2 (newLab w1 o1 4) := Step.below hb2 fun k hk => newLab_old _ _ _ hk
  have HV2 := Lib.hid (HV1.out.step hs12 (fun h => h) (fun h => h))
  have hB2 := Below.step hB1 hb2
  have hlab2 : ∀ k, k < w.heap.size → newLab w1 o1 4 k = 0 := fun k hk => by rw [newLab_old _ _ _ (Nat.lt_of_lt_of_le hk hB1.size)]; exact hlab1 k hk
  obtain ⟨a2, c2, rfl⟩ := hrl2.form
  generalize newLab w1 o1 4 = o2 at *
  have HLB := Lib.hid hlab2
  have HRL2 := Lib.hid hrl2
  clear hown2 hb2 hs12 HV1 HEN hlab2 hlab1 hrl2 hB1
  go_upto_if 23 with fail
  go_cut [] (fun wx => ∃ cs : List UInt8, cs.length = bs.length ∧ Hid (RowL wx o2 4 5 1 (.slice a2 bs.length c2) bs.length (cs.map byteV)) ∧ Hid (Step (· = 4) w2 o2 wx o2))
  case first =>
    by_cases hb0 : 0 < bs.length
    · have d0 : decide ((0 : Int) < (bs.length : Int)) = true := decide_eq_true (by omega)
      have d0' : decide (0 < bs.length) = true := decide_eq_true hb0
      have k0 := aroundI_lo at1 (bs.length : Int) (by omega)
      have k1 := aroundI_hi at1 (bs.length : Int) (by omega)
      have R1 := Lib.hid (around_any at1 (bs.length : Int) w2 (by omega) (by omega) hat.1 hat.2)
      generalize aroundI at1 (bs.length : Int) = k at *
      obtain ⟨k, rfl⟩ : ∃ z : Nat, k = z := ⟨k.toNat, by omega⟩
      have hkb1 : k < bs.length := by omega
      obtain ⟨a', c', he, hnc, hcm, hxl, hg⟩ := HRL2.out.cells
      simp only [Value.slice.injEq, true_and] at he
      obtain ⟨rfl, rfl⟩ := he
      obtain ⟨g, rfl, _, _, hc, hf⟩ := hg hb0
      have hcell := hc k (byteV (bs[k]'hkb1)) (by simp [hkb1])
      have hfr := hf k
      have hput := HRL2.out.putB hkb1 (.int .u8 (by1 : Int))
      have hbyt : byteV (UInt8.ofNat by1) = .int .u8 (by1 : Int) := byteV_nat (by omega)
      rw [← hbyt, ← List.map_set, hbyt] at hput
      have HPUT := Lib.hid hput
      clear hput hc hf hg hbyt hxl
      go_wp2_with fail
      refine R1.out.mono ?_
      rintro e w9 ⟨rfl, rfl⟩
      go_wp2_with fail
      go_meet
      exact ⟨bs.set k (UInt8.ofNat by1), by simp, HPUT.out.1, HPUT.out.2⟩
    · have d0 : decide ((0 : Int) < (bs.length : Int)) = false := decide_eq_false (by omega)
      have d0' : decide (0 < bs.length) = false := decide_eq_false hb0
      go_wp2_with fail
      go_meet
      exact ⟨bs, rfl, HRL2.out, Step.refl _ _ _⟩
  case rest =>
    obtain ⟨cs, hcl, HRW, HST⟩ := hcut
    have HV3 := Lib.hid (HV2.out.step HST.out (by omega) (by omega))
    have hB3 : Below w.heap.size w wc := hB2.trans (HST.out.toBelow (n := w.heap.size) hB2.size fun k hk => by rw [HLB.out k hk]; omega)
    have KF := Lib.hid (few_any a0 c0 raw 60 wc (HR0.out.below hB3) (by omega))
    have HTU := Lib.hid HRW.out.slice
    clear HV2 HRL2 HST HV3 HRW HVO HLB
    go_wp2_with fail
    refine KF.out.mono ?_
    rintro e w4 ⟨v4, rfl, hown4, hb4⟩
    obtain ⟨fs, hfs⟩ : ∃ fs, fs = raw.take 60 := ⟨_, rfl⟩
    have hfl : fs.length ≤ 60 := by rw [hfs, List.length_take]; omega
    rw [← hfs] at hown4
    obtain ⟨a4, c4, rfl, hs4⟩ := ownsRow_sliceMap hown4
    have hB4 := Below.step hB3 hb4
    have hcs : cs.length ≤ 800 := by omega
    rw [← hcl]
    have HTU4 := Lib.hid (HTU.out.below hb4)
    have HFS4 := Lib.hid hs4
    clear hown4 hb4 hfs hs4 KF HTU hcl hbs
    obtain ⟨wa, hwa⟩ : ∃ x, x = w4.alloc (.cells #[.slice a4 fs.length c4, .slice a2 cs.length c2] 24) := ⟨_, rfl⟩
    obtain ⟨hcell, hba⟩ := val_new (cs := [.slice a4 fs.length c4, .slice a2 cs.length c2]) hwa
    have q0 := hcell 0 _ rfl
    have q1 := hcell 1 _ rfl
    have HQ0 := Lib.hid q0
    have HQ1 := Lib.hid q1
    have HTUa := Lib.hid (HTU4.out.below hba)
    have HFSa := Lib.hid (HFS4.out.below hba)
    have hBa := Below.step hB4 hba
    have HWA := Lib.hid hwa
    clear hcell hba q0 q1 HTU4 HFS4 hwa
    go_wp2_with fail
    rw [← HWA.out]
    obtain ⟨g, hg⟩ : ∃ g, g = w4.heap.size := ⟨_, rfl⟩
    rw [← hg] at HQ0 HQ1 ⊢
    clear hg
    go_loopw [13] (fun iv wq => ∃ i : Nat, i ≤ 2 ∧ iv = .int .i64 i ∧ Below wa.heap.size wa wq) (fun iv _ => 2 - (intOf iv).toNat)
    case atStart => exact ⟨0, by omega, rfl, Below.refl _ _⟩
    case round =>
      obtain ⟨i, hi2, rfl, hBo⟩ := hrel
      obtain ⟨wo, rfl⟩ : ∃ x : World, x = wr := ⟨_, rfl⟩
      by_cases hlt : i < 2
      · have d1 : decide ((i : Int) < 2) = true := decide_eq_true (by omega)
        have d1' : decide (i < 2) = true := decide_eq_true hlt
        obtain ⟨a5, c5, ds, hds, hcell, hsl⟩ : ∃ (a5 : Option Addr) (c5 : Nat) (ds : List UInt8), ds.length ≤ 1000 ∧ wo.cell? ⟨g, i, none⟩ = some (.slice a5 ds.length c5) ∧ SliceAt wo a5 c5 (ds.map byteV) := by
          have hi : i = 0 ∨ i = 1 := by omega
          rcases hi with rfl | rfl
          · exact ⟨a4, c4, fs, by omega, Below.kept hBo (Nat.le_refl _) HQ0.out, HFSa.out.below hBo⟩
          · exact ⟨a2, c2, cs, by omega, Below.kept hBo (Nat.le_refl _) HQ1.out, HTUa.out.below hBo⟩
        have hd0 : Dat wo (fun _ => 0) 0 a5 c5 (ds.map byteV) := ⟨hsl, fun _ _ _ _ => rfl⟩
        have HD0 := Lib.hid hd0
        have KR := Lib.hid (read_any 1 a5 c5 ds wo (fun _ => 0) (by omega) hsl (by omega))
        clear hsl hd0
        go_wp2_with fail
        refine KR.out.mono ?_
        rintro e w5 ⟨b1, rfl, o5, hs5, hr5⟩
        have hb5 : Below wo.heap.size wo w5 := hs5.toBelow (n := wo.heap.size) (Nat.le_refl _) fun k hk => Own.not0 (by omega)
        have hcell5 := Below.kept hb5 (Nat.le_refl _) hcell
        have HL5 : Hid (∀ k, k < wo.heap.size → o5 k = 0) := fun k hk => hs5.lab k hk
        have s6 := step_new w5 o5 (10 * 2) (.cells #[.slice a5 ds.length c5, .int .i64 0] 44)
        have HR6 := Lib.hid (hr5.step s6 (fun h => h) (fun _ _ h => h))
        have hd6 := (HD0.out.step hs5 (Own.not0 (by omega))).step s6 (fun h => h)
        have HQ6 : Hid (RdAt (w5.alloc (.cells #[.slice a5 ds.length c5, .int .i64 0] 44)) (newLab w5 o5 (10 * 2)) 2 w5.heap.size ⟨ds, 0⟩) := ⟨a5, c5, ⟨_, heap_alloc_new _ _, newLab_new _ _ _ (Nat.le_refl _)⟩, hd6⟩
        have hb6 : Below wo.heap.size wo (w5.alloc (.cells #[.slice a5 ds.length c5, .int .i64 0] 44)) := hb5.alloc hb5.size _
        have HL6 : Hid (∀ k, k < wo.heap.size → newLab w5 o5 (10 * 2) k = 0) := fun k hk => by rw [newLab_old _ _ _ (Nat.lt_of_lt_of_le hk hb5.size)]; exact HL5.out k hk
        clear hs5 hr5 KR hd6 s6 hcell HD0 HL5
        obtain ⟨b2, hb2⟩ : ∃ b2, b2 = w5.heap.size := ⟨_, rfl⟩
        generalize newLab w5 o5 (10 * 2) = o6 at *
        obtain ⟨w6, hw6⟩ : ∃ w6, w6 = w5.alloc (.cells #[.slice a5 ds.length c5, .int .i64 0] 44) := ⟨_, rfl⟩
        rw [← hw6] at HR6 HQ6 hb6
        rw [← hb2] at HQ6
        have HW6 := Lib.hid hw6
        have HB2 := Lib.hid hb2
        clear hw6 hb2
        go_wp2_with fail
        rw [← HW6.out, ← HB2.out]
        clear hcell5 HW6 HB2 hb5
        go_loopw [16] (fun kv wq => ∃ (k : Nat) (o8 : Nat → Nat) (R Q : RdS), k ≤ 10 ∧ kv = .int .i64 k ∧ R.bs.length ≤ 1000 ∧ Q.bs.length ≤ 1000 ∧ Hid (Step OwnRW w6 o6 wq o8) ∧ Hid (RdAt wq o8 1 b1 R) ∧ Hid (RdAt wq o8 2 b2 Q) ∧ Hid (Eqv Q R)) (fun kv _ => 10 - (intOf kv).toNat)
        case atStart => exact ⟨0, o6, ⟨ds, 0⟩, ⟨ds, 0⟩, by omega, rfl, hds, hds, Step.refl _ _ _, HR6.out, HQ6.out, Eqv.refl _⟩
        case round =>
          clear HR6 HQ6
          obtain ⟨k, o8, R, Q, hk10, rfl, hRl, hQl, HS8, HR8, HQ8, HE8⟩ := hrel
          have hn0 : ¬ OwnRW 0 := fun h => h.elim (Own.not0 (by omega)) (Own.not0 (by omega))
          have hBr : Below wo.heap.size wo wr := hb6.trans (HS8.out.toBelow (n := wo.heap.size) hb6.size fun k hk => by rw [HL6.out k hk]; exact hn0)
          have hBw : Below w.heap.size w wr := Below.step (Below.step hBa hBo) hBr
          have HBR := Lib.hid (Below.step hBo hBr)
          clear hBr hn0
          by_cases hkl2 : k < ks.length
          · have e1 : decide ((k : Int) < (ks.length : Int)) = true := decide_eq_true (by omega)
            have e1' : decide (k < ks.length) = true := decide_eq_true hkl2
            by_cases h10 : k < 10
            · have e2 : decide ((k : Int) < 10) = true := decide_eq_true (by omega)
              have e2' : decide (k < 10) = true := decide_eq_true h10
              have hks := HK.out.below hBw
              obtain ⟨kb, koff, rfl⟩ := hks.addr (by simp; omega)
              have f := hks.intV hkl2
              have hqb := HKB.out _ (List.getElem_mem hkl2)
              generalize ks[k] = q at f hqb
              have m0 := aroundI_lo q 6 (by omega)
              have m1 := aroundI_hi q 6 (by omega)
              have KA := Lib.hid (around_any q 6 wr (by omega) (by omega) hqb.1 hqb.2)
              generalize aroundI q 6 = m at *
              obtain ⟨m, rfl⟩ : ∃ z : Nat, m = z := ⟨m.toNat, by omega⟩
              have hm5 : m ≤ 5 := by omega
              have L1 := lread_any 1 b1 m R wr o8 (by omega) HR8.out (by omega) hm5
              have L2 := fun W o' h => rfRead_any 2 b2 m Q W o' (by omega) h hQl hm5
              obtain ⟨hv1, hv2⟩ := HE8.out.read hm5
              rw [hv1] at L2
              obtain ⟨ok1, hkk, hle1⟩ := readV_ok (R := R) (by omega) hm5
              generalize readV R m = V at *
              obtain ⟨V, R'⟩ := V
              simp only at L1 L2 hv1 hv2 hkk hle1
              generalize (readV Q m).2 = Q1 at *
              subst hkk
              have KL1 := Lib.hid L1
              have KL2 := Lib.hid L2
              have HV2 := Lib.hid hv2
              clear L1 L2 hv1 hv2 HE8 ok1 hks m0 m1 hqb
              go_wp2_with fail
              refine KA.out.mono ?_
              rintro e w9 ⟨rfl, rfl⟩
              go_wp2_with fail
              refine KL1.out.mono ?_
              rintro e w9 ⟨x1, y1, rfl, o9, hs9, hr9, hvc9⟩
              have HQ9 := Lib.hid (HQ8.out.step hs9 (Own.not0 (by omega)) (fun l h => Own.not (by omega) h))
              have HS9 := Lib.hid (HS8.out.trans (hs9.mono fun _ h => .inl h))
              have HR9 := Lib.hid hr9
              have HC9 := Lib.hid hvc9
              clear hs9 hr9 hvc9 HS8 HR8 HQ8 KL1 KA
              go_wp2_with fail
              refine (KL2.out w9 o9 HQ9.out).mono ?_
              rintro e w10 ⟨x2, y2, rfl, o10, hs10, ⟨Q2, hq10, hev10, hql10⟩, hvc10⟩
              have HR10 := Lib.hid (HR9.out.step hs10 (Own.not0 (by omega)) (fun l h => Own.not (by omega) h))
              have HS10 := Lib.hid (HS9.out.trans (hs10.mono fun _ h => .inr h))
              have HC10 := Lib.hid (HC9.out.step hs10 (Own.not0 (by omega)))
              have HQ10 := Lib.hid hq10
              have HE10 := Lib.hid (hev10.trans HV2.out)
              have KS := Lib.hid (same_any V x1 y1 x2 y2 w10 o10 o10 HC10.out hvc10)
              obtain ⟨xa, xc, ya, yc, rfl, rfl, -⟩ := HC9.out
              obtain ⟨xa2, xc2, ya2, yc2, rfl, rfl, -⟩ := hvc10
              clear hs10 hq10 hev10 HQ9 HS9 HR9 HC9 HC10 KL2 HV2
              go_wp2_with fail
              refine KS.out.mono ?_
              rintro e w11 ⟨rfl, hb11⟩
              have hs11 : Step (fun _ => False) w10 o10 w11 o10 := Step.same hb11
              have HR11 := Lib.hid (HR10.out.step hs11 (fun h => h) (fun _ _ h => h))
              have HQ11 := Lib.hid (HQ10.out.step hs11 (fun h => h) (fun _ _ h => h))
              have HS11 := Lib.hid (HS10.out.trans (hs11.mono (L' := OwnRW) fun _ h => h.elim))
              have KE1 := rend_any 1 b1 R' w11 o10 HR11.out
              have KE2 := rfEnd_any 2 b2 Q2 w11 o10 HQ11.out
              rw [HE10.out.endR] at KE2
              generalize endR R' = E at *
              have KE1 := Lib.hid KE1
              have KE2 := Lib.hid KE2
              clear hb11 hs11 HR10 HQ10 HS10 KS
              go_wp2_with fail
              refine KE1.out.mono ?_
              rintro e w12 ⟨rfl, rfl⟩
              go_wp2_with fail
              refine KE2.out.mono ?_
              rintro e w12 ⟨rfl, rfl⟩
              have e3 : ((E : Int) != (E : Int)) = false := by simp
              have e3' : ((E : Int) == (E : Int)) = true := by simp
              go_wp2_with fail
              go_roundw
              case rel => exact ⟨k + 1, o10, R', Q2, by omega, by go_num, by omega, by omega, HS11.out, HR11.out, HQ11.out, HE10.out⟩
              case measure => simp [intOf]; omega
            · have e2 : decide ((k : Int) < 10) = false := decide_eq_false (by omega)
              have e2' : decide (k < 10) = false := decide_eq_false h10
              clear HS8 HR8 HQ8 HE8
              go_wp2_with fail
              go_roundw
              case rel => exact ⟨i + 1, by omega, by go_num, HBR.out⟩
              case measure => simp [intOf]; omega
          · have e1 : decide ((k : Int) < (ks.length : Int)) = false := decide_eq_false (by omega)
            have e1' : decide (k < ks.length) = false := decide_eq_false hkl2
            clear HS8 HR8 HQ8 HE8
            go_wp2_with fail
            go_roundw
            case rel => exact ⟨i + 1, by omega, by go_num, HBR.out⟩
            case measure => simp [intOf]; omega
      · have d1 : decide ((i : Int) < 2) = false := decide_eq_false (by omega)
        have d1' : decide (i < 2) = false := decide_eq_false hlt
        go_wp2_with fail
        refine (lives_any wo).mono ?_
        rintro e w9 ⟨rfl, hb9⟩
        go_wp2_with fail
        go_ret
        exact ⟨rfl, Below.step (Below.step hBa hBo) hb9⟩
end Go.Proofs.Ytplhclmmmfpgeaa
