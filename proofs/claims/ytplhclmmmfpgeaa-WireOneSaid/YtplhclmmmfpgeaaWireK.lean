/-
  The walk of the law WireOne.
-/
import Derived.Test.YtplhclmmmfpgeaaWireI
import Derived.Deep.DeepCutAuto
import Derived.Deep.CutBlock
namespace Go.Proofs.Ytplhclmmmfpgeaa
open Go Go.Proofs
open Go.RowKit
set_option linter.unusedVariables false
set_option linter.unusedSimpArgs false

/-- A store into a row of bytes. -/
theorem RowL.putB {w : World} {o : Nat → Nat} {l g n c : Nat} {e : TypeId} {xs : List Value} (h : RowL w o l e 1 (.slice (some ⟨g, 0, none⟩) n c) n xs) {j : Nat} (hj : j < n) (u : Value) :
    RowL (w.setCell ⟨g, j, none⟩ u) o l e 1 (.slice (some ⟨g, 0, none⟩) n c) n (xs.set j u) ∧ Step (· = l) w o (w.setCell ⟨g, j, none⟩ u) o := by
  obtain ⟨hxl, hnc, hcm, hog, cur, hcur, hcs, hcg⟩ := h.cellsOf
  have hlt := lt_of_block hcur
  have hb : (w.setCell ⟨g, j, none⟩ u).heap[g]? = some (.cells (cur.setIfInBounds j u) e (0, 0)) := by
    have hh : w.heap[g] = .cells cur e (0, 0) := by simpa [Array.getElem?_eq_getElem hlt] using hcur
    show (w.heap.modify g _)[g]? = _
    rw [Array.getElem?_eq_getElem (by simpa using hlt), Array.getElem_modify_self, hh]
    simp
  refine ⟨⟨⟨by simp [hxl], .inr ⟨g, c, cur.setIfInBounds j u, rfl, Nat.zero_le _, hb, hnc, by simpa [maxLen] using hcm, by simp [hcs], ?_⟩⟩, h.2⟩, (Step.refl _ _ _).set (p := ⟨g, j, none⟩) hog u⟩
  apply List.ext_getElem?
  intro i
  rw [Nat.mul_one, List.getElem?_take, List.getElem?_set]
  by_cases hi : i < n
  · rw [if_pos hi, Array.getElem?_toList, Array.getElem?_setIfInBounds]
    by_cases hij : j = i
    · subst hij
      rw [if_pos rfl, if_pos rfl, if_pos (by omega), if_pos (by omega)]
    · rw [if_neg hij, if_neg hij]
      exact hcg i hi
  · rw [if_neg hi]
    by_cases hij : j = i
    · omega
    · rw [if_neg hij, List.getElem?_eq_none (by omega)]
/-- What has been read so far out of the bytes cs. -/
def Got (cs : List UInt8) (R : RdS) (gs : List ValS) : Prop := R.bs.length ≤ 1000 ∧ (∀ g ∈ gs, g.Ok) ∧ (R.e = 0 → cs = gs.flatMap encV ++ R.bs)
theorem Got.next {cs : List UInt8} {R : RdS} {gs : List ValS} {k : Nat} (h : Got cs R gs) (hk : k ≤ 5) : Got cs (readV R k).2 (gs ++ [(readV R k).1]) := by
  obtain ⟨h1, h2, h3⟩ := h
  obtain ⟨o1, o2, o3⟩ := readV_ok (R := R) (by omega) hk
  refine ⟨by omega, fun g hg => ?_, fun he => ?_⟩
  · rcases List.mem_append.1 hg with hg | hg
    · exact h2 g hg
    · rw [List.mem_singleton.1 hg]; exact o1
  · obtain ⟨c1, c2⟩ := readV_canon hk he
    rw [h3 c1, c2]
    simp
theorem Got.same {cs : List UInt8} {R : RdS} {gs : List ValS} (h : Got cs R gs) (he : endR R = 0) : gs.flatMap encV = cs := by
  unfold endR at he
  split at he
  · omega
  · rename_i hn
    have hb : R.bs.length = 0 := by omega
    rw [h.2.2 he, List.eq_nil_of_length_eq_zero hb, List.append_nil]
theorem Got.start {cs : List UInt8} (h : cs.length ≤ 1000) : Got cs ⟨cs, 0⟩ [] := by
  refine ⟨h, ?_, ?_⟩
  · intro g hg
    cases hg
  · intro _
    rfl
theorem VRow.nil (w : World) (o : Nat → Nat) (l : Nat) : VRow w o l (.slice none 0 0) [] := ⟨[], RowL.nil w o l _ _, rfl, fun p hp => by cases hp⟩
theorem VRow.push {w w' : World} {o : Nat → Nat} {l : Nat} {ps : List (ValS × Value × Value)} {v : ValS} {x y v' : Value} {gs : List ValS} (h2 : ps.map (·.1) = gs) (h3 : ∀ p ∈ ps, ValC w o p.1 p.2.1 p.2.2) (hv : ValC w o v x y)
    (hr : RowL w' (newLab w o l) l 47 5 v' (gs.length + 1) (vcells ps ++ [.int .i64 v.kind, .int .u64 v.u, .int .i64 v.n, x, y])) (hs : Step (· = l) w o w' (newLab w o l)) (hl : 0 ≠ l) : VRow w' (newLab w o l) l v' (gs ++ [v]) := by
  refine ⟨ps ++ [(v, x, y)], ?_, by rw [List.map_append, h2]; rfl, fun p hp => ?_⟩
  · have e : vcells (ps ++ [(v, x, y)]) = vcells ps ++ [.int .i64 v.kind, .int .u64 v.u, .int .i64 v.n, x, y] := by
      unfold vcells
      rw [List.flatMap_append]
      rfl
    rw [e, List.length_append]
    exact hr
  · rcases List.mem_append.1 hp with h | h
    · exact (h3 p h).step hs hl
    · rw [List.mem_singleton.1 h]
      exact hv.step hs hl
theorem VRow.parts {w : World} {o : Nat → Nat} {l : Nat} {x : Value} {vs : List ValS} (h : VRow w o l x vs) : ∃ a c, x = .slice a vs.length c := by
  obtain ⟨ps, h1, _⟩ := h
  exact h1.form
def OwnL (i l : Nat) : Nat → Prop := fun k => Own i k ∨ k = l

set_option maxRecDepth 100000 in
set_option maxHeartbeats 4000000 in
theorem wireOne_walk (a0 : Option Addr) (c0 : Nat) (raw : List UInt8) (a : Option Addr) (c : Nat) (xs : List Int) (at1 by1 : Int) (ka : Option Addr) (kc : Nat) (ks : List Int) (w : World)
    (hr0 : SliceAt w a0 c0 (raw.map byteV)) (hx : SliceAt w a c (xs.map intV)) (hxb : ∀ n ∈ xs, -9223372036854775808 ≤ n ∧ n ≤ 9223372036854775807) (hat : -9223372036854775808 ≤ at1 ∧ at1 ≤ 9223372036854775807) (hby : 0 ≤ by1 ∧ by1 ≤ 255)
    (hk : SliceAt w ka kc (ks.map intV)) (hkb : ∀ n ∈ ks, -9223372036854775808 ≤ n ∧ n ≤ 9223372036854775807) :
    Calls Try.prog 8 #[.slice a0 raw.length c0, .slice a xs.length c, .int .i64 at1, .int .u8 by1, .slice ka ks.length kc] w fun e w' => e = .returned (.bool true) ∧ Below w.heap.size w w' := by
  obtain ⟨by1, rfl⟩ : ∃ z : Nat, by1 = z := ⟨by1.toNat, by omega⟩
  have HX := Lib.hid hx
  have HXB := Lib.hid hxb
  have HR0 := Lib.hid hr0
  have HK := Lib.hid hk
  have HKB := Lib.hid hkb
  have hkl := hk.len
  simp only [List.length_map] at hkl
  clear hx hxb hr0 hk hkb
  go_enter Try.func8, Try.ntmps8
  go_wp2_with fail
  refine (vals_any a c xs 1 w (fun _ => 0) HX.out HXB.out (by omega) (fun _ _ => by omega)).mono ?_
  rintro e w1 ⟨v, o1, vs, rfl, hs1, hv1, hvl, hvo⟩
  obtain ⟨va, vc, rfl⟩ := hv1.parts
  have hlab1 : ∀ k, k < w.heap.size → o1 k = 0 := fun k hk => hs1.lab k hk
  have hB1 : Below w.heap.size w w1 := hs1.toBelow (Nat.le_refl _) fun _ _ h => h
  have hbs := encVs_small vs hvo
  obtain ⟨bs, hbsd⟩ : ∃ bs, vs.flatMap encV = bs := ⟨_, rfl⟩
  have henc := encode_any va vc 1 vs w1 o1 hv1 (fun v hv => (hvo v hv).1) (by omega)
  rw [hbsd] at henc hbs
  have HEN := Lib.hid henc
  have HV1 := Lib.hid hv1
  have HVO := Lib.hid hvo
  clear hs1 hv1 hvo henc hbsd
  go_wp2_with fail
  refine HEN.out.mono ?_
  rintro e w2 ⟨v2, rfl, hown2, hb2⟩
  have hrl2 : RowL w2 (newLab w1 o1 4) 4 5 1 v2 bs.length (bs.map byteV) := RowL.new hown2
  have hs12 : Step (fun _ => False) w1 o1 w2 (newLab w1 o1 4) := Step.below hb2 fun k hk => newLab_old _ _ _ hk
  have HV2 := Lib.hid (HV1.out.step hs12 (fun h => h) (fun h => h))
  have hB2 := Below.step hB1 hb2
  have hlab2 : ∀ k, k < w.heap.size → newLab w1 o1 4 k = 0 := fun k hk => by rw [newLab_old _ _ _ (Nat.lt_of_lt_of_le hk hB1.size)]; exact hlab1 k hk
  obtain ⟨a2, c2, rfl⟩ := hrl2.form
  generalize newLab w1 o1 4 = o2 at *
  have HLB := Lib.hid hlab2
  have HRL2 := Lib.hid hrl2
  clear hown2 hb2 hs12 HV1 HEN hlab2 hlab1 hrl2 hB1
  go_upto_if 24 with fail
  go_cut [] (fun wx => ∃ cs : List UInt8, cs.length = bs.length ∧ Hid (RowL wx o2 4 5 1 (.slice a2 bs.length c2) bs.length (cs.map byteV)) ∧ Hid (Step (· = 4) w2 o2 wx o2))
  case first =>
    by_cases hb0 : 0 < bs.length
    · have d0 : decide ((0 : Int) < (bs.length : Int)) = true := decide_eq_true (by omega)
      have d0' : decide (0 < bs.length) = true := decide_eq_true hb0
      have k0 := aroundI_lo at1 (bs.length : Int) (by omega)
      have k1 := aroundI_hi at1 (bs.length : Int) (by omega)
      have R1 := Lib.hid (around_any at1 (bs.length : Int) w2 (by omega) (by omega) hat.1 hat.2)
      generalize aroundI at1 (bs.length : Int) = k at *
      obtain ⟨k, rfl⟩ : ∃ z : Nat, k = z := ⟨k.toNat, by omega⟩
      have hkb1 : k < bs.length := by omega
      obtain ⟨a', c', he, hnc, hcm, hxl, hg⟩ := HRL2.out.cells
      simp only [Value.slice.injEq, true_and] at he
      obtain ⟨rfl, rfl⟩ := he
      obtain ⟨g, rfl, _, _, hc, hf⟩ := hg hb0
      have hcell := hc k (byteV (bs[k]'hkb1)) (by simp [hkb1])
      have hfr := hf k
      have hput := HRL2.out.putB hkb1 (.int .u8 (by1 : Int))
      have hbyt : byteV (UInt8.ofNat by1) = .int .u8 (by1 : Int) := byteV_nat (by omega)
      rw [← hbyt, ← List.map_set, hbyt] at hput
      have HPUT := Lib.hid hput
      clear hput hc hf hg hbyt hxl
      go_wp2_with fail
      refine R1.out.mono ?_
      rintro e w9 ⟨rfl, rfl⟩
      go_wp2_with fail
      go_meet
      exact ⟨bs.set k (UInt8.ofNat by1), by simp, HPUT.out.1, HPUT.out.2⟩
    · have d0 : decide ((0 : Int) < (bs.length : Int)) = false := decide_eq_false (by omega)
      have d0' : decide (0 < bs.length) = false := decide_eq_false hb0
      go_wp2_with fail
      go_meet
      exact ⟨bs, rfl, HRL2.out, Step.refl _ _ _⟩
  case rest =>
    obtain ⟨cs, hcl, HRW, HST⟩ := hcut
    have HV3 := Lib.hid (HV2.out.step HST.out (by omega) (by omega))
    have hB3 : Below w.heap.size w wc := hB2.trans (HST.out.toBelow (n := w.heap.size) hB2.size fun k hk => by rw [HLB.out k hk]; omega)
    have KR := read_any 1 a2 c2 cs wc o2 (by omega) HRW.out.slice (by omega)
    rw [hcl] at KR
    have KR := Lib.hid KR
    clear HV2 HRL2 HST
    go_wp2_with fail
    refine KR.out.mono ?_
    rintro e w3 ⟨b, rfl, o3, hs3, hr3⟩
    have HV4 := Lib.hid (HV3.out.step hs3 (Own.not0 (by omega)) (by unfold Own; omega))
    have HRW4 := Lib.hid (HRW.out.step hs3 (by unfold Own; omega))
    have hB4 : Below w.heap.size w w3 := hB3.trans (hs3.toBelow (n := w.heap.size) hB3.size fun k hk => by rw [HLB.out k hk]; exact Own.not0 (by omega))
    have HLB4 : Hid (∀ k, k < w.heap.size → o3 k = 0) := fun k hk => by rw [hs3.lab k (Nat.lt_of_lt_of_le hk hB3.size)]; exact HLB.out k hk
    have HR4 := Lib.hid hr3
    clear hs3 hr3 KR HRW HV3 HLB
    go_wp2_with fail
    go_loopw [14, 15] (fun gv jv wq => ∃ (j : Nat) (o8 : Nat → Nat) (R : RdS) (gs : List ValS), j ≤ vs.length ∧ gs.length = j ∧ jv = .int .i64 j ∧ Hid (Step (OwnL 1 2) w3 o3 wq o8) ∧ Hid (VRow wq o8 2 gv gs) ∧ Hid (Got cs R gs) ∧ Hid (RdAt wq o8 1 b R)) (fun _ jv _ => vs.length - (intOf jv).toNat)
    case atStart => exact ⟨0, o3, ⟨cs, 0⟩, [], by omega, rfl, rfl, Step.refl _ _ _, VRow.nil _ _ _, Got.start (by omega), HR4.out⟩
    case round =>
      clear HR4
      obtain ⟨j, o8, R, gs, hj, hgl, rfl, HS8, HG8, HGT, HR8⟩ := hrel
      obtain ⟨ga, gc, rfl⟩ := HG8.out.parts
      have hgb : gs.length ≤ 8 := by omega
      have HGL := Lib.hid hgl
      clear hgl
      have hn0 : ¬ OwnL 1 2 0 := fun h => h.elim (Own.not0 (by omega)) (by omega)
      have hn1 : ¬ OwnL 1 2 1 := fun h => h.elim (by unfold Own; omega) (by omega)
      have hn4 : ¬ OwnL 1 2 4 := fun h => h.elim (by unfold Own; omega) (by omega)
      have HN0 := Lib.hid hn0
      have HN1 := Lib.hid hn1
      have HN4 := Lib.hid hn4
      clear hn0 hn1 hn4
      have HV8 := Lib.hid (HV4.out.step HS8.out HN0.out HN1.out)
      by_cases hlt : j < vs.length
      · have d1 : decide ((j : Int) < (vs.length : Int)) = true := decide_eq_true (by omega)
        have d1' : decide (j < vs.length) = true := decide_eq_true hlt
        obtain ⟨v, hv⟩ : ∃ v, vs[j]? = some v := ⟨vs[j], List.getElem?_eq_getElem hlt⟩
        obtain ⟨g, x, y, rfl, -, hnc, e0, e1, e2, e3, e4, hvc⟩ := HV8.out.at hv
        have hvs := HVO.out v (List.mem_of_getElem? hv)
        have L1 := lread_any 1 b v.kind R wr o8 (by omega) HR8.out (Nat.le_trans HGT.out.1 (by omega)) hvs.1.k
        have hgn := HGT.out.next hvs.1.k
        have hkk := (readV_ok (R := R) (Nat.le_trans HGT.out.1 (by omega)) hvs.1.k).2.1
        generalize readV R v.kind = V at *
        obtain ⟨V, R'⟩ := V
        simp only at L1 hgn hkk
        rw [← hkk] at L1 e0
        have KL1 := Lib.hid L1
        have HGN := Lib.hid hgn
        clear L1 hv hvs hvc e1 e2 e3 e4 hgn HGT hkk
        go_wp2_with fail
        refine KL1.out.mono ?_
        rintro e w9 ⟨x1, y1, rfl, o9, hs9, hr9, hv9⟩
        have hg9 := HG8.out.step hs9 (Own.not0 (by omega)) (by unfold Own; omega)
        have HS9 := Lib.hid (HS8.out.trans (hs9.mono fun _ h => .inl h))
        obtain ⟨ps, hp1, hp2, hp3⟩ := hg9
        have HP1 := Lib.hid hp1
        have HP2 := Lib.hid hp2
        have HP3 := Lib.hid hp3
        have HR9 := Lib.hid hr9
        have HV9 := Lib.hid hv9
        clear hs9 hr9 hv9 hp1 hp2 hp3 HG8 HS8 HR8 KL1
        go_wp2_with (at_builtin; refine wpList_append_row rfl (.tmp 42) (.tmp 50) 35 rfl elemV rfl HP1.out ((Below.refl _ w9).alloc (Nat.le_refl _) _) (some ⟨w9.heap.size, 0, none⟩) 1 1 [.int .i64 V.kind, .int .u64 V.u, .int .i64 V.n, x1, y1] rfl (row_new (cs := [.int .i64 V.kind, .int .u64 V.u, .int .i64 V.n, x1, y1]) (by simp) (by omega)) (by obtain ⟨_, _, _, _, rfl, rfl, _⟩ := HV9.out; simp [Value.oneCell']) (by omega) (by omega) ?_)
        intro v5 w5 hrow5 hs5
        have HG10 := Lib.hid (VRow.push HP2.out HP3.out HV9.out hrow5 hs5 (by omega))
        have HR10 := Lib.hid (HR9.out.step hs5 (by omega) (fun l h => by unfold Own at h; show ¬ (l = 2); omega))
        have HS10 := Lib.hid (HS9.out.trans (hs5.mono fun _ h => .inr h))
        clear hrow5 hs5 HP1 HP2 HP3 HV9 HR9 HS9
        go_wp2_with fail
        have hgl1 : (gs ++ [V]).length = j + 1 := by have := HGL.out; rw [List.length_append]; simp only [List.length_singleton]; omega
        go_roundw
        case rel => exact ⟨j + 1, _, R', gs ++ [V], by omega, hgl1, by go_num, HS10.out, HG10.out, HGN.out, HR10.out⟩
        case measure => simp [intOf]; omega
      · have d1 : decide ((j : Int) < (vs.length : Int)) = false := decide_eq_false (by omega)
        have d1' : decide (j < vs.length) = false := decide_eq_false hlt
        have hB8 : Below w.heap.size w wr := hB4.trans (HS8.out.toBelow (n := w.heap.size) hB4.size fun k hk => by rw [HLB4.out k hk]; exact HN0.out)
        have HRW8 := Lib.hid (HRW4.out.step HS8.out HN4.out)
        have HLB8 : Hid (∀ k, k < w.heap.size → o8 k = 0) := fun k hk => by rw [HS8.out.lab k (Nat.lt_of_lt_of_le hk hB4.size)]; exact HLB4.out k hk
        clear HS8 HRW4 HV8 HV4 HLB4 HN0 HN1 HN4 hj HGL
        go_upto_region 13 with fail
        go_cut [61] (fun s61 wx => s61 = .bool false ∧ Below wr.heap.size wr wx)
        case first =>
          have KE := Lib.hid (rend_any 1 b R wr o8 HR8.out)
          by_cases he : endR R = 0
          · have q0 : ((endR R : Int) == 0) = true := by rw [he]; rfl
            have henc := encode_any _ _ 2 gs wr o8 HG8.out HGT.out.2.1 (by omega)
            rw [HGT.out.same he] at henc
            have HEN := Lib.hid henc
            clear henc HG8 HGT HR8 he
            go_wp2_with fail
            refine KE.out.mono ?_
            rintro e w9 ⟨rfl, rfl⟩
            go_wp2_with fail
            refine HEN.out.mono ?_
            rintro e w10 ⟨v10, rfl, hown10, hb10⟩
            obtain ⟨a10, c10, rfl, hs10⟩ := ownsRow_sliceMap hown10
            have KS := sameBytes_any a10 a2 c10 c2 cs cs w10 hs10 (HRW8.out.slice.below hb10)
            rw [hcl] at KS
            have KS := Lib.hid KS
            clear hs10 hown10
            go_wp2_with fail
            refine KS.out.mono ?_
            rintro e w11 ⟨rfl, hb11⟩
            simp only [decide_true]
            go_wp2_with fail
            go_meet
            exact ⟨rfl, Below.step hb10 hb11⟩
          · have q0 : ((endR R : Int) == 0) = false := beq_eq_false_iff_ne.2 (by omega)
            clear HG8 HGT HR8 he
            go_wp2_with fail
            refine KE.out.mono ?_
            rintro e w9 ⟨rfl, rfl⟩
            go_wp2_with fail
            go_meet
            exact ⟨rfl, Below.refl _ _⟩
        case rest =>
          obtain ⟨rfl, hbc⟩ := hcut
          have hB9 := Below.step hB8 hbc
          have KF := Lib.hid (few_any a0 c0 raw 60 wc (HR0.out.below hB9) (by omega))
          clear HG8 HGT HR8 HRW8 HLB8 hbc hB8 hgb HVO
          go_wp2_with fail
          refine KF.out.mono ?_
          rintro e w4 ⟨v4, rfl, hown4, hb4⟩
          obtain ⟨fs, hfs⟩ : ∃ fs, fs = raw.take 60 := ⟨_, rfl⟩
          have hfl : fs.length ≤ 60 := by rw [hfs, List.length_take]; omega
          rw [← hfs] at hown4
          obtain ⟨a4, c4, rfl, hs4⟩ := ownsRow_sliceMap hown4
          have hB10 := Below.step hB9 hb4
          have hd4 : Dat w4 (fun _ => 0) 0 a4 c4 (fs.map byteV) := ⟨hs4, fun _ _ _ _ => rfl⟩
          have KR2 := Lib.hid (read_any 2 a4 c4 fs w4 (fun _ => 0) (by omega) hs4 (by omega))
          have HD4 := Lib.hid hd4
          clear hown4 hb4 hfs hs4 hd4 KF hB9
          go_wp2_with fail
          refine KR2.out.mono ?_
          rintro e w5 ⟨b2, rfl, o5, hs5, hr5⟩
          have HD5 := Lib.hid (HD4.out.step hs5 (Own.not0 (by omega)))
          have hB5 : Below w.heap.size w w5 := hB10.trans (hs5.toBelow (n := w.heap.size) hB10.size fun k hk => Own.not0 (by omega))
          have HLB5 : Hid (∀ k, k < w.heap.size → o5 k = 0) := fun k hk => hs5.lab k (Nat.lt_of_lt_of_le hk hB10.size)
          have HR5 := Lib.hid hr5
          have hn0 : ¬ OwnL 2 3 0 := fun h => h.elim (Own.not0 (by omega)) (by omega)
          have HN0 := Lib.hid hn0
          clear hs5 hr5 KR2 HD4 hB10 hn0
          go_upto_block 2 with fail
          go_cut [14] (fun s14 wx => ∃ (o8 : Nat → Nat) (R : RdS) (gs : List ValS), gs.length ≤ 10 ∧ Hid (Step (OwnL 2 3) w5 o5 wx o8) ∧ Hid (VRow wx o8 3 s14 gs) ∧ Hid (Got fs R gs) ∧ Hid (RdAt wx o8 2 b2 R))
          case first =>
            go_wp2_with fail
            go_loopw [14, 17] (fun gv jv wq => ∃ (j : Nat) (o8 : Nat → Nat) (R : RdS) (gs : List ValS), j ≤ 10 ∧ gs.length = j ∧ jv = .int .i64 j ∧ Hid (Step (OwnL 2 3) w5 o5 wq o8) ∧ Hid (VRow wq o8 3 gv gs) ∧ Hid (Got fs R gs) ∧ Hid (RdAt wq o8 2 b2 R)) (fun _ jv _ => 10 - (intOf jv).toNat)
            case atStart => exact ⟨0, o5, ⟨fs, 0⟩, [], by omega, rfl, rfl, Step.refl _ _ _, VRow.nil _ _ _, Got.start (by omega), HR5.out⟩
            case round =>
              clear HR5
              obtain ⟨j, o8, R, gs, hj, hgl, rfl, HS8, HG8, HGT, HR8⟩ := hrel
              obtain ⟨ga, gc, rfl⟩ := HG8.out.parts
              have hgb : gs.length ≤ 10 := by omega
              have HGL := Lib.hid hgl
              clear hgl
              have hBr : Below w.heap.size w wr := hB5.trans (HS8.out.toBelow (n := w.heap.size) hB5.size fun k hk => by rw [HLB5.out k hk]; exact HN0.out)
              by_cases hlt : j < ks.length
              · have d1 : decide ((j : Int) < (ks.length : Int)) = true := decide_eq_true (by omega)
                have d1' : decide (j < ks.length) = true := decide_eq_true hlt
                by_cases h10 : j < 10
                · have d2 : decide ((j : Int) < 10) = true := decide_eq_true (by omega)
                  have d2' : decide (j < 10) = true := decide_eq_true h10
                  have KE := Lib.hid (rend_any 2 b2 R wr o8 HR8.out)
                  by_cases he : endR R = 0
                  · have q0 : ((endR R : Int) == 0) = true := by rw [he]; rfl
                    have q0' : ((endR R : Int) != 0) = false := by rw [he]; rfl
                    clear he
                    go_wp2_with fail
                    refine KE.out.mono ?_
                    rintro e w9 ⟨rfl, rfl⟩
                    go_wp2_with fail
                    go_meet
                    exact ⟨o8, R, gs, hgb, HS8, HG8, HGT, HR8⟩
                  · have q0 : ((endR R : Int) == 0) = false := beq_eq_false_iff_ne.2 (by omega)
                    have q0' : ((endR R : Int) != 0) = true := bne_iff_ne.2 (by omega)
                    have hks := HK.out.below hBr
                    obtain ⟨kb, koff, rfl⟩ := hks.addr (by simp; omega)
                    have f := hks.intV hlt
                    have hqb := HKB.out _ (List.getElem_mem hlt)
                    generalize ks[j] = q at f hqb
                    have m0 := aroundI_lo q 6 (by omega)
                    have m1 := aroundI_hi q 6 (by omega)
                    have KA := Lib.hid (around_any q 6 wr (by omega) (by omega) hqb.1 hqb.2)
                    generalize aroundI q 6 = m at *
                    obtain ⟨m, rfl⟩ : ∃ z : Nat, m = z := ⟨m.toNat, by omega⟩
                    have hm5 : m ≤ 5 := by omega
                    have L1 := lread_any 2 b2 m R wr o8 (by omega) HR8.out (Nat.le_trans HGT.out.1 (by omega)) hm5
                    have hgn := HGT.out.next hm5
                    have hkk := (readV_ok (R := R) (Nat.le_trans HGT.out.1 (by omega)) hm5).2.1
                    generalize readV R m = V at *
                    obtain ⟨V, R'⟩ := V
                    simp only at L1 hgn hkk
                    subst hkk
                    have KL1 := Lib.hid L1
                    have HGN := Lib.hid hgn
                    clear L1 hgn HGT hks he m0 m1 hqb
                    go_wp2_with fail
                    refine KE.out.mono ?_
                    rintro e w9 ⟨rfl, rfl⟩
                    go_wp2_with fail
                    refine KA.out.mono ?_
                    rintro e w9 ⟨rfl, rfl⟩
                    go_wp2_with fail
                    refine KL1.out.mono ?_
                    rintro e w9 ⟨x1, y1, rfl, o9, hs9, hr9, hv9⟩
                    have hg9 := HG8.out.step hs9 (Own.not0 (by omega)) (by unfold Own; omega)
                    have HS9 := Lib.hid (HS8.out.trans (hs9.mono fun _ h => .inl h))
                    obtain ⟨ps, hp1, hp2, hp3⟩ := hg9
                    have HP1 := Lib.hid hp1
                    have HP2 := Lib.hid hp2
                    have HP3 := Lib.hid hp3
                    have HR9 := Lib.hid hr9
                    have HV9 := Lib.hid hv9
                    clear hs9 hr9 hv9 hp1 hp2 hp3 HG8 HS8 HR8 KL1 KE KA
                    go_wp2_with (at_builtin; refine wpList_append_row rfl (.tmp 83) (.tmp 91) 35 rfl elemV rfl HP1.out ((Below.refl _ w9).alloc (Nat.le_refl _) _) (some ⟨w9.heap.size, 0, none⟩) 1 1 [.int .i64 V.kind, .int .u64 V.u, .int .i64 V.n, x1, y1] rfl (row_new (cs := [.int .i64 V.kind, .int .u64 V.u, .int .i64 V.n, x1, y1]) (by simp) (by omega)) (by obtain ⟨_, _, _, _, rfl, rfl, _⟩ := HV9.out; simp [Value.oneCell']) (by omega) (by omega) ?_)
                    intro v5 w6 hrow5 hs5
                    have HG10 := Lib.hid (VRow.push HP2.out HP3.out HV9.out hrow5 hs5 (by omega))
                    have HR10 := Lib.hid (HR9.out.step hs5 (by omega) (fun l h => by unfold Own at h; show ¬ (l = 3); omega))
                    have HS10 := Lib.hid (HS9.out.trans (hs5.mono fun _ h => .inr h))
                    clear hrow5 hs5 HP1 HP2 HP3 HV9 HR9 HS9
                    go_wp2_with fail
                    have hgl1 : (gs ++ [V]).length = j + 1 := by have := HGL.out; rw [List.length_append]; simp only [List.length_singleton]; omega
                    go_roundw
                    case rel => exact ⟨j + 1, _, R', gs ++ [V], by omega, hgl1, by go_num, HS10.out, HG10.out, HGN.out, HR10.out⟩
                    case measure => simp [intOf]; omega
                · have d2 : decide ((j : Int) < 10) = false := decide_eq_false (by omega)
                  have d2' : decide (j < 10) = false := decide_eq_false h10
                  go_wp2_with fail
                  go_meet
                  exact ⟨o8, R, gs, hgb, HS8, HG8, HGT, HR8⟩
              · have d1 : decide ((j : Int) < (ks.length : Int)) = false := decide_eq_false (by omega)
                have d1' : decide (j < ks.length) = false := decide_eq_false hlt
                go_wp2_with fail
                go_meet
                exact ⟨o8, R, gs, hgb, HS8, HG8, HGT, HR8⟩
          case rest =>
            obtain ⟨o8, R, gs, hgb, HS8, HG8, HGT, HR8⟩ := hcut
            obtain ⟨ga, gc, rfl⟩ := HG8.out.parts
            have hB8 : Below w.heap.size w wc := hB5.trans (HS8.out.toBelow (n := w.heap.size) hB5.size fun k hk => by rw [HLB5.out k hk]; exact HN0.out)
            have HD8 := Lib.hid (HD5.out.step HS8.out HN0.out)
            have KE := Lib.hid (rend_any 2 b2 R wc o8 HR8.out)
            by_cases he : endR R = 0
            · have q0 : ((endR R : Int) == 0) = true := by rw [he]; rfl
              have q0' : ((endR R : Int) != 0) = false := by rw [he]; rfl
              have henc := encode_any _ _ 3 gs wc o8 HG8.out HGT.out.2.1 (by omega)
              rw [HGT.out.same he] at henc
              have HEN := Lib.hid henc
              clear henc HG8 HGT HR8 he HS8 HR5
              go_wp2_with fail
              refine KE.out.mono ?_
              rintro e w9 ⟨rfl, rfl⟩
              go_wp2_with fail
              refine HEN.out.mono ?_
              rintro e w10 ⟨v10, rfl, hown10, hb10⟩
              obtain ⟨a10, c10, rfl, hs10⟩ := ownsRow_sliceMap hown10
              have KS := Lib.hid (sameBytes_any a10 a4 c10 c4 fs fs w10 hs10 (HD8.out.slice.below hb10))
              clear hs10 hown10
              go_wp2_with fail
              refine KS.out.mono ?_
              rintro e w11 ⟨rfl, hb11⟩
              simp only [decide_true]
              go_wp2_with fail
              refine (lives_any w11).mono ?_
              rintro e w12 ⟨rfl, hb12⟩
              go_wp2_with fail
              go_ret
              exact ⟨rfl, Below.step (Below.step (Below.step hB8 hb10) hb11) hb12⟩
            · have q0 : ((endR R : Int) == 0) = false := beq_eq_false_iff_ne.2 (by omega)
              have q0' : ((endR R : Int) != 0) = true := bne_iff_ne.2 (by omega)
              clear HG8 HGT HR8 he HS8 HR5
              go_wp2_with fail
              refine KE.out.mono ?_
              rintro e w9 ⟨rfl, rfl⟩
              go_wp2_with fail
              refine (lives_any wc).mono ?_
              rintro e w12 ⟨rfl, hb12⟩
              go_wp2_with fail
              go_ret
              exact ⟨rfl, Below.step hB8 hb12⟩
end Go.Proofs.Ytplhclmmmfpgeaa
