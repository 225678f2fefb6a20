/-
  The walk of the law WirePrefix.
-/
import Derived.Test.YtplhclmmmfpgeaaWireI
namespace Go.Proofs.Ytplhclmmmfpgeaa
open Go Go.Proofs
open Go.RowKit
set_option linter.unusedVariables false
set_option linter.unusedSimpArgs false

/-- A reader of a part of some values, or one that has come to its end. -/
def PartR (R : RdS) (vs : List ValS) : Prop := R.bs.length ≤ 1000 ∧ (R.e = 3 ∨ ∃ t, t ≠ [] ∧ R.e = 0 ∧ R.bs ++ t = vs.flatMap encV)
theorem PartR.next {R : RdS} {v : ValS} {vs : List ValS} (h : PartR R (v :: vs)) (hv : v.Small) : PartR (readV R v.kind).2 vs := by
  obtain ⟨h0, h⟩ := h
  refine ⟨Nat.le_trans (readV_ok (by omega) hv.1.k).2.2 h0, ?_⟩
  rcases h with h | ⟨t, ht, he, h⟩
  · rw [readV_err (by omega) hv.1.k]
    exact .inl h
  · obtain ⟨bs, e⟩ := R
    simp only at he h
    subst he
    rw [List.flatMap_cons] at h
    rcases split_app h ht with ⟨t1, h1, h2⟩ | ⟨q, h1, h2⟩
    · exact .inl (readV_more hv.1 h2 h1)
    · subst h1
      rw [readV_enc hv]
      exact .inr ⟨t, ht, rfl, h2⟩
theorem PartR.end3 {R : RdS} (h : PartR R []) : R.e = 3 := by
  rcases h.2 with h | ⟨t, ht, he, h⟩
  · exact h
  · simp at h
    exact absurd h.2 ht
def Own12 : Nat → Prop := fun l => Own 1 l ∨ Own 2 l

set_option maxRecDepth 100000 in
set_option maxHeartbeats 8000000 in
theorem wirePrefix_walk (a : Option Addr) (c : Nat) (xs : List Int) (cut by1 : Int) (w : World) (hx : SliceAt w a c (xs.map intV)) (hxb : ∀ n ∈ xs, -9223372036854775808 ≤ n ∧ n ≤ 9223372036854775807) (hcut : -9223372036854775808 ≤ cut ∧ cut ≤ 9223372036854775807) (hby : 0 ≤ by1 ∧ by1 ≤ 255) :
    Calls Try.prog 9 #[.slice a xs.length c, .int .i64 cut, .int .u8 by1] w fun e w' => e = .returned (.bool true) ∧ Below w.heap.size w w' := by
  obtain ⟨by1, rfl⟩ : ∃ z : Nat, by1 = z := ⟨by1.toNat, by omega⟩
  have HX := Lib.hid hx
  have HXB := Lib.hid hxb
  clear hx hxb
  go_enter Try.func9, Try.ntmps9
  go_wp2_with fail
  refine (vals_any a c xs 1 w (fun _ => 0) HX.out HXB.out (by omega) (fun _ _ => by omega)).mono ?_
  rintro e w1 ⟨v, o1, vs, rfl, hs1, hv1, hvl, hvo⟩
  obtain ⟨va, vc, hvv⟩ : ∃ va vc, v = .slice va vs.length vc := by
    obtain ⟨ps, hr1, _⟩ := hv1
    exact hr1.form
  subst hvv
  have hlab1 : ∀ k, k < w.heap.size → o1 k = 0 := fun k hk => hs1.lab k hk
  have hB1 : Below w.heap.size w w1 := hs1.toBelow (Nat.le_refl _) fun _ _ h => h
  have hbs := encVs_small vs hvo
  obtain ⟨bs, hbsd⟩ : ∃ bs, vs.flatMap encV = bs := ⟨_, rfl⟩
  have henc := encode_any va vc 1 vs w1 o1 hv1 (fun v hv => (hvo v hv).1) (by omega)
  rw [hbsd] at henc hbs
  have HEN := Lib.hid henc
  have HBS := Lib.hid hbsd
  have HV1 := Lib.hid hv1
  have HVO := Lib.hid hvo
  have HLB := Lib.hid hlab1
  clear hs1 hv1 hvo hlab1 henc hbsd
  go_wp2_with fail
  refine HEN.out.mono ?_
  rintro e w2 ⟨v2, rfl, hown2, hb2⟩
  obtain ⟨a2, c2, rfl, hd2⟩ := Dat.ofRow (l := 0) (o := o1) hown2
  have hs12 : Step (fun _ => False) w1 o1 w2 (newLab w1 o1 0) := Step.below hb2 fun k hk => newLab_old _ _ _ hk
  have HV2 := Lib.hid (HV1.out.step hs12 (fun h => h) (fun h => h))
  have hB2 := Below.step hB1 hb2
  have hlab2 : ∀ k, k < w.heap.size → newLab w1 o1 0 k = 0 := fun k hk => by rw [newLab_old _ _ _ (Nat.lt_of_lt_of_le hk hB1.size)]; exact HLB.out k hk
  generalize newLab w1 o1 0 = o2 at *
  have HLB := Lib.hid hlab2
  have hs2 := hd2.slice
  have HD2 := Lib.hid hd2
  clear hown2 hb2 hs12 HV1 HEN hlab2 hd2
  by_cases hb0 : bs.length = 0
  · have d0 : ((bs.length : Int) == 0) = true := by rw [hb0]; rfl
    have KR := Lib.hid (read_any 1 none 0 [] w2 o2 (by omega) (slice_nil byteV w2) (by simp))
    clear HV2
    go_wp2_with fail
    refine KR.out.mono ?_
    rintro e w3 ⟨b, rfl, o3, hs3, hr3⟩
    have hB3 : Below w.heap.size w w3 := hB2.trans (hs3.toBelow (n := w.heap.size) hB2.size fun k hk => by rw [HLB.out k hk]; exact Own.not0 (by omega))
    have KE := Lib.hid (rend_any 1 b ⟨[], 0⟩ w3 o3 hr3)
    clear hs3 hr3
    go_wp2_with fail
    refine KE.out.mono ?_
    rintro e w9 ⟨rfl, rfl⟩
    rw [show endR ⟨[], 0⟩ = 0 from rfl]
    go_wp2_with fail
    refine (lives_any w3).mono ?_
    rintro e w9 ⟨rfl, hb9⟩
    go_wp2_with fail
    go_ret
    exact ⟨rfl, Below.step hB3 hb9⟩
  · have d0 : ((bs.length : Int) == 0) = false := beq_eq_false_iff_ne.2 (by omega)
    have k0 := aroundI_lo cut (bs.length : Int) (by omega)
    have k1 := aroundI_hi cut (bs.length : Int) (by omega)
    have R1 := Lib.hid (around_any cut (bs.length : Int) w2 (by omega) (by omega) hcut.1 hcut.2)
    generalize aroundI cut (bs.length : Int) = k at *
    obtain ⟨k, rfl⟩ : ∃ z : Nat, k = z := ⟨k.toNat, by omega⟩
    have hkb : k < bs.length := by omega
    have hkl : (bs.take k).length = k := by rw [List.length_take]; omega
    have hc2 := hs2.le
    simp only [List.length_map] at hc2
    have hst := (hs2.take k)
    rw [← List.map_take] at hst
    have KR := read_any 1 a2 c2 (bs.take k) w2 o2 (by omega) hst (by omega)
    rw [hkl] at KR
    have KR := Lib.hid KR
    have HS2 := Lib.hid hs2
    clear hst hs2
    go_wp2_with fail
    refine R1.out.mono ?_
    rintro e w9 ⟨rfl, rfl⟩
    go_wp2_with fail
    refine KR.out.mono ?_
    rintro e w3 ⟨b1, rfl, o3, hs3, hr3⟩
    have hB3 : Below w.heap.size w w3 := hB2.trans (hs3.toBelow (n := w.heap.size) hB2.size fun k hk => by rw [HLB.out k hk]; exact Own.not0 (by omega))
    have HD3 := Lib.hid (HD2.out.step hs3 (Own.not0 (by omega)))
    have HV3 := Lib.hid (HV2.out.step hs3 (Own.not0 (by omega)) (by unfold Own; omega))
    have HLB3 : Hid (∀ k, k < w.heap.size → o3 k = 0) := fun k hk => by rw [hs3.lab k (Nat.lt_of_lt_of_le hk hB2.size)]; exact HLB.out k hk
    have HR3 := Lib.hid hr3
    clear hs3 hr3 HD2 HV2 HLB KR HS2 R1
    go_wp2_with fail
    refine (few_any a2 c2 bs bs.length w3 HD3.out.slice (by omega)).mono ?_
    rw [List.take_length]
    rintro e w4 ⟨v4, rfl, hown4, hb4⟩
    have hbyt : byteV (UInt8.ofNat by1) = .int .u8 (by1 : Int) := byteV_nat (by omega)
    go_wp2_with (at_builtin; refine wpList_append_src _ rfl _ _ 24 rfl elemB w3.heap.size _ bs.length _ rfl (hown4.alloc _) (some ⟨w4.heap.size, 0, none⟩) 1 1 [.int .u8 (by1 : Int)] rfl (row_new (cs := [.int .u8 (by1 : Int)]) (by simp) (by omega)) (by simp [Value.oneCell']) (by omega) (by omega) (by have := hb4.size; simp; omega) ?_)
    intro v5 w5 hown5 hb5 _
    obtain ⟨bz, hbz⟩ : ∃ bz, bz = bs ++ [UInt8.ofNat by1] := ⟨_, rfl⟩
    have hbzl : bz.length = bs.length + 1 := by rw [hbz]; simp
    obtain ⟨a5, c5, hv5, hs5⟩ := ownsRow_sliceMap (f := byteV) (xs := bz) (n := bs.length + 1) (by rw [hbz, List.map_append, List.map_singleton, hbyt]; exact hown5)
    subst hv5
    have hb35 : Below w3.heap.size w3 w5 := (hb4.alloc hb4.size _).trans hb5
    have hs35 : Step (fun _ => False) w3 o3 w5 o3 := Step.same hb35
    have HR5 := Lib.hid (HR3.out.step hs35 (fun h => h) (fun _ _ h => h))
    have HV5 := Lib.hid (HV3.out.step hs35 (fun h => h) (fun h => h))
    have hB5 := Below.step hB3 hb35
    have kr2 := read_any 2 a5 c5 bz w5 o3 (by omega) hs5 (by omega)
    rw [hbzl] at kr2
    have KR2 := Lib.hid kr2
    clear kr2
    have HBZ := Lib.hid hbz
    clear hown4 hown5 hb4 hb5 hb35 hs35 hs5 HR3 HV3 HD3 hbz hbyt
    go_wp2_with fail
    refine KR2.out.mono ?_
    rintro e w6 ⟨b2, rfl, o6, hs6, hr6⟩
    have HR16 := Lib.hid (HR5.out.step hs6 (Own.not0 (by omega)) (fun l h => Own.not (by omega) h))
    have HR26 := Lib.hid hr6
    have HV6 := Lib.hid (HV5.out.step hs6 (Own.not0 (by omega)) (by unfold Own; omega))
    have hB6 : Below w.heap.size w w6 := hB5.trans (hs6.toBelow (n := w.heap.size) hB5.size fun k hk => by rw [HLB3.out k hk]; exact Own.not0 (by omega))
    have HLB6 : Hid (∀ k, k < w.heap.size → o6 k = 0) := fun k hk => by rw [hs6.lab k (Nat.lt_of_lt_of_le hk hB5.size)]; exact HLB3.out k hk
    have hp0 : Hid (PartR ⟨bs.take k, 0⟩ vs) := by
      refine ⟨by rw [List.length_take]; show min k bs.length ≤ _; omega, .inr ⟨bs.drop k, fun h => ?_, rfl, by rw [HBS.out]; exact List.take_append_drop _ _⟩⟩
      have := congrArg List.length h
      rw [List.length_drop, List.length_nil] at this
      omega
    clear hs6 hr6 KR2 HR5 HV5 HLB3
    go_wp2_with fail
    go_loopw [12] (fun jv wq => ∃ (j : Nat) (o8 : Nat → Nat) (R1 : RdS), j ≤ vs.length ∧ jv = .int .i64 j ∧ Hid (Step Own12 w6 o6 wq o8) ∧ Hid (PartR R1 (vs.drop j)) ∧ Hid (RdAt wq o8 1 b1 R1) ∧ Hid (RdAt wq o8 2 b2 ⟨(vs.drop j).flatMap encV ++ [UInt8.ofNat by1], 0⟩)) (fun jv _ => vs.length - (intOf jv).toNat)
    case atStart => exact ⟨0, o6, ⟨bs.take k, 0⟩, by omega, rfl, Step.refl _ _ _, hp0, HR16.out, by unfold Hid; rw [List.drop_zero, HBS.out, ← HBZ.out]; exact HR26.out⟩
    case round =>
      clear HR16 HR26 hp0
      obtain ⟨j, o8, R1, hj, rfl, HS8, HP8, HR18, HR28⟩ := hrel
      have hn0 : ¬ Own12 0 := fun h => h.elim (Own.not0 (by omega)) (Own.not0 (by omega))
      have hn1 : ¬ Own12 1 := fun h => h.elim (by unfold Own; omega) (by unfold Own; omega)
      have HV8 := Lib.hid (HV6.out.step HS8.out hn0 hn1)
      by_cases hlt : j < vs.length
      · have d1 : decide ((j : Int) < (vs.length : Int)) = true := decide_eq_true (by omega)
        have d1' : decide (j < vs.length) = true := decide_eq_true hlt
        obtain ⟨v, hv⟩ : ∃ v, vs[j]? = some v := ⟨vs[j], List.getElem?_eq_getElem hlt⟩
        obtain ⟨g, x, y, rfl, -, hnc, e0, e1, e2, e3, e4, hvc⟩ := HV8.out.at hv
        have hvs := HVO.out v (List.mem_of_getElem? hv)
        have hdr : vs.drop j = v :: vs.drop (j + 1) := by
          rw [List.drop_eq_getElem_cons hlt]
          rw [List.getElem?_eq_getElem hlt] at hv
          rw [Option.some.inj hv]
        have hrl : ((vs.drop j).flatMap encV).length ≤ 1000 := by
          have h1 := encVs_small (vs.drop j) fun x hx => HVO.out x (List.mem_of_mem_drop hx)
          rw [List.length_drop] at h1
          omega
        rw [hdr] at HP8 HR28 hrl
        rw [List.flatMap_cons, List.append_assoc] at HR28
        have hp1 := HP8.out.next hvs
        have L1 := lread_any 1 b1 v.kind R1 wr o8 (by omega) HR18.out (Nat.le_trans HP8.out.1 (by omega)) hvs.1.k
        have hrl2 : (encV v ++ ((vs.drop (j + 1)).flatMap encV ++ [UInt8.ofNat by1])).length ≤ 1001 := by
          rw [List.flatMap_cons] at hrl
          simp only [List.length_append, List.length_singleton] at hrl ⊢
          omega
        have L2 := fun W o' h => lread_any 2 b2 v.kind ⟨encV v ++ ((vs.drop (j + 1)).flatMap encV ++ [UInt8.ofNat by1]), 0⟩ W o' (by omega) h (Nat.le_trans hrl2 (by omega)) hvs.1.k
        rw [readV_enc hvs] at L2
        have HP9 := Lib.hid hp1
        have KL1 := Lib.hid L1
        have KL2 := Lib.hid L2
        clear L1 L2 hp1 hrl hrl2 hdr hv hvs hvc HP8
        go_wp2_with fail
        refine KL1.out.mono ?_
        rintro e w9 ⟨x1, y1, rfl, o9, hs9, hr9, -⟩
        have HR29 := Lib.hid (HR28.out.step hs9 (Own.not0 (by omega)) (fun l h => Own.not (by omega) h))
        have e09 := HV8.out.cell hs9 (by unfold Own; omega) e0
        have HS9 := Lib.hid (HS8.out.trans (hs9.mono fun _ h => .inl h))
        have HR19 := Lib.hid hr9
        clear hs9 hr9 HR18 HR28 HS8 KL1
        go_wp2_with fail
        refine (KL2.out w9 o9 HR29.out).mono ?_
        rintro e w10 ⟨x2, y2, rfl, o10, hs10, hr10, -⟩
        have HR110 := Lib.hid (HR19.out.step hs10 (Own.not0 (by omega)) (fun l h => Own.not (by omega) h))
        have HS10 := Lib.hid (HS9.out.trans (hs10.mono fun _ h => .inr h))
        have HR210 := Lib.hid hr10
        clear hs10 hr10 KL2
        go_wp2_with fail
        go_roundw
        case rel => first | exact ⟨j + 1, o10, _, by omega, by go_num, HS10.out, HP9.out, HR110.out, HR210.out⟩ | ((repeat apply Exists.intro); refine ⟨?_, rfl⟩; exact ⟨j + 1, o10, _, by omega, by go_num, HS10.out, HP9.out, HR110.out, HR210.out⟩)
        case measure => simp [intOf]; omega
      · obtain rfl : j = vs.length := by omega
        rw [List.drop_length] at HP8 HR28
        have he3 := HP8.out.end3
        have hB8 : Below w.heap.size w wr := hB6.trans (HS8.out.toBelow (n := w.heap.size) hB6.size fun k hk => by rw [HLB6.out k hk]; exact hn0)
        have K1 := rend_any 1 b1 R1 wr o8 HR18.out
        have K2 := Lib.hid (rend_any 2 b2 _ wr o8 HR28.out)
        rw [show endR R1 = 3 from by unfold endR; rw [he3]; simp] at K1
        have K1 := Lib.hid K1
        have m0 := aroundI_lo cut 6 (by omega)
        have m1 := aroundI_hi cut 6 (by omega)
        have KA := Lib.hid (around_any cut 6 wr (by omega) (by omega) hcut.1 hcut.2)
        generalize aroundI cut 6 = q at *
        obtain ⟨q, rfl⟩ : ∃ z : Nat, q = z := ⟨q.toNat, by omega⟩
        have KL := lread_any 1 b1 q R1 wr o8 (by omega) HR18.out (Nat.le_trans HP8.out.1 (by omega)) (by omega)
        rw [readV_err (by omega) (by omega)] at KL
        have KL := Lib.hid KL
        have hlab8 : Hid (∀ k, k < w.heap.size → o8 k = 0) := fun k hk => by rw [HS8.out.lab k (Nat.lt_of_lt_of_le hk hB6.size)]; exact HLB6.out k hk
        clear HS8 HP8 HV8 HV6 HLB6
        go_wp2_with fail
        refine K1.out.mono ?_
        rintro e w9 ⟨rfl, rfl⟩
        go_wp2_with fail
        refine K2.out.mono ?_
        rintro e w9 ⟨rfl, rfl⟩
        rw [show endR ⟨[].flatMap encV ++ [UInt8.ofNat by1], 0⟩ = 2 from rfl]
        go_wp2_with fail
        refine KA.out.mono ?_
        rintro e w9 ⟨rfl, rfl⟩
        go_wp2_with fail
        refine KL.out.mono ?_
        rintro e w9 ⟨x1, y1, rfl, o9, hs9, hr9, hv9⟩
        obtain ⟨xa, xc, ya, yc, hx1, hy1, hd1, hd2⟩ := hv9
        subst hx1 hy1
        have hB9 : Below w.heap.size w w9 := hB8.trans (hs9.toBelow (n := w.heap.size) hB8.size fun k hk => by rw [hlab8.out k hk]; exact Own.not0 (by omega))
        obtain ⟨v9, hv9⟩ : ∃ z, z = w9.alloc (.cells #[.int .i64 q, .int .u64 0, .int .i64 0, .slice xa 0 xc, .slice ya 0 yc] 47) := ⟨_, rfl⟩
        obtain ⟨c9, b9⟩ := val_new (cs := [.int .i64 q, .int .u64 0, .int .i64 0, .slice xa 0 xc, .slice ya 0 yc]) hv9
        have g0 := c9 0 _ rfl
        have g1 := c9 1 _ rfl
        have g2 := c9 2 _ rfl
        have g3 := c9 3 _ rfl
        have g4 := c9 4 _ rfl
        have hsv : Step (fun _ => False) w9 o9 v9 o9 := Step.same b9
        have hr10 := hr9.step hsv (fun h => h) (fun _ _ h => h)
        have KS := Lib.hid (same_any ⟨q, 0, 0, [], []⟩ (.slice xa 0 xc) (.slice ya 0 yc) (.slice none 0 0) (.slice none 0 0) v9 o9 o9 ⟨xa, xc, ya, yc, rfl, rfl, hd1.step hsv (fun h => h), hd2.step hsv (fun h => h)⟩ ⟨none, 0, none, 0, rfl, rfl, Dat.nil byteV _ _ _, Dat.nil intV _ _ _⟩)
        have HR10 := Lib.hid hr10
        have HE3 := Lib.hid he3
        have hB10 := Below.step hB9 b9
        rw [hv9] at g0 g1 g2 g3 g4
        have HV9 := Lib.hid hv9
        clear hs9 hr9 hd1 hd2 hsv hr10 c9 b9 hv9 he3
        go_wp2_with fail
        rw [← HV9.out]
        refine KS.out.mono ?_
        rintro e w11 ⟨rfl, hb11⟩
        have HR11 := HR10.out.step (Step.same (L := fun _ => False) (o := o9) hb11) (fun h => h) (fun _ _ h => h)
        have KE := rend_any 1 b1 R1 w11 o9 HR11
        rw [show endR R1 = 3 from by unfold endR; rw [HE3.out]; simp] at KE
        have KE := Lib.hid KE
        go_wp2_with fail
        refine KE.out.mono ?_
        rintro e w12 ⟨rfl, rfl⟩
        go_wp2_with fail
        refine (lives_any w11).mono ?_
        rintro e w12 ⟨rfl, hb12⟩
        go_wp2_with fail
        go_ret
        exact ⟨rfl, Below.step (Below.step hB10 hb11) hb12⟩
end Go.Proofs.Ytplhclmmmfpgeaa
