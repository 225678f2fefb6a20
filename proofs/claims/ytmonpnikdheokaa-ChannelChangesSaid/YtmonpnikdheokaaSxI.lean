/-
  Contract: the reference's Chain of changes.
-/
import Derived.Test.YtmonpnikdheokaaSxH
namespace Go.Proofs.Ytmonpnikdheokaa
open Go Go.Proofs
open Go.RowKit
set_option linter.unusedVariables false
set_option linter.unusedSimpArgs false

/-- One change of a text. -/
structure OneC (l : List UInt8) (ps : List PEd) (es : List Ed) : Prop where
  ps : ps = es.map (pedOf l)
  snd : Snd l.length 0 es
  few : es.length ≤ 5
  txt : ∀ e ∈ es, e.x.length ≤ 5000
  bor : ∀ e ∈ es, BorG l e
  len : (applyL l 0 es).length ≤ 4096
/-- Changes that fit one after another lead from a text to a text. -/
def ChainR : List UInt8 → List (List PEd) → List UInt8 → Prop
  | l, [], l' => l = l'
  | l, ps :: cs, l' => ∃ es, OneC l ps es ∧ ChainR (applyL l 0 es) cs l'
theorem ChainR.snoc : ∀ {cs : List (List PEd)} {l l' : List UInt8} {ps : List PEd} {es : List Ed}, ChainR l cs l' → OneC l' ps es → ChainR l (cs ++ [ps]) (applyL l' 0 es)
  | [], l, l', ps, es, h, h1 => by cases h; exact ⟨es, h1, rfl⟩
  | _ :: cs, l, l', ps, es, ⟨es0, h0, h⟩, h1 => ⟨es0, h0, ChainR.snoc h h1⟩
theorem ownsRow_low {w : World} {b b' : Nat} {e : TypeId} {size : Nat} {v : Value} {n : Nat} {xs : List Value} (h : w.ownsRow b e size v n xs) (hb : b' ≤ b) : w.ownsRow b' e size v n xs := by
  refine ⟨h.1, ?_⟩
  rcases h.2 with hn | ⟨g, cap, cur, rfl, hg, rest⟩
  · exact .inl hn
  · exact .inr ⟨g, cap, cur, rfl, Nat.le_trans hb hg, rest⟩
/-- A change's edits in memory. -/
def ChgV (w : World) (v : Value) (ps : List PEd) : Prop := OwnRec pedC 5 127 w 0 v ps
theorem ChgV.below {w w' : World} {v : Value} {ps : List PEd} (h : ChgV w v ps) (hb : Below w.heap.size w w') : ChgV w' v ps := OwnRec.below h hb
theorem ChgV.at {w : World} {v : Value} {ps : List PEd} (h : ChgV w v ps) : ∃ a c, v = .slice a ps.length c ∧ PEdsAt w a c ps := OwnRec.at h
theorem ChgV.grow {W W2 : World} {row v : Value} {ps : List PEd} {base n : Nat} {xs : List Value} (h : ChgV W v ps) (hg : W.grownBy W2 row.ownBlock) (hrow : W.ownsRow base 70 2 row n xs) : ChgV W2 v ps := by
  refine ⟨h.1, ?_⟩
  rcases h.2 with hn | ⟨g, cap, cur, rfl, h0, hgb, rest⟩
  · exact .inl hn
  · refine .inr ⟨g, cap, cur, rfl, h0, ?_, rest⟩
    rw [hg.block g (lt_of_block hgb) (row_neP hgb (by decide) hrow)]
    exact hgb
def ChgsAt (w : World) (vs : List Value) (cs : List (List PEd)) : Prop := vs.length = cs.length ∧ ∀ (j : Nat) v ps, vs[j]? = some v → cs[j]? = some ps → ChgV w v ps
theorem ChgsAt.nil (w : World) : ChgsAt w [] [] := ⟨rfl, fun j v ps h => by simp at h⟩
theorem ChgsAt.below {w w' : World} {vs : List Value} {cs : List (List PEd)} (h : ChgsAt w vs cs) (hb : Below w.heap.size w w') : ChgsAt w' vs cs := ⟨h.1, fun j v ps h1 h2 => (h.2 j v ps h1 h2).below hb⟩
theorem ChgsAt.snoc {w : World} {vs : List Value} {cs : List (List PEd)} {v : Value} {ps : List PEd} (h : ChgsAt w vs cs) (hv : ChgV w v ps) : ChgsAt w (vs ++ [v]) (cs ++ [ps]) := by
  refine ⟨by simp [h.1], fun j u x h1 h2 => ?_⟩
  by_cases hj : j < vs.length
  · rw [List.getElem?_append_left hj] at h1
    rw [List.getElem?_append_left (by rw [← h.1]; exact hj)] at h2
    exact h.2 j u x h1 h2
  · rw [List.getElem?_append_right (by omega)] at h1
    rw [List.getElem?_append_right (by rw [← h.1]; omega), ← h.1] at h2
    obtain ⟨k, hk⟩ : ∃ k, j - vs.length = k := ⟨_, rfl⟩
    rw [hk] at h1 h2
    cases k with
    | zero => simp at h1 h2; subst h1; subst h2; exact hv
    | succ k => simp at h1
theorem ChgsAt.grow {W W2 : World} {row : Value} {vs : List Value} {cs : List (List PEd)} {base n : Nat} {xs : List Value} (h : ChgsAt W vs cs) (hg : W.grownBy W2 row.ownBlock) (hrow : W.ownsRow base 70 2 row n xs) : ChgsAt W2 vs cs := ⟨h.1, fun j v ps h1 h2 => (h.2 j v ps h1 h2).grow hg hrow⟩
/-- The cells of changes, the versions from k + 1 on. -/
def chC : Nat → List Value → List Value
  | _, [] => []
  | k, v :: vs => .int .i64 ((k : Int) + 1) :: v :: chC (k + 1) vs
theorem chC_len : ∀ (vs : List Value) (k : Nat), (chC k vs).length = vs.length * 2
  | [], _ => rfl
  | _ :: vs, k => by simp only [chC, List.length_cons, chC_len vs]; omega
theorem chC_snoc (v : Value) : ∀ (vs : List Value) (k : Nat), chC k (vs ++ [v]) = chC k vs ++ [.int .i64 (((k + vs.length : Nat) : Int) + 1), v]
  | [], k => rfl
  | u :: vs, k => by
    simp only [List.cons_append, chC, chC_snoc v vs, List.length_cons]
    rw [show k + 1 + vs.length = k + (vs.length + 1) by omega]
theorem chC_get : ∀ (vs : List Value) (k j : Nat) {v : Value}, vs[j]? = some v → (chC k vs)[j * 2]? = some (.int .i64 (((k + j : Nat) : Int) + 1)) ∧ (chC k vs)[j * 2 + 1]? = some v
  | [], _, j, v, h => by simp at h
  | u :: vs, k, 0, v, h => by simp at h; subst h; simp [chC]
  | u :: vs, k, j + 1, v, h => by
    have := chC_get vs (k + 1) j (v := v) (by simpa using h)
    rw [show (j + 1) * 2 = j * 2 + 2 by omega, show j * 2 + 2 + 1 = j * 2 + 1 + 2 by omega]
    simp only [chC, List.getElem?_cons_succ]
    rw [show k + (j + 1) = k + 1 + j by omega]
    exact this
theorem growX_le {n : Nat} {es : List Ed} : ∀ {p : Nat}, Snd n p es → (∀ e ∈ es, e.x.length ≤ 5000) → growL es ≤ 5000 * es.length := by
  induction es with
  | nil => intro p _ _; simp [growL]
  | cons e es ih =>
    intro p h hb
    obtain ⟨h1, h2, h3, h4⟩ := h
    have := ih h4 fun x hx => hb x (List.mem_cons_of_mem _ hx)
    have := hb e (by simp)
    simp only [growL, growE, List.length_cons]
    omega
theorem apply_le5 {s : List UInt8} {es : List Ed} : ∀ {p : Nat}, Snd s.length p es → (∀ e ∈ es, e.x.length ≤ 5000) → (applyL s p es).length ≤ s.length + 5000 * es.length := by
  induction es with
  | nil => intro p _ _; simp [applyL]
  | cons e es ih =>
    intro p h hb
    obtain ⟨h1, h2, h3, h4⟩ := h
    have h5 := ih h4 fun x hx => hb x (List.mem_cons_of_mem _ hx)
    have h6 := hb e (by simp)
    have h7 := apply_len h4
    have hg := growX_le h4 fun x hx => hb x (List.mem_cons_of_mem _ hx)
    have hc := cutL_len (s := s) (a := p) (b := e.f.toNat) (by omega) (by omega)
    simp only [applyL, List.length_append, hc, List.length_cons, Nat.mul_add, Nat.mul_one]
    omega
theorem elemC : ElemT Try.prog 60 70 (.agg #[.int .i64 0, .slice none 0 0]) 2 32 := ⟨Try.underlying60, info_parts (by kernel_rfl), rfl, by decide⟩

set_option maxRecDepth 100000 in
set_option maxHeartbeats 8000000 in
theorem chain_any (a : Option Addr) (c : Nat) (xs : List Int) (w : World) (hx : SliceAt w a c (xs.map intV)) (hb : ∀ n ∈ xs, -9223372036854775808 ≤ n ∧ n ≤ 9223372036854775807) :
    Calls Try.prog 28 #[.slice a xs.length c, .int .i64 6] w fun e w' => ∃ (l l' : List UInt8) (v : Value) (vs : List Value) (cs : List (List PEd)), e = .returned (.tuple #[.string (strB l), v]) ∧ l.length ≤ 96 ∧ ChainR l cs l' ∧ cs.length ≤ 6 ∧
      w'.ownsRow w.heap.size 70 2 v vs.length (chC 0 vs) ∧ ChgsAt w' vs cs ∧ Below w.heap.size w w' := by
  have hlm := hx.len
  simp only [List.length_map] at hlm
  have k1 : Calls Try.prog 59 #[.slice a xs.length c, .int .i64 0, .int .i64 12] w fun e w' => ∃ (a' : Option Addr) (c' : Nat) (ys : List Int), e = .returned (.slice a' ys.length c') ∧ SliceAt w a' c' (ys.map intV) ∧ (∀ n ∈ ys, n ∈ xs) ∧ w = w' := part_any a c xs 0 12 w hx (by decide) (by decide)
  have k2 := fun (k : Nat) W (hk : k ≤ 6) (hW : Below w.heap.size w W) => part_any a c xs (12 + 10 * k) 16 W (hx.below hW) (by omega) (by decide)
  have K1 := Lib.hid k1
  have K2 := Lib.hid k2
  have HB := Lib.hid hb
  clear k1 k2 hx hb
  go_enter Try.func28, Try.ntmps28
  go_wp2_with fail
  refine K1.out.mono ?_
  rintro e w1 ⟨a1, c1, ys, rfl, hys, hyx, rfl⟩
  have K3 := Lib.hid (text_b a1 c1 ys w hys (fun n hn => HB.out n (hyx n hn)))
  clear hys hyx K1
  go_wp2_with fail
  refine K3.out.mono ?_
  rintro e w2 ⟨rfl, hb2⟩
  obtain ⟨l, hl⟩ : ∃ l, textL ys = l := ⟨_, rfl⟩
  have hts : textB ys = strB l := by rw [← hl]; rfl
  have hll : l.length ≤ 96 := by rw [← hl]; exact text_len ys
  rw [hts]
  have HB2 := Lib.hid hb2
  clear hl hts hb2 K3
  go_wp2_with fail
  go_loopw [7, 8, 9] (fun tv ov iv wr => ∃ (k : Nat) (l' : List UInt8) (vs : List Value) (cs : List (List PEd)), k ≤ 6 ∧ iv = .int .i64 k ∧ tv = .string (strB l') ∧ l'.length ≤ 4096 ∧ vs.length = k ∧ cs.length = k ∧ Hid (ChainR l cs l') ∧
      wr.ownsRow w2.heap.size 70 2 ov k (chC 0 vs) ∧ ChgsAt wr vs cs ∧ Below w2.heap.size w2 wr) (fun _ _ iv _ => 6 - (intOf iv).toNat)
  case atStart => exact ⟨0, l, [], [], by omega, rfl, rfl, by omega, rfl, rfl, rfl, World.ownsRow_nil _ _ _ _, ChgsAt.nil _, Below.refl _ _⟩
  case round =>
    obtain ⟨k, l', vs, cs, hk, rfl, rfl, hl', hvs, hcs, hC, hO, hA, hB⟩ := hrel
    obtain ⟨av, cv, rfl, -⟩ := ownsRow_row hO
    have hbase : w.heap.size ≤ w2.heap.size := HB2.out.size
    have hB0 := HB2.out.trans (hB.mono hbase)
    have HO := Lib.hid hO
    have HA := Lib.hid hA
    have HHB := Lib.hid hB
    have HB0 := Lib.hid hB0
    have hfin : Hid (wr.ownsRow w.heap.size 70 2 (.slice av k cv) vs.length (chC 0 vs)) := by
      unfold Hid
      rw [hvs]
      have h := hO
      refine ⟨h.1, ?_⟩
      rcases h.2 with hn | ⟨g, cap, cur, he, hg, rest⟩
      · exact .inl hn
      · exact .inr ⟨g, cap, cur, he, Nat.le_trans hbase hg, rest⟩
    have HVS := Lib.hid hvs
    have HCS := Lib.hid hcs
    clear hO hA hB hB0 hvs hcs
    have i1 : IntKind.i64.wrap (10 * (k : Int)) = 10 * (k : Int) := IntWalk.i64_in _ (by omega)
    have i2 : IntKind.i64.wrap (12 + 10 * (k : Int)) = 12 + 10 * (k : Int) := IntWalk.i64_in _ (by omega)
    by_cases h6 : k < 6
    · have d1 : decide ((k : Int) < 6) = true := decide_eq_true (by omega)
      by_cases hxl : 12 + 10 * k < xs.length
      · have d2 : decide (12 + 10 * (k : Int) < (xs.length : Int)) = true := decide_eq_true (by omega)
        have kp := K2.out k wr hk HB0.out
        rw [show ((12 + 10 * k : Nat) : Int) = 12 + 10 * (k : Int) by omega] at kp
        have KP := Lib.hid kp
        clear kp
        go_wp2_with fail
        refine KP.out.mono ?_
        rintro e w3 ⟨a3, c3, zs, rfl, hzs, hzx, rfl⟩
        have KE := Lib.hid (editsG_any (strB l') a3 c3 zs wr (by rw [strB_size]; omega) hzs (fun n hn => HB.out n (hzx n hn)))
        clear hzs hzx KP
        go_wp2_with fail
        refine KE.out.mono ?_
        rintro e w4 ⟨a4, c4, es, rfl, hG, hE, hb4⟩
        have KPo := Lib.hid (positions_any (strB l') a4 c4 es w4 (by rw [strB_size]; omega) hE hG)
        rw [strB_size] at hG
        obtain ⟨g1, g2, g3⟩ := hG
        have hv := valid_of g1 (by omega)
        have hne := apply_le5 g1 g3
        have ka := fun W (hW : Below w4.heap.size w4 W) => rApply_any (strB l') a4 c4 es W (by rw [strB_size]; omega) (hE.below hW) (by rw [strB_list, applyX_ok hv]; omega)
        rw [strB_list, applyX_ok hv, strB_size, hv] at ka
        rw [strB_list] at KPo
        have KA := Lib.hid ka
        have G1 := Lib.hid g1
        have G3 := Lib.hid g3
        have HA4 := Lib.hid (HA.out.below hb4)
        have HO4 := Lib.hid (ownsRow_below HO.out hb4)
        have HF4 := Lib.hid (ownsRow_below hfin.out hb4)
        have HB4 := Lib.hid (HHB.out.trans (hb4.mono HHB.out.size))
        have HB04 := Lib.hid (Below.step HB0.out hb4)
        obtain ⟨T, hT⟩ : ∃ T, applyL l' 0 es = T := ⟨_, rfl⟩
        rw [hT] at KA hne
        have HT := Lib.hid hT
        have zT := strB_size T
        clear ka g1 g3 hE hb4 hv hT KE HA HO HHB HB0 hfin
        go_wp2_with fail
        refine KPo.out.mono ?_
        rintro e w5 ⟨b, v5, ps, rfl, ho5, hbp, hb5⟩
        obtain ⟨a5, c5, rfl, hps⟩ := ho5.at
        have HPS : Hid (ChgV w5 (.slice a5 ps.length c5) ps) := ownsRow_low ho5 (Nat.zero_le _)
        have HBP := Lib.hid hbp
        have HA5 := Lib.hid (HA4.out.below hb5)
        have HO5 := Lib.hid (ownsRow_below HO4.out hb5)
        have HF5 := Lib.hid (ownsRow_below HF4.out hb5)
        have HB5 := Lib.hid (HB4.out.trans (hb5.mono HB4.out.size))
        have HB05 := Lib.hid (Below.step HB04.out hb5)
        have hb5' := hb5
        clear ho5 hps hbp KPo HA4 HO4 HF4 HB4 HB04 hb5
        go_wp2_with fail
        refine (KA.out w5 hb5').mono ?_
        rintro e w6 ⟨rfl, hb6⟩
        have HPS6 := Lib.hid (HPS.out.below hb6)
        have HA6 := Lib.hid (HA5.out.below hb6)
        have HO6 := Lib.hid (ownsRow_below HO5.out hb6)
        have HF6 := Lib.hid (ownsRow_below HF5.out hb6)
        have HB6 := Lib.hid (HB5.out.trans (hb6.mono HB5.out.size))
        have HB06 := Lib.hid (Below.step HB05.out hb6)
        clear hb5' hb6 KA HA5 HO5 HF5 HB5 HB05 HPS
        by_cases hbt : b = true
        · subst hbt
          obtain ⟨hp, hbor⟩ := HBP.out rfl
          by_cases h4 : T.length ≤ 4096
          · have d3 : decide ((4096 : Int) < (T.length : Int)) = false := decide_eq_false (by omega)
            have d3' : decide (4096 < T.length) = false := decide_eq_false (by omega)
            have hone : OneC l' ps es := ⟨hp, G1.out, g2, G3.out, hbor, by rw [HT.out]; exact h4⟩
            have hch := hC.out.snoc hone
            rw [HT.out] at hch
            have HCH := Lib.hid hch
            have hsz := HB6.out.size
            have hsn := chC_snoc (.slice a5 ps.length c5) vs 0
            rw [Nat.zero_add, HVS.out] at hsn
            have HSN := Lib.hid hsn
            clear hp hbor hone hch hsn HBP
            go_wp2_with (at_builtin; refine wpList_append_src _ rfl (.tmp 64) (.tmp 69) 60 rfl elemC w2.heap.size _ k _ rfl (ownsRow_below HO6.out ((Below.refl _ w6).alloc (Nat.le_refl _) _)) (some ⟨w6.heap.size, 0, none⟩) 1 1 [.int .i64 ((k : Int) + 1), .slice a5 ps.length c5] rfl (row_new (cs := [.int .i64 ((k : Int) + 1), .slice a5 ps.length c5]) rfl (by decide)) (by simp [Value.oneCell']) (by omega) (by omega) (by simp; omega) ?_; intro v7 w7 hown7 hb7 hgrow7)
            have hal : Below w6.heap.size w6 (w6.alloc (.cells #[.int .i64 ((k : Int) + 1), .slice a5 ps.length c5] 70)) := (Below.refl _ w6).alloc (Nat.le_refl _) _
            have hr6 := ownsRow_below HO6.out hal
            have hA7 : ChgsAt w7 (vs ++ [.slice a5 ps.length c5]) (cs ++ [ps]) := ((HA6.out.snoc HPS6.out).below hal).grow hgrow7 hr6
            have hO7 : w7.ownsRow w2.heap.size 70 2 v7 (k + 1) (chC 0 (vs ++ [.slice a5 ps.length c5])) := by rw [HSN.out]; exact hown7
            have hB7 := (HB6.out.alloc hsz _).trans hb7
            have HA7 := Lib.hid hA7
            have HO7 := Lib.hid hO7
            have HB7 := Lib.hid hB7
            clear hown7 hb7 hgrow7 hal hr6 hA7 hO7 hB7
            go_wp2_with fail
            go_roundw
            case rel => exact ⟨k + 1, T, vs ++ [.slice a5 ps.length c5], cs ++ [ps], by omega, by go_num, rfl, h4, by rw [List.length_append, HVS.out]; rfl, by rw [List.length_append, HCS.out]; rfl, HCH.out, HO7.out, HA7.out, HB7.out⟩
            case measure => simp [intOf]; omega
          · have d3 : decide ((4096 : Int) < (T.length : Int)) = true := decide_eq_true (by omega)
            have d3' : decide (4096 < T.length) = true := decide_eq_true (by omega)
            go_wp2_with fail
            go_ret2
            exact ⟨l, l', _, vs, cs, rfl, hll, hC.out, by rw [HCS.out]; omega, HF6.out, HA6.out, HB06.out⟩
        · obtain rfl : b = false := by simpa using hbt
          go_wp2_with fail
          go_ret2
          exact ⟨l, l', _, vs, cs, rfl, hll, hC.out, by rw [HCS.out]; omega, HF6.out, HA6.out, HB06.out⟩
      · have d2 : decide (12 + 10 * (k : Int) < (xs.length : Int)) = false := decide_eq_false (by omega)
        go_wp2_with fail
        go_ret2
        exact ⟨l, l', _, vs, cs, rfl, hll, hC.out, by rw [HCS.out]; omega, hfin.out, HA.out, HB0.out⟩
    · obtain rfl : k = 6 := by omega
      have d1 : decide (((6 : Nat) : Int) < 6) = false := by decide
      go_wp2_with fail
      go_ret2
      exact ⟨l, l', _, vs, cs, rfl, hll, hC.out, by rw [HCS.out]; omega, hfin.out, HA.out, HB0.out⟩
end Go.Proofs.Ytmonpnikdheokaa
