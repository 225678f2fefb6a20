/-
  Same at equal values; the walk of the law WireRound.
-/
import Derived.Test.YtplhclmmmfpgeaaRead
import Derived.Test.YtplhclmmmfpgeaaWireD
import Derived.Deep.RegionHeld3
namespace Go.Proofs.Ytplhclmmmfpgeaa
open Go Go.Proofs
open Go.RowKit
set_option linter.unusedVariables false
set_option linter.unusedSimpArgs false

theorem val_new {w W : World} {cs : List Value} {t : TypeId} (h : W = w.alloc (.cells cs.toArray t)) : (∀ j v, cs[j]? = some v → W.cell? ⟨w.heap.size, j, none⟩ = some v) ∧ Below w.heap.size w W := by
  refine ⟨fun j v hj => ?_, by rw [h]; exact (Below.refl _ w).alloc (Nat.le_refl _) _⟩
  rw [h, cell_of_row _ w.heap.size j cs.toArray t (0, 0) (heap_alloc_new w _)]
  simpa using hj
set_option maxHeartbeats 2000000 in
theorem same_any (v : ValS) (x1 y1 x2 y2 : Value) (w : World) (o o' : Nat → Nat) (h1 : ValC w o v x1 y1) (h2 : ValC w o' v x2 y2) :
    Calls Try.prog 22 #[.agg #[.int .i64 v.kind, .int .u64 v.u, .int .i64 v.n, x1, y1], .agg #[.int .i64 v.kind, .int .u64 v.u, .int .i64 v.n, x2, y2]] w fun e w' => e = .returned (.bool true) ∧ Below w.heap.size w w' := by
  obtain ⟨ba, bc, la, lc, rfl, rfl, d1, d2⟩ := h1
  obtain ⟨ba', bc', la', lc', rfl, rfl, d3, d4⟩ := h2
  obtain ⟨w1, hw1⟩ : ∃ x, x = w.alloc (.cells #[.int .i64 v.kind, .int .u64 v.u, .int .i64 v.n, .slice ba v.b.length bc, .slice la v.l.length lc] 47) := ⟨_, rfl⟩
  obtain ⟨c1, b1⟩ := val_new (cs := [.int .i64 v.kind, .int .u64 v.u, .int .i64 v.n, .slice ba v.b.length bc, .slice la v.l.length lc]) hw1
  obtain ⟨w2, hw2⟩ : ∃ x, x = w1.alloc (.cells #[.int .i64 v.kind, .int .u64 v.u, .int .i64 v.n, .slice ba' v.b.length bc', .slice la' v.l.length lc'] 47) := ⟨_, rfl⟩
  obtain ⟨c2, b2⟩ := val_new (cs := [.int .i64 v.kind, .int .u64 v.u, .int .i64 v.n, .slice ba' v.b.length bc', .slice la' v.l.length lc']) hw2
  have hz : w1.heap.size = w.heap.size + 1 := by rw [hw1]; exact World.size_alloc _ _
  rw [hz] at c2
  have e0 := Below.kept b2 (Nat.le_refl _) (c1 0 _ rfl)
  have e1 := Below.kept b2 (Nat.le_refl _) (c1 1 _ rfl)
  have e2 := Below.kept b2 (Nat.le_refl _) (c1 2 _ rfl)
  have e3 := Below.kept b2 (Nat.le_refl _) (c1 3 _ rfl)
  have e4 := Below.kept b2 (Nat.le_refl _) (c1 4 _ rfl)
  have g0 := c2 0 _ rfl
  have g1 := c2 1 _ rfl
  have g2 := c2 2 _ rfl
  have g3 := c2 3 _ rfl
  have g4 := c2 4 _ rfl
  have hb := Below.step b1 b2
  have s1 := d1.slice.below hb
  have s2 := d2.slice.below hb
  have s3 := d3.slice.below hb
  have s4 := d4.slice.below hb
  have HW1 := Lib.hid hw1
  have HW2 := Lib.hid hw2
  have S1 := Lib.hid s1
  have S2 := Lib.hid s2
  have S3 := Lib.hid s3
  have S4 := Lib.hid s4
  have q0 : ((v.kind : Int) == (v.kind : Int)) = true := by simp
  have q1 : ((v.u : Int) == (v.u : Int)) = true := by simp
  have q2 : (v.n == v.n) = true := by simp
  clear c1 c2 d1 d2 d3 d4 s1 s2 s3 s4 hw1 hw2 hz b1 b2
  go_enter Try.func22, Try.ntmps22
  go_wp2_with fail
  rw [← HW1.out, ← HW2.out]
  refine (sameBytes_any ba ba' bc bc' v.b v.b w2 S1.out S3.out).mono ?_
  rintro e w3 ⟨rfl, hb3⟩
  rw [decide_eq_true rfl]
  have e0 := Below.kept hb3 (Nat.le_refl _) e0
  have e1 := Below.kept hb3 (Nat.le_refl _) e1
  have e2 := Below.kept hb3 (Nat.le_refl _) e2
  have e4 := Below.kept hb3 (Nat.le_refl _) e4
  have g0 := Below.kept hb3 (Nat.le_refl _) g0
  have g1 := Below.kept hb3 (Nat.le_refl _) g1
  have g2 := Below.kept hb3 (Nat.le_refl _) g2
  have g4 := Below.kept hb3 (Nat.le_refl _) g4
  go_wp2_with fail
  refine (sameInts_any la la' lc lc' v.l v.l w3 (S2.out.below hb3) (S4.out.below hb3)).mono ?_
  rintro e w4 ⟨rfl, hb4⟩
  rw [decide_eq_true rfl]
  have e0 := Below.kept hb4 (Nat.le_refl _) e0
  have e1 := Below.kept hb4 (Nat.le_refl _) e1
  have e2 := Below.kept hb4 (Nat.le_refl _) e2
  have g0 := Below.kept hb4 (Nat.le_refl _) g0
  have g1 := Below.kept hb4 (Nat.le_refl _) g1
  have g2 := Below.kept hb4 (Nat.le_refl _) g2
  go_wp2_with fail
  go_ret
  exact ⟨rfl, Below.step (Below.step hb hb3) hb4⟩

theorem encVs_small (vs : List ValS) (h : ∀ v ∈ vs, v.Small) : (vs.flatMap encV).length ≤ 100 * vs.length := by
  induction vs with
  | nil => simp
  | cons v vs ih =>
    have ih := ih fun x hx => h x (by simp [hx])
    obtain ⟨ok, h1, h2, _⟩ := h v (by simp)
    have a1 := encU_len10 ok.u
    have a2 := encI_len v.n ok.n.1 ok.n.2
    have a3 := encU_len10 (n := v.b.length) (by omega)
    have a4 := encU_len10 (n := v.l.length) (by omega)
    have a5 := encIs_len v.l ok.lb
    have : (encV v).length ≤ 100 := by
      unfold encV
      split
      · omega
      split
      · omega
      split
      · rw [encU_small (by unfold boolN; split <;> omega)]; simp
      split
      · unfold encR; simp only [List.length_append]; omega
      · unfold encIs; simp only [List.length_append]; omega
    simp only [List.flatMap_cons, List.length_append, List.length_cons]
    omega

theorem VRow.cell {L : Nat → Prop} {w w' : World} {o o' : Nat → Nat} {l n c g : Nat} {vs : List ValS} (h : VRow w o l (.slice (some ⟨g, 0, none⟩) n c) vs) (hs : Step L w o w' o') (hl : ¬ L l) {j : Nat} {v : Value} (hc : w.cell? ⟨g, j, none⟩ = some v) : w'.cell? ⟨g, j, none⟩ = some v := by
  obtain ⟨ps, h1, _⟩ := h
  have hlt := World.block_lt_of_cell? w _ hc
  exact (World.cell?_of_block (w := w) (a := ⟨g, j, none⟩) (hs.block g hlt (by rw [h1.2 g rfl]; exact hl))).trans hc
theorem RdAt.drew {w : World} {o : Nat → Nat} {i b : Nat} {R : RdS} (h : RdAt w o i b R) : RdAt w.drew o i b R := h.step ((Step.refl (fun _ => False) w o).drew) (fun h => h) (fun _ _ h => h)
set_option maxRecDepth 100000 in
set_option maxHeartbeats 8000000 in
theorem wireRound_walk (a : Option Addr) (c : Nat) (xs : List Int) (u n : Int) (w : World) (hx : SliceAt w a c (xs.map intV)) (hxb : ∀ n ∈ xs, -9223372036854775808 ≤ n ∧ n ≤ 9223372036854775807) (hu : 0 ≤ u ∧ u ≤ 18446744073709551615) (hn : -9223372036854775808 ≤ n ∧ n ≤ 9223372036854775807) :
    Calls Try.prog 7 #[.slice a xs.length c, .int .u64 u, .int .i64 n] w fun e w' => e = .returned (.bool true) ∧ Below w.heap.size w w' := by
  obtain ⟨u, rfl⟩ : ∃ z : Nat, u = z := ⟨u.toNat, by omega⟩
  have HX := Lib.hid hx
  have HXB := Lib.hid hxb
  clear hx hxb
  go_enter Try.func7, Try.ntmps7
  go_wp2_with fail
  refine (vals_any a c xs 1 w (fun _ => 0) HX.out HXB.out (by omega) (fun _ _ => by omega)).mono ?_
  rintro e w1 ⟨v, o1, vs, rfl, hs1, hv1, hvl, hvo⟩
  obtain ⟨ps, hr1, hr2, hr3⟩ := hv1
  obtain ⟨va, vc, hvv⟩ := hr1.form
  subst hvv
  have HS1 := Lib.hid hs1
  have HR1 := Lib.hid hr1
  have HR2 := Lib.hid hr2
  have HR3 := Lib.hid hr3
  have HVO := Lib.hid hvo
  clear hs1 hr1 hr2 hr3 hvo
  go_wp2_with (at_builtin; refine wpList_append_row rfl (.tmp 11) (.tmp 16) 35 rfl elemV rfl HR1.out ((Below.refl _ w1).alloc (Nat.le_refl _) _) (some ⟨w1.heap.size, 0, none⟩) 2 2 [.int .i64 0, .int .u64 u, .int .i64 0, .slice none 0 0, .slice none 0 0, .int .i64 1, .int .u64 0, .int .i64 n, .slice none 0 0, .slice none 0 0] rfl (row_new (cs := [.int .i64 0, .int .u64 u, .int .i64 0, .slice none 0 0, .slice none 0 0, .int .i64 1, .int .u64 0, .int .i64 n, .slice none 0 0, .slice none 0 0]) (by simp) (by omega)) (by simp [Value.oneCell']) (by omega) (by omega) ?_)
  intro v5 w5 hrow5 hs5
  obtain ⟨us, hus⟩ : ∃ us, us = vs ++ [⟨0, u, 0, [], []⟩, ⟨1, 0, n, [], []⟩] := ⟨_, rfl⟩
  have hul : us.length = vs.length + 2 := by rw [hus]; simp
  have huo : ∀ x ∈ us, x.Small := by
    intro x hx
    rw [hus] at hx
    rcases List.mem_append.1 hx with h | h
    · exact HVO.out x h
    · simp only [List.mem_cons, List.not_mem_nil, or_false] at h
      rcases h with rfl | rfl
      · exact ⟨⟨by simp, by simp only; omega, by simp, by simp, by simp, by simp⟩, by simp, by simp, by simp, by simp, by simp, by simp, by simp⟩
      · exact ⟨⟨by simp, by simp, hn, by simp, by simp, by simp⟩, by simp, by simp, by simp, by simp, by simp, by simp, by simp⟩
  have hV5 : VRow w5 (newLab w1 o1 1) 1 v5 us := by
    refine ⟨ps ++ [(⟨0, u, 0, [], []⟩, .slice none 0 0, .slice none 0 0), (⟨1, 0, n, [], []⟩, .slice none 0 0, .slice none 0 0)], ?_, by rw [List.map_append, HR2.out, hus]; rfl, fun p hp => ?_⟩
    · rw [hul]
      have e : vcells (ps ++ [(⟨0, u, 0, [], []⟩, .slice none 0 0, .slice none 0 0), (⟨1, 0, n, [], []⟩, .slice none 0 0, .slice none 0 0)]) = vcells ps ++ [.int .i64 0, .int .u64 u, .int .i64 0, .slice none 0 0, .slice none 0 0, .int .i64 1, .int .u64 0, .int .i64 n, .slice none 0 0, .slice none 0 0] := by
        unfold vcells
        rw [List.flatMap_append]
        rfl
      rw [e]
      exact hrow5
    · rcases List.mem_append.1 hp with h | h
      · exact (HR3.out p h).step hs5 (by omega)
      · simp only [List.mem_cons, List.not_mem_nil, or_false] at h
        rcases h with rfl | rfl
        · exact ⟨none, 0, none, 0, rfl, rfl, Dat.nil byteV _ _ _, Dat.nil intV _ _ _⟩
        · exact ⟨none, 0, none, 0, rfl, rfl, Dat.nil byteV _ _ _, Dat.nil intV _ _ _⟩
  have hB5 : Below w.heap.size w w5 := ((HS1.out.mono (L' := (· = 1)) fun _ h => h.elim).trans hs5).toBelow (Nat.le_refl _) fun _ _ => by omega
  obtain ⟨ua, uc, hv5⟩ : ∃ ua uc, v5 = .slice ua us.length uc := by
    obtain ⟨ps', h1, _⟩ := hV5
    exact h1.form
  subst hv5
  have hlab5 : ∀ k, k < w.heap.size → newLab w1 o1 1 k = 0 := fun k hk => ((HS1.out.mono (L' := (· = 1)) fun _ h => h.elim).trans hs5).lab k hk
  obtain ⟨o5, ho5⟩ : ∃ o5, o5 = newLab w1 o1 1 := ⟨_, rfl⟩
  rw [← ho5] at hV5 hlab5
  have HLB := Lib.hid hlab5
  have hlen : us.length ≤ 10 := by omega
  have hbs := encVs_small us huo
  have HV5 := Lib.hid hV5
  have HUO := Lib.hid huo
  clear hlab5 hrow5 hs5 hus hul huo hV5 ho5 HR1 HR2 HR3 HVO HS1
  obtain ⟨bs, hbsd⟩ : ∃ bs, us.flatMap encV = bs := ⟨_, rfl⟩
  have henc := encode_any ua uc 1 us w5 o5 HV5.out (fun v hv => (HUO.out v hv).1) (by omega)
  rw [hbsd] at henc hbs
  have HEN := Lib.hid henc
  have HBS := Lib.hid hbsd
  clear henc hbsd
  go_wp2_with fail
  refine HEN.out.mono ?_
  rintro e w6 ⟨v6, rfl, hown6, hb6⟩
  obtain ⟨a6, c6, rfl, hs6⟩ := ownsRow_sliceMap hown6
  have hs56 : Step (fun _ => False) w5 o5 w6 o5 := Step.same hb6
  have HV6 := Lib.hid (HV5.out.step hs56 (fun h => h) (fun h => h))
  have hB6 := Below.step hB5 hb6
  have hl6 := hs6.len
  clear hown6 hb6 hs56 HV5 HEN
  go_wp2_with fail
  refine (read_any 1 a6 c6 bs w6 o5 (by omega) hs6 (by omega)).mono ?_
  rintro e w7 ⟨b, rfl, o7, hs7, hr7⟩
  have HS7 := Lib.hid hs7
  have HR7 := Lib.hid hr7
  clear hs7 hr7 hs6
  go_wp2_with fail
  go_loopw [9] (fun jv wq => ∃ (j : Nat) (o8 : Nat → Nat), j ≤ us.length ∧ jv = .int .i64 j ∧ Hid (Step (Own 1) w6 o5 wq o8) ∧ Hid (RdAt wq o8 1 b ⟨(us.drop j).flatMap encV, 0⟩)) (fun jv _ => us.length - (intOf jv).toNat)
  case atStart => exact ⟨0, o7, by omega, rfl, HS7.out, by unfold Hid; rw [List.drop_zero, HBS.out]; exact HR7.out⟩
  case round =>
    clear HS7 HR7
    obtain ⟨j, o8, hj, rfl, HS8, HR8⟩ := hrel
    have HV8 := Lib.hid (HV6.out.step HS8.out (Own.not0 (by omega)) (by unfold Own; omega))
    by_cases hlt : j < us.length
    · have d1 : decide ((j : Int) < (us.length : Int)) = true := decide_eq_true (by omega)
      have d1' : decide (j < us.length) = true := decide_eq_true hlt
      obtain ⟨v, hv⟩ : ∃ v, us[j]? = some v := ⟨us[j], List.getElem?_eq_getElem hlt⟩
      obtain ⟨g, x, y, rfl, -, hnc, e0, e1, e2, e3, e4, hvc⟩ := HV8.out.at hv
      have hvs := HUO.out v (List.mem_of_getElem? hv)
      have hdr : us.drop j = v :: us.drop (j + 1) := by
        rw [List.drop_eq_getElem_cons hlt]
        rw [List.getElem?_eq_getElem hlt] at hv
        rw [Option.some.inj hv]
      have hrl : ((us.drop j).flatMap encV).length ≤ 1000 := by
        have h1 := encVs_small (us.drop j) fun x hx => HUO.out x (List.mem_of_mem_drop hx)
        rw [List.length_drop] at h1
        omega
      have hre := readV_enc hvs ((us.drop (j + 1)).flatMap encV)
      rw [hdr, List.flatMap_cons] at HR8 hrl
      have hlr := lread_any 1 b v.kind _ wr.drew o8 (by omega) HR8.out.drew (Nat.le_trans hrl (by omega)) hvs.1.k
      rw [hre] at hlr
      obtain ⟨S, hS⟩ : ∃ S : World → Prop, S = fun W => W.cell? ⟨g, j * 5, none⟩ = some (.int .i64 v.kind) ∧ W.cell? ⟨g, j * 5 + 1, none⟩ = some (.int .u64 v.u) ∧ W.cell? ⟨g, j * 5 + 2, none⟩ = some (.int .i64 v.n) ∧ W.cell? ⟨g, j * 5 + 3, none⟩ = some x ∧ W.cell? ⟨g, j * 5 + 4, none⟩ = some y := ⟨_, rfl⟩
      have hS0 : S wr.drew := by rw [hS]; exact ⟨e0, e1, e2, e3, e4⟩
      have hSb : ∀ W W', S W → Below W.heap.size W W' → S W' := by
        intro W W' h hb
        rw [hS] at h ⊢
        obtain ⟨a0, a1, a2, a3, a4⟩ := h
        exact ⟨Below.kept hb (Nat.le_refl _) a0, Below.kept hb (Nat.le_refl _) a1, Below.kept hb (Nat.le_refl _) a2, Below.kept hb (Nat.le_refl _) a3, Below.kept hb (Nat.le_refl _) a4⟩
      have KR : Hid (Calls Try.prog 23 #[.pointer (some ⟨b, 0, none⟩), .int .i64 v.kind] wr.drew fun e w' => ∃ x' y' o9, e = .returned (.agg #[.int .i64 v.kind, .int .u64 v.u, .int .i64 v.n, x', y']) ∧ Hid (Step (Own 1) wr o8 w' o9) ∧ Hid (RdAt w' o9 1 b ⟨(us.drop (j + 1)).flatMap encV, 0⟩) ∧ Hid (ValC w' o9 v x' y') ∧ Hid (ValC w' o9 v x y) ∧ S w') := by
        refine hlr.mono ?_
        rintro e w' ⟨x', y', rfl, o9, h1, h2, h3⟩
        have h4 : Step (Own 1) wr o8 w' o9 := ((Step.refl (fun _ => False) wr o8).drew.mono fun _ h => h.elim).trans h1
        have hl1 : ¬ Own 1 1 := by unfold Own; omega
        exact ⟨x', y', o9, rfl, h4, h2, h3, hvc.step h4 (Own.not0 (by omega)), by rw [hS]; exact ⟨HV8.out.cell h4 hl1 e0, HV8.out.cell h4 hl1 e1, HV8.out.cell h4 hl1 e2, HV8.out.cell h4 hl1 e3, HV8.out.cell h4 hl1 e4⟩⟩
      have KS : Hid (∀ W o9 x' y', S W → Hid (ValC W o9 v x' y') → Hid (ValC W o9 v x y) → Calls Try.prog 22 #[.agg #[.int .i64 v.kind, .int .u64 v.u, .int .i64 v.n, x', y'], .agg #[.int .i64 v.kind, .int .u64 v.u, .int .i64 v.n, x, y]] W fun e w' => e = .returned (.bool true) ∧ S w' ∧ Hid (Below W.heap.size W w')) :=
        fun W o9 x' y' hW h1 h2 => (same_any v x' y' x y W o9 o9 h1.out h2.out).mono fun e w' ⟨h3, h4⟩ => ⟨h3, hSb _ _ hW h4, h4⟩
      have HS0 := Lib.hid hS0
      obtain ⟨xa, xc, ya, yc, rfl, rfl, -⟩ := hvc
      clear hlr hre hrl hdr hv hvs hSb hS0
      subst hS
      go_wp2_with fail
      go_region_held3 (fun W => W.cell? ⟨g, j * 5, none⟩ = some (.int .i64 v.kind) ∧ W.cell? ⟨g, j * 5 + 1, none⟩ = some (.int .u64 v.u) ∧ W.cell? ⟨g, j * 5 + 2, none⟩ = some (.int .i64 v.n) ∧ W.cell? ⟨g, j * 5 + 3, none⟩ = some (.slice xa v.b.length xc) ∧ W.cell? ⟨g, j * 5 + 4, none⟩ = some (.slice ya v.l.length yc)) (first | assumption | exact HS0.out)
        (first | (go_at_call 23; (with_reducible refine KR.out.mono ?_); rintro e w9 ⟨x', y', o9, rfl, HS9, HR9, HV9, HX9, hbb⟩) | (go_at_call 22; (with_reducible refine (KS.out _ _ _ _ (by assumption) HV9 HX9).mono ?_); rintro e w10 ⟨rfl, hbb, HB10⟩))
      have HS10 := Lib.hid ((HS8.out.trans HS9.out).trans (Step.same (L := Own 1) (o := o9) HB10.out))
      have HR10 := Lib.hid (HR9.out.step (Step.same (L := fun _ => False) (o := o9) HB10.out) (fun h => h) (fun _ _ h => h))
      go_wp2
      go_roundw
      case rel => first | exact ⟨j + 1, o9, by omega, by go_num, HS10.out, HR10.out⟩ | ((repeat apply Exists.intro); refine ⟨?_, rfl⟩; exact ⟨j + 1, o9, by omega, by go_num, HS10.out, HR10.out⟩)
      case measure => simp [intOf]; omega
    · obtain rfl : j = us.length := by omega
      have hB8 : Below w.heap.size w wr := hB6.trans (HS8.out.toBelow (n := w.heap.size) hB6.size fun k hk => by rw [HLB.out k hk]; exact Own.not0 (by omega))
      rw [List.drop_length] at HR8
      have KE := Lib.hid (rend_any 1 b ⟨[], 0⟩ wr o8 HR8.out)
      clear HS8 HR8 HV8
      go_wp2_with fail
      refine KE.out.mono ?_
      rintro e w9 ⟨rfl, rfl⟩
      rw [show endR ⟨[], 0⟩ = 0 from rfl]
      go_wp2_with fail
      refine (lives_any wr).mono ?_
      rintro e w9 ⟨rfl, hb9⟩
      go_wp2_with fail
      go_ret
      exact ⟨rfl, Below.step hB8 hb9⟩
end Go.Proofs.Ytplhclmmmfpgeaa
