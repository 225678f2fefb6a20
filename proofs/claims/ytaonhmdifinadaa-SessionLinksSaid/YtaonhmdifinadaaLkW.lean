/-
  The law SessionLinks.
-/
import Derived.Test.YtaonhmdifinadaaLkN
import Derived.Test.YtaonhmdifinadaaChanH
import Derived.Test.YtaonhmdifinadaaSesI
import Derived.Test.YtaonhmdifinadaaSesK0
import Derived.Test.YtaonhmdifinadaaPik
import Derived.Test.YtaonhmdifinadaaHas
import Derived.StillTailTactics
import Derived.Deep.DeepCutAuto
import Derived.Deep.CutBlock
import Derived.Deep.RegionHeld3
namespace Go.Proofs.Ytaonhmdifinadaa
open Go Go.Proofs
open Go.RowKit
set_option linter.unusedVariables false
set_option linter.unusedSimpArgs false

theorem OpsL.idAt {w : World} {o : Nat → Nat} {lo g n c : Nat} {ops : List OpM} (h : OpsL w o lo (.slice (some ⟨g, 0, none⟩) n c) ops) {i : Nat} {m : OpM} (hi : ops[i]? = some m) : w.cell? ⟨g, i * 10 + 1, none⟩ = some (.int .i64 m.r.id) := by
  obtain ⟨g', c', he, -, -, -, hc⟩ := h.cells hi
  simp only [Value.slice.injEq, Option.some.injEq, Addr.mk.injEq] at he
  obtain ⟨⟨rfl, -⟩, -⟩ := he
  exact hc 1 _ rfl

set_option maxRecDepth 100000 in
set_option maxHeartbeats 16000000 in
theorem sessionLinks_walk (a : Option Addr) (cap : Nat) (xs : List Int) (window : Int) (a2 : Option Addr) (cap2 : Nat) (ys : List Int) (w : World) (hx : SliceAt w a cap (xs.map intV)) (hb : ∀ n ∈ xs, -9223372036854775808 ≤ n ∧ n ≤ 9223372036854775807)
    (hwi : -9223372036854775808 ≤ window ∧ window ≤ 9223372036854775807) (hy : SliceAt w a2 cap2 (ys.map intV)) (hc : ∀ n ∈ ys, -9223372036854775808 ≤ n ∧ n ≤ 9223372036854775807) :
    Calls Try.prog 10 #[.slice a xs.length cap, .int .i64 window, .slice a2 ys.length cap2] w fun e w' => e = .returned (.bool true) ∧ Below w.heap.size w w' := by
  obtain ⟨hw1, hw2⟩ := hwi
  have hxl := hx.len
  have hyl := hy.len
  simp only [List.length_map] at hxl hyl
  have HX := Lib.hid hx
  have HB := Lib.hid hb
  have HY := Lib.hid hy
  have HC := Lib.hid hc
  have l1 := aroundI_lo window 16 (by omega)
  have u1 := aroundI_hi window 16 (by omega)
  have l2 := aroundI_lo (window.tdiv 16) 16 (by omega)
  have u2 := aroundI_hi (window.tdiv 16) 16 (by omega)
  have KP := Lib.hid fun (W : World) (hW : Below w.heap.size w W) (i m : Int) (h1 : 1 ≤ m) (h2 : m ≤ 9223372036854775807) (hi : 0 ≤ i) (hi2 : i ≤ 1000000) => pick_b a2 cap2 ys i m W (HY.out.below hW) HC.out h1 h2 hi hi2
  clear hx hb hy hc
  go_enter Try.func10, Try.ntmps10
  go_wp2_with fail
  refine (around_any window 16 _ (by omega) (by omega) hw1 hw2).mono ?_
  rintro e w1 ⟨rfl, rfl⟩
  go_wp2_with fail
  refine (new_win window 1 w (fun _ => 0) (by omega)).mono ?_
  rintro e w1 ⟨b1, rfl, o1, hs1, hA1⟩
  have HS1 := Lib.hid hs1
  have HA1 := Lib.hid hA1
  clear hs1 hA1
  go_wp2_with fail
  refine (around_any (window.tdiv 16) 16 _ (by omega) (by omega) (tdiv_in window 16 (by omega) hw1 hw2).1 (tdiv_in window 16 (by omega) hw1 hw2).2).mono ?_
  rintro e w2 ⟨rfl, rfl⟩
  go_wp2_with fail
  refine (new_win (window.tdiv 16) 2 w1 o1 (by omega)).mono ?_
  rintro e w2 ⟨b2, rfl, o2, hs2, hA2⟩
  have hW1 := winN_lo window
  have hW2 := winN_hi window
  have hV1 := winN_lo (window.tdiv 16)
  have hV2 := winN_hi (window.tdiv 16)
  generalize winN window = W0 at *
  generalize winN (window.tdiv 16) = W9 at *
  have HT2 := Lib.hid (Two.made HS1.out HA1.out hs2 hA2)
  clear hs2 hA2 HS1 HA1
  go_wp2_with fail
  refine (snew_any 5 w2 o2).mono ?_
  rintro e w3 ⟨sb, rfl, o3, hs3, hS3⟩
  have HT3 := Lib.hid (HT2.out.step hs3 fun l hl h => h)
  have HS3 := Lib.hid hS3
  clear hs3 hS3 HT2
  go_wp2_with fail
  have hd3 : Dat w3 o3 0 a cap (xs.map intV) := Dat.step ⟨HX.out, fun _ _ _ _ => rfl⟩ HT3.out.since (fun h => h rfl)
  refine (ops_any a cap xs 31 w3 o3 hd3 HB.out (by decide)).mono ?_
  rintro e w4 ⟨v, o4, ops, rfl, hs4, hops, hlen⟩
  have HT4 := Lib.hid (HT3.out.step hs4 fun l hl h => by omega)
  have HS4 := Lib.hid (HS3.out.step hs4 fun l hl => by unfold Own at hl; omega)
  obtain ⟨ra, rc, rfl⟩ := hops.1.form
  have hle := hops.1.recAt.2.le
  have hcl := hops.1.recAt.2.cap_le
  obtain ⟨n, hn⟩ : ∃ n, ops.length = n := ⟨_, rfl⟩
  have hn30 : n ≤ 30 := by omega
  rw [hn] at hops hle ⊢
  have HN := Lib.hid hn
  have HO4 := Lib.hid hops
  clear hd3 hs4 hops hlen hn HT3 HS3
  go_wp2_with fail
  obtain ⟨w5, hw5⟩ : ∃ x, x = w4.alloc (.cells #[.string ⟨#[97]⟩, .int .i64 1, .string ⟨#[98]⟩, .int .i64 1] 34) := ⟨_, rfl⟩
  rw [← hw5]
  obtain ⟨o5, ho5⟩ : ∃ x, newLab w4 o4 0 = x := ⟨_, rfl⟩
  have hs5 : Step (fun _ => False) w4 o4 w5 o5 := by rw [hw5, ← ho5]; exact Step.newBlk _ _ _
  have hx5 : RecD vnC 2 w5 o5 0 (some ⟨w4.heap.size, 0, none⟩) 2 [⟨⟨#[97]⟩, 1⟩, ⟨⟨#[98]⟩, 1⟩] := by
    rw [hw5, ← ho5]
    exact ⟨rec_new (f := vnC) (z := 2) vnZ (w := w4) (xs := [⟨⟨#[97]⟩, 1⟩, ⟨⟨#[98]⟩, 1⟩]) (e := 34) (by simp), fun _ b off h => by simp at h; obtain ⟨rfl, rfl⟩ := h; exact ⟨newLab_new _ _ _ (Nat.le_refl _), by simp⟩⟩
  obtain ⟨VL, hVL⟩ : ∃ l : List Vn, l = [⟨⟨#[97]⟩, 1⟩, ⟨⟨#[98]⟩, 1⟩] := ⟨_, rfl⟩
  have hvl : VL.length = 2 := by rw [hVL]; rfl
  rw [← hVL] at hx5
  obtain ⟨vb, hvb⟩ : ∃ g, w4.heap.size = g := ⟨_, rfl⟩
  rw [hvb] at hx5 ⊢
  have hKW : KW w w5 o5 b1 b2 sb (newE W0) (newE W9) newS [] [] (.slice none 0 0) (.slice none 0 0) (some ⟨vb, 0, none⟩) 2 VL :=
    ⟨HT4.out.step hs5 fun _ _ h => h, HS4.out.step hs5 fun _ _ h => h, hx5, RowL.nil _ _ _ _ _, RowL.nil _ _ _ _ _⟩
  have HKW := Lib.hid hKW
  have HO5 := Lib.hid (HO4.out.step hs5 (fun h => h) fun h => h)
  have HVL := Lib.hid hvl
  clear hw5 ho5 hs5 hx5 hVL hvl hvb hKW HT4 HS4 HO4
  -- THE REQUESTS
  go_loopw [14, 16] (fun bv iv wr => ∃ (k : Nat) (o : Nat → Nat) (A : EndS) (M : List (List UInt8)) (bs : List Int), k ≤ n ∧ iv = .int .i64 k ∧ Hid (LSI k W0 W9 A M bs) ∧ Hid (KW w wr o b1 b2 sb A (newE W9) newS bs [] bv (.slice none 0 0) (some ⟨vb, 0, none⟩) 2 VL) ∧ Hid (OpsL wr o 31 (.slice ra n rc) ops)) (fun _ iv _ => n - (intOf iv).toNat)
  case atStart => exact ⟨0, o5, newE W0, [], [], by omega, rfl, LSI.new W0 W9, HKW.out, HO5.out⟩
  case round =>
    clear HKW HO5
    obtain ⟨k, o, A, M, bs, hk, rfl, HI, HM, HO⟩ := hrel
    obtain ⟨ba, bc, rfl⟩ := HM.out.bg.form
    have hbl := HI.out.bl
    have hbcl := HM.out.bg.slice.le
    have hbcm := HM.out.bg.slice.max
    rw [List.length_map] at hbcl
    obtain ⟨nb, hnb⟩ : ∃ nb, bs.length = nb := ⟨_, rfl⟩
    rw [hnb] at hbl hbcl HM ⊢
    have HNB := Lib.hid hnb
    clear hnb
    by_cases hkn : k < n
    · as_aux_lemma =>
      have d1 : decide ((k : Int) < (n : Int)) = true := decide_eq_true (by omega)
      have d1' : decide (k < n) = true := decide_eq_true hkn
      obtain ⟨m, hm⟩ : ∃ m, ops[k]? = some m := ⟨ops[k]'(by rw [HN.out]; exact hkn), List.getElem?_eq_getElem _⟩
      obtain ⟨g, oc, hsl, hgc, hgm, hop, hcells⟩ := HO.out.cells hm
      rw [HN.out] at hgc
      simp only [Value.slice.injEq] at hsl
      obtain ⟨rfl, -, rfl⟩ := hsl
      obtain ⟨kd, ⟨ri, rk, rd, rv, rof, rt⟩, nn, ee, oa, oc2, ol⟩ := m
      have c0 := hcells 0 _ rfl
      have c1 := hcells 1 _ rfl
      have c2 := hcells 2 _ rfl
      have c3 := hcells 3 _ rfl
      have c4 := hcells 4 _ rfl
      have c5 := hcells 5 _ rfl
      have c6 := hcells 6 _ rfl
      simp only [Nat.add_zero] at c0
      obtain ⟨hob, hol⟩ := hop
      have hod := hob.d
      have hot := hob.t
      simp only at c0 c1 c2 c3 c4 c5 c6 hod hot
      have HMM := Lib.hid hm
      clear hm hcells hob hol
      by_cases hk0 : kd = 0
      · subst hk0
        go_wp2_with fail
        refine (of_any ⟨ri, rk, rd, rv, rof, rt⟩ wr).mono ?_
        rintro e w6 ⟨rfl, hb6⟩
        have HM6 := Lib.hid (HM.out.same hb6)
        have HO6 := Lib.hid (HO.out.step (Step.same (L := fun _ => False) hb6) (fun h => h) fun h => h)
        have k6 := enq_any ⟨ri, rk, rd, rv, rof, rt⟩ w6 (by show rd.size ≤ _; omega) (by show rt.size ≤ _; omega)
        clear hb6 HM HO c0 c1 c2 c3 c4 c5 c6
        by_cases hok : okR ⟨ri, rk, rd, rv, rof, rt⟩ = true
        · have hz : errOf (okR ⟨ri, rk, rd, rv, rof, rt⟩) = 0 := by rw [hok]; rfl
          have he : codeRq ⟨ri, rk, rd, rv, rof, rt⟩ = encRq ⟨ri, rk, rd, rv, rof, rt⟩ := if_pos hok
          have hse := HI.out.err (by omega) hok
          have hi1 := HI.out.old (by omega) hok
          have hi2 := HI.out.more (by omega) hok
          have hri := (okR_iff.1 hok).1
          obtain ⟨E, hE⟩ : ∃ E, encRq ⟨ri, rk, rd, rv, rof, rt⟩ = E := ⟨_, rfl⟩
          rw [hz, he, hE] at k6
          rw [hE] at hse hi1 hi2
          simp only at hri hi1 hi2
          have K6 := Lib.hid k6
          have HSE := Lib.hid hse
          have HI1 := Lib.hid hi1
          have HI2 := Lib.hid hi2
          clear hz he hse hi1 hi2 hE hok k6
          go_wp2_with fail
          refine K6.out.mono ?_
          rintro e w7 ⟨v7, rfl, hown7, hb7⟩
          obtain ⟨a7, k7, rfl, hsl7⟩ := ownsRow_sliceMap hown7
          have HM7 := Lib.hid (HM6.out.same hb7)
          have HO7 := Lib.hid (HO6.out.step (Step.same (L := fun _ => False) hb7) (fun h => h) fun h => h)
          have HSL7 := Lib.hid hsl7
          have hsl7l := hsl7.le
          have hsl7m := hsl7.max
          rw [List.length_map] at hsl7l
          obtain ⟨el, hel⟩ : ∃ l, E.length = l := ⟨_, rfl⟩
          rw [hel] at hsl7l ⊢
          have k8 : Calls Try.prog 56 #[.pointer (some ⟨b1, 0, none⟩), .slice a7 E.length k7] w7 fun e w' => e = .returned (.int .i64 (sendErr A E)) ∧ ∃ o', Step (fun x => 10 ≤ x ∧ x < 30) w7 o w' o' ∧ Two w w' o' (pr b1 b2) (upd (pr A (newE W9)) 0 (sendE A E)) :=
            send_t HM7.out.two (k := 0) (n := 1000) (by decide) (HI.out.fit (by omega) hW1 hW2) HSL7.out
          rw [HSE.out, hel] at k8
          have K8 := Lib.hid k8
          clear hown7 hb7 hsl7 K6 HM6 HO6 k8 hel
          go_wp2_with fail
          refine K8.out.mono ?_
          rintro e w8 ⟨rfl, o8, hs8, hT8⟩
          have HM8 := Lib.hid (HM7.out.setA (l := 32) (hs8.mono fun l h => .inl h) (by omega) hT8)
          have HO8 := Lib.hid (HO7.out.step hs8 (by omega) (by omega))
          have c1 := HO8.out.idAt HMM.out
          simp only at c1
          have hb := HM8.out.bg.slice
          have K9 := hasI_any ba bc bs ri w8 hb
          rw [HNB.out] at K9
          have K9 := Lib.hid K9
          have hr0 : (0 : Int) < ri := by omega
          clear hs8 hT8 K8 HM7 HO7 HSL7 hb
          go_wp2_with fail
          refine K9.out.mono ?_
          rintro e w9 ⟨rfl, rfl⟩
          by_cases hin : ri ∈ bs
          · have hd : decide (ri ∈ bs) = true := decide_eq_true hin
            have HI3 := Lib.hid (HI1.out hin)
            rw [hd]
            clear hin hd c1 HI1 HI2 K9
            go_wp2_with fail
            go_roundw
            case rel => exact ⟨k + 1, o8, _, _, _, by omega, by go_num, HI3.out, HM8.out, HO8.out⟩
            case measure => simp [intOf]; omega
          · have hd : decide (ri ∈ bs) = false := decide_eq_false hin
            have hrow := HM8.out.bg
            rw [HNB.out] at hrow
            have HROW := Lib.hid hrow
            rw [hd]
            have c1a := fun ob => Below.kept ((Below.refl _ w8).alloc (Nat.le_refl _) ob) (Nat.le_refl _) c1
            clear hin hd HI1 K9 hrow
            go_wp2_with (at_builtin; refine wpList_append_row rfl (.tmp 130) (.tmp 137) 22 rfl elemI rfl HROW.out ((Below.refl _ w8).alloc (Nat.le_refl _) _) (some ⟨w8.heap.size, 0, none⟩) 1 1 [.int .i64 ri] rfl (row_new (cs := [.int .i64 ri]) (by rfl) (by omega)) (by simp [Value.oneCell']) (by omega) (by omega) ?_)
            intro v10 w10 hrow10 hs10
            obtain ⟨a10, k10, rfl⟩ := hrow10.form
            have HM10 : Hid (KW w w10 _ b1 b2 sb (sendE A E) (newE W9) newS (bs ++ [ri]) [] (.slice a10 (nb + 1) k10) (.slice none 0 0) (some ⟨vb, 0, none⟩) 2 VL) := HM8.out.setBg hs10 (by rw [List.length_append, HNB.out, List.map_append]; exact hrow10)
            have HO10 := Lib.hid (HO8.out.step hs10 (by omega) (by omega))
            clear hrow10 hs10 c1 c1a
            go_wp2_with fail
            go_roundw
            case rel => exact ⟨k + 1, _, _, _, _, by omega, by go_num, HI2.out, HM10.out, HO10.out⟩
            case measure => simp [intOf]; omega
        · have hz : errOf (okR ⟨ri, rk, rd, rv, rof, rt⟩) = 1 := if_neg hok
          rw [hz] at k6
          have K6 := Lib.hid k6
          have HI2 := Lib.hid HI.out.skip
          clear hz hok k6 HI
          go_wp2_with fail
          refine K6.out.mono ?_
          rintro e w7 ⟨v7, rfl, hown7, hb7⟩
          have HM7 := Lib.hid (HM6.out.same hb7)
          have HO7 := Lib.hid (HO6.out.step (Step.same (L := fun _ => False) hb7) (fun h => h) fun h => h)
          clear hown7 hb7 K6 HM6 HO6
          go_wp2_with fail
          go_roundw
          case rel => exact ⟨k + 1, o, A, M, bs, by omega, by go_num, HI2.out, HM7.out, HO7.out⟩
          case measure => simp [intOf]; omega
      · have hk0' : (kd == 0) = false := by simp [hk0]
        have HI2 := Lib.hid HI.out.skip
        clear c1 c2 c3 c4 c5 c6 HI
        go_wp2_with fail
        go_roundw
        case rel => exact ⟨k + 1, o, A, M, bs, by omega, by go_num, HI2.out, HM.out, HO.out⟩
        case measure => simp [intOf]; omega
    · as_aux_lemma =>
      have hkn2 : k = n := by omega
      have d1 : decide ((k : Int) < (n : Int)) = false := decide_eq_false (by omega)
      have d1' : decide (k < n) = false := decide_eq_false hkn
      -- THE ROUNDS
      have HRI := Lib.hid (LRI.start HI.out (by omega))
      have hnb30 : nb ≤ 30 := by omega
      clear HI HO hkn hkn2
      go_wp2_with fail
      have HM0 := HM
      clear HM
      obtain ⟨wL, rfl⟩ : ∃ w', w' = wr := ⟨_, rfl⟩
      go_loopw [15, 19, 20, 21] (fun gv lv tv iv wr => ∃ (r : Nat) (o : Nat → Nat) (A B : EndS) (U : List An) (S : SesS) (t : Nat), r ≤ 40 + 3 * nb ∧ iv = .int .i64 r ∧ lv = .int .i64 (lastG U A.got) ∧ tv = .int .i64 t ∧ Hid (LRI M bs r W0 W9 A B U S t) ∧ Hid (KW w wr o b1 b2 sb (A) (B) (S) bs (idsA (U.take A.got)) (.slice ba nb bc) (gv) (some ⟨vb, 0, none⟩) 2 VL)) (fun _ _ _ iv _ => 40 + 3 * nb - (intOf iv).toNat)
      case atStart => exact ⟨0, o, A, newE W9, [], newS, 0, by omega, rfl, by rw [lastG_nil], rfl, HRI.out, by rw [List.take_nil]; exact HM0.out⟩
      case round =>
        clear HRI HM0
        obtain ⟨r, o, A, B, U, S, t, hr, rfl, rfl, rfl, HI, HM⟩ := hrel
        have ht := (HI.out.rr.ls.ul HI.out.bl).2.1
        have hgul := HI.out.gul
        have hU30 := (HI.out.rr.ls.ul HI.out.bl).1
        obtain ⟨ag, hag⟩ : ∃ g, A.got = g := ⟨_, rfl⟩
        obtain ⟨lg, hlg⟩ : ∃ g, lastG U A.got = g := ⟨_, rfl⟩
        obtain ⟨G, hG⟩ : ∃ g, idsA (U.take A.got) = g := ⟨_, rfl⟩
        have hgl := ids_len U A.got hgul
        rw [hG, hag] at hgl
        rw [hG] at HM
        rw [hag] at hgul
        obtain ⟨ga, gc, rfl⟩ := HM.out.gt.form
        have hgcl := HM.out.gt.slice.le
        have hgcm := HM.out.gt.slice.max
        rw [List.length_map, hgl] at hgcl
        rw [hgl] at HM
        rw [hlg]
        rw [hgl]
        have HAG := Lib.hid hag
        have HLG := Lib.hid hlg
        have HG := Lib.hid hG
        have HGL := Lib.hid hgl
        clear hag hlg hG hgl
        have iw1 : IntKind.i64.wrap (3 * (nb : Int)) = 3 * (nb : Int) := IntWalk.i64_in _ (by omega)
        have iw2 : IntKind.i64.wrap (40 + 3 * (nb : Int)) = 40 + 3 * (nb : Int) := IntWalk.i64_in _ (by omega)
        by_cases hrn : r < 40 + 3 * nb
        · as_aux_lemma =>
          have d2 : decide ((r : Int) < 40 + 3 * (nb : Int)) = true := decide_eq_true (by omega)
          have ko : Calls Try.prog 57 #[.pointer (some ⟨b1, 0, none⟩)] wr fun e w' => ∃ v, e = .returned v ∧ ∃ o', Step (fun x => 10 ≤ x ∧ x < 30 ∨ x = 32) wr o w' o' ∧ Two w w' o' (pr b1 b2) (upd (pr A B) 0 (outE A)) ∧ PRow w' o' (fun _ => 0) 32 v (outP A) :=
            out_t HM.out.two (k := 0) (n := 10000) 32 (fun _ => 0) (by decide) (HI.out.fitA hW1 hW2 (by omega)) (by decide) (by decide) (fun _ => .inl rfl) (fun _ => by decide)
          have KO := Lib.hid ko
          clear ko
          go_wp2_with fail
          refine KO.out.mono ?_
          rintro e w1 ⟨v1, rfl, o1, hs1, hT1, hP1⟩
          have HM1 : Hid (KW w w1 o1 b1 b2 sb (outE A) (B) (S) bs (G) (.slice ba nb bc) (.slice ga ag gc) (some ⟨vb, 0, none⟩) 2 VL) := HM.out.setA hs1 (by omega) hT1
          obtain ⟨pa, pc, rfl, hpc, hpcm, -⟩ := hP1.cells
          have hpl := outP_len (E := A) (by rw [HI.out.wa]; exact hW2)
          obtain ⟨P, hP⟩ : ∃ P, outP A = P := ⟨_, rfl⟩
          rw [hP] at hP1 hpc hpl ⊢
          obtain ⟨N, hN⟩ : ∃ N, P.length = N := ⟨_, rfl⟩
          rw [hN] at hP1 hpc hpl ⊢
          have HP := Lib.hid hP
          have HNN := Lib.hid hN
          have HPR := Lib.hid hP1
          clear hs1 hT1 hP1 hP hN KO HM
          go_wp2_with fail
          go_loopw [20, 23] (fun tv jv wr => ∃ (j : Nat) (o : Nat → Nat) (B' : EndS) (S' : SesS) (t' : Nat), j ≤ N ∧ jv = .int .i64 j ∧ tv = .int .i64 t' ∧ Hid (LPI M bs r W9 A B U S t j B' S' t') ∧ Hid (KW w wr o b1 b2 sb (outE A) (B') (S') bs (G) (.slice ba nb bc) (.slice ga ag gc) (some ⟨vb, 0, none⟩) 2 VL) ∧ Hid (PRow wr o (fun _ => 0) 32 (.slice pa N pc) P)) (fun _ jv _ => N - (intOf jv).toNat)
          case atStart => exact ⟨0, o1, B, S, t, by omega, rfl, rfl, HI.out.pi, HM1.out, HPR.out⟩
          case round =>
            clear HM1 HPR
            obtain ⟨j, o, B', S', t', hj, rfl, rfl, HJ, HM, HPR⟩ := hrel
            have ht' := (HJ.out.ls.ul HI.out.bl).2.1
            by_cases hjN : j < N
            · as_aux_lemma =>
              have dj : decide ((j : Int) < (N : Int)) = true := decide_eq_true (by omega)
              have dj' : decide (j < N) = true := decide_eq_true hjN
              by_cases h10 : r < 10
              · have u10 : decide ((r : Int) < 10) = true := decide_eq_true (by omega)
                have u10' : decide (r < 10) = true := decide_eq_true h10
                have iw3 : IntKind.i64.wrap ((r : Int) + (j : Int)) = (r : Int) + (j : Int) := IntWalk.i64_in _ (by omega)
                have hbw := Lib.hid HM.out.below
                go_wp2_with fail
                refine (KP.out wr hbw.out ((r : Int) + (j : Int)) 3 (by decide) (by decide) (by omega) (by omega)).mono ?_
                rintro e w2 ⟨z, hz, rfl, rfl⟩
                by_cases hz0 : z = 0
                · have dz : ((z : Int) == 0) = true := by simp; omega
                  have HJ2 := Lib.hid (HJ.out.skip h10)
                  clear hz0 HJ
                  go_wp2_with fail
                  go_roundw
                  case rel => exact ⟨j + 1, o, B', S', t', by omega, by go_num, rfl, HJ2.out, HM.out, HPR.out⟩
                  case measure => simp [intOf]; omega
                · have dz : ((z : Int) == 0) = false := by simp; omega
                  clear hz0
                  go_wp2_with fail
                  have hq : P[j]? = some (P[j]'(by rw [HNN.out]; exact hjN)) := List.getElem?_eq_getElem _
                  obtain ⟨q, hqq⟩ : ∃ q, P[j]'(by rw [HNN.out]; exact hjN) = q := ⟨_, rfl⟩
                  rw [hqq] at hq
                  obtain ⟨pg, ma, mc, rfl, -, hNc, y0, y1, y2, hdat⟩ := HPR.out.at hq
                  have hq0 := hq
                  rw [← HP.out] at hq0
                  obtain ⟨hpn, hgot, hgle, hmsg⟩ := LPI.next HI.out HJ.out hW1 hq0
                  have ki : Calls Try.prog 58 #[.pointer (some ⟨b2, 0, none⟩), .agg #[.int .i64 q.seq, .int .i64 q.ack, .slice ma q.b.length mc]] wr fun e w' => ∃ v, e = .returned v ∧ ∃ o', Step (fun x => 10 ≤ x ∧ x < 30 ∨ x = 33) wr o w' o' ∧ Two w w' o' (pr b1 b2) (upd (pr (outE A) B') 1 (inE B' q)) ∧ MRow w' o' 33 v (inO B' q) :=
                    in_t HM.out.two (k := 1) (n := 10000) q 0 33 (by decide) (LPI.fit HI.out HJ.out hV1 hV2 (by omega) (by omega)) (by decide) hdat (.inl rfl) (by decide) (by decide)
                  have KI := Lib.hid ki
                  have HPN := Lib.hid hpn
                  have HMSG := Lib.hid hmsg
                  have r0 : (j : Int) < (N : Int) := by omega
                  have r1 : (0 : Int) ≤ (j : Int) := by omega
                  clear hq hqq hdat ki hq0 hmsg hpn HJ
                  go_wp2_with fail
                  go_simp
                  go_wp2_with fail
                  refine KI.out.mono ?_
                  rintro e w2 ⟨v2, rfl, o2, hs2, hT2, hX2⟩
                  have HM2 : Hid (KW w w2 o2 b1 b2 sb (outE A) (inE B' q) (S') bs (G) (.slice ba nb bc) (.slice ga ag gc) (some ⟨vb, 0, none⟩) 2 VL) := HM.out.setB hs2 (by omega) hT2
                  have HP2 := Lib.hid (PRow.step HPR.out hs2 (by omega) fun _ _ h => by omega)
                  obtain ⟨X, hX⟩ : ∃ X, inO B' q = X := ⟨_, rfl⟩
                  rw [hX] at hX2 hgot HMSG
                  obtain ⟨xa, xc, rfl, hx1, hx2, -⟩ := hX2.cells
                  obtain ⟨xl, hxl⟩ : ∃ xl, X.length = xl := ⟨_, rfl⟩
                  rw [hxl] at hx1 hX2 hgot ⊢
                  have HX2 := Lib.hid hX2
                  have HXL := Lib.hid hxl
                  have hxs : xl ≤ 30 := by have := HI.out.ml; omega
                  obtain ⟨B2, hB2⟩ : ∃ B2, inE B' q = B2 := ⟨_, rfl⟩
                  rw [hB2] at HM2 HPN hgot hgle
                  clear hs2 hT2 hX2 hxl hX hgot hgle KI HM HPR y0 y1 y2 r0 r1 hB2
                  go_wp2_with fail
                  go_loopw [20, 25] (fun tv kv wr => ∃ (k : Nat) (o : Nat → Nat) (S2 : SesS) (t2 : Nat), k ≤ xl ∧ kv = .int .i64 k ∧ tv = .int .i64 t2 ∧ Hid (LPI M bs r W9 A B U S t (j + 1) B2 S2 t2) ∧ Hid (KW w wr o b1 b2 sb (outE A) (B2) (S2) bs (G) (.slice ba nb bc) (.slice ga ag gc) (some ⟨vb, 0, none⟩) 2 VL) ∧ Hid (MRow wr o 33 (.slice xa xl xc) X) ∧ Hid (PRow wr o (fun _ => 0) 32 (.slice (some ⟨pg, 0, none⟩) N pc) P)) (fun _ kv _ => xl - (intOf kv).toNat)
                  case atStart => exact ⟨0, o2, S', t', by omega, rfl, rfl, HPN.out, HM2.out, HX2.out, HP2.out⟩
                  case round =>
                    clear HM2 HX2 HP2 HPN
                    obtain ⟨k, o, S2, t2, hk, rfl, rfl, HJ, HM, HX, HPR⟩ := hrel
                    have ht2 := (HJ.out.ls.ul HI.out.bl).2.1
                    by_cases hkx : k < xl
                    · as_aux_lemma =>
                      have dr : decide ((k : Int) < (xl : Int)) = true := decide_eq_true (by omega)
                      have dr' : decide (k < xl) = true := decide_eq_true hkx
                      have hxm : X[k]? = some (X[k]'(by rw [HXL.out]; exact hkx)) := List.getElem?_eq_getElem _
                      obtain ⟨mm, hmm⟩ : ∃ m, X[k]'(by rw [HXL.out]; exact hkx) = m := ⟨_, rfl⟩
                      rw [hmm] at hxm
                      obtain ⟨rq, hok, hme, hib, hne⟩ := HMSG.out k mm hxm
                      obtain ⟨xg, xma, xmc, rfl, -, -, z0, hxd⟩ := HX.out.at hxm
                      have hml : mm.length ≤ 65536 := by rw [hme]; exact enc_rq_len hok
                      have kd := deq_any xma xmc mm wr hxd.slice (by omega)
                      have f1 : decOk mm = true := by rw [hme]; exact (dec_rq hok).1
                      have f2 : decRq mm = rq := by rw [hme]; exact (dec_rq hok).2
                      rw [f1, f2, show decE true = 0 from rfl] at kd
                      have hbg := HJ.out.beg hib hne
                      have hrs := okR_iff.1 hok
                      obtain ⟨xi, xk, xd, xv, xo, xt⟩ := rq
                      simp only at kd hrs hbg
                      have KD := Lib.hid kd
                      have HBG := Lib.hid hbg
                      obtain ⟨ml, hmle⟩ : ∃ l, mm.length = l := ⟨_, rfl⟩
                      rw [hmle] at KD z0
                      have hxds : xd.size ≤ 9223372036854775807 := by omega
                      have hxts : xt.size ≤ 9223372036854775807 := by omega
                      have r2 : (k : Int) < (xl : Int) := by omega
                      have r3 : (0 : Int) ≤ (k : Int) := by omega
                      clear hxm hmm hme hxd hib hne hok hml hmle kd f1 f2 hrs hbg
                      go_wp2_with fail
                      refine KD.out.mono ?_
                      rintro e w3 ⟨rfl, hb3⟩
                      have HM3 := Lib.hid (HM.out.same hb3)
                      have HX3 := Lib.hid (MRow.step HX.out (Step.same (L := fun _ => False) hb3) (fun h => h) (fun h => h))
                      have HP3 := Lib.hid (PRow.step HPR.out (Step.same (L := fun _ => False) hb3) (fun h => h) fun _ _ h => h)
                      obtain ⟨w4, hw4⟩ : ∃ x, x = w3.alloc (.cells #[.int .i64 xi, .int .i64 xk, .string xd, .int .i64 xv, .int .i64 xo, .string xt] 44) := ⟨_, rfl⟩
                      have hb4 : Below w3.heap.size w3 w4 := by rw [hw4]; exact (Below.refl _ w3).alloc (Nat.le_refl _) _
                      have HM4 := Lib.hid (HM3.out.same hb4)
                      have HX4 := Lib.hid (MRow.step HX3.out (Step.same (L := fun _ => False) hb4) (fun h => h) (fun h => h))
                      have HP4 := Lib.hid (PRow.step HP3.out (Step.same (L := fun _ => False) hb4) (fun h => h) fun _ _ h => h)
                      have HW4 := Lib.hid hw4
                      have KB := Lib.hid (begin_any 5 sb S2 ⟨xi, xk, xd, xv, xo, xt⟩ w4 o (by decide) HM4.out.s HJ.out.ls.good hxds hxts)
                      obtain ⟨Eb, hEb⟩ : ∃ e, begE S2 ⟨xi, xk, xd, xv, xo, xt⟩ = e := ⟨_, rfl⟩
                      obtain ⟨S3, hS3⟩ : ∃ s, begS S2 ⟨xi, xk, xd, xv, xo, xt⟩ = s := ⟨_, rfl⟩
                      rw [hEb, hS3] at KB HBG
                      clear hb3 hw4 hb4 hEb hS3 HM3 HX3 HP3 HM HX HPR KD z0 HJ r2 r3
                      go_wp2_with fail
                      rw [← HW4.out]
                      refine KB.out.mono ?_
                      rintro e w5 ⟨rfl, o5, hs5, hS5⟩
                      have HM5 := Lib.hid (HM4.out.setS hs5 hS5)
                      have HX5 := Lib.hid (MRow.step HX4.out hs5 (by unfold Own; omega) (by unfold Own; omega))
                      have HP5 := Lib.hid (PRow.step HP4.out hs5 (by unfold Own; omega) fun _ _ => by unfold Own; omega)
                      clear hs5 hS5 KB HM4 HX4 HP4 HW4
                      by_cases hE : Eb = 0
                      · have dE : (Eb == 0) = true := by simp [hE]
                        have HB2 := HBG.out
                        rw [if_pos hE] at HB2
                        have HB2 := Lib.hid HB2
                        clear hE HBG
                        go_wp2_with fail
                        go_roundw
                        case rel => exact ⟨k + 1, o5, S3, t2 + 1, by omega, by go_num, by go_num, HB2.out, HM5.out, HX5.out, HP5.out⟩
                        case measure => simp [intOf]; omega
                      · have dE : (Eb == 0) = false := by simp [hE]
                        have HB2 := HBG.out
                        rw [if_neg hE] at HB2
                        have HB2 := Lib.hid HB2
                        clear hE HBG
                        go_wp2_with fail
                        go_roundw
                        case rel => exact ⟨k + 1, o5, S3, t2, by omega, by go_num, rfl, HB2.out, HM5.out, HX5.out, HP5.out⟩
                        case measure => simp [intOf]; omega
                    · as_aux_lemma =>
                      have dr : decide ((k : Int) < (xl : Int)) = false := decide_eq_false (by omega)
                      have dr' : decide (k < xl) = false := decide_eq_false hkx
                      clear HX
                      go_wp2_with fail
                      go_roundw
                      case rel => exact ⟨j + 1, o, B2, S2, t2, by omega, by go_num, rfl, HJ.out, HM.out, HPR.out⟩
                      case measure => simp [intOf]; omega
              · have u10 : decide ((r : Int) < 10) = false := decide_eq_false (by omega)
                have u10' : decide (r < 10) = false := decide_eq_false h10
                go_wp2_with fail
                have hq : P[j]? = some (P[j]'(by rw [HNN.out]; exact hjN)) := List.getElem?_eq_getElem _
                obtain ⟨q, hqq⟩ : ∃ q, P[j]'(by rw [HNN.out]; exact hjN) = q := ⟨_, rfl⟩
                rw [hqq] at hq
                obtain ⟨pg, ma, mc, rfl, -, hNc, y0, y1, y2, hdat⟩ := HPR.out.at hq
                have hq0 := hq
                rw [← HP.out] at hq0
                obtain ⟨hpn, hgot, hgle, hmsg⟩ := LPI.next HI.out HJ.out hW1 hq0
                have ki : Calls Try.prog 58 #[.pointer (some ⟨b2, 0, none⟩), .agg #[.int .i64 q.seq, .int .i64 q.ack, .slice ma q.b.length mc]] wr fun e w' => ∃ v, e = .returned v ∧ ∃ o', Step (fun x => 10 ≤ x ∧ x < 30 ∨ x = 33) wr o w' o' ∧ Two w w' o' (pr b1 b2) (upd (pr (outE A) B') 1 (inE B' q)) ∧ MRow w' o' 33 v (inO B' q) :=
                  in_t HM.out.two (k := 1) (n := 10000) q 0 33 (by decide) (LPI.fit HI.out HJ.out hV1 hV2 (by omega) (by omega)) (by decide) hdat (.inl rfl) (by decide) (by decide)
                have KI := Lib.hid ki
                have HPN := Lib.hid hpn
                have HMSG := Lib.hid hmsg
                have r0 : (j : Int) < (N : Int) := by omega
                have r1 : (0 : Int) ≤ (j : Int) := by omega
                clear hq hqq hdat ki hq0 hmsg hpn HJ
                go_wp2_with fail
                go_simp
                go_wp2_with fail
                refine KI.out.mono ?_
                rintro e w2 ⟨v2, rfl, o2, hs2, hT2, hX2⟩
                have HM2 : Hid (KW w w2 o2 b1 b2 sb (outE A) (inE B' q) (S') bs (G) (.slice ba nb bc) (.slice ga ag gc) (some ⟨vb, 0, none⟩) 2 VL) := HM.out.setB hs2 (by omega) hT2
                have HP2 := Lib.hid (PRow.step HPR.out hs2 (by omega) fun _ _ h => by omega)
                obtain ⟨X, hX⟩ : ∃ X, inO B' q = X := ⟨_, rfl⟩
                rw [hX] at hX2 hgot HMSG
                obtain ⟨xa, xc, rfl, hx1, hx2, -⟩ := hX2.cells
                obtain ⟨xl, hxl⟩ : ∃ xl, X.length = xl := ⟨_, rfl⟩
                rw [hxl] at hx1 hX2 hgot ⊢
                have HX2 := Lib.hid hX2
                have HXL := Lib.hid hxl
                have hxs : xl ≤ 30 := by have := HI.out.ml; omega
                obtain ⟨B2, hB2⟩ : ∃ B2, inE B' q = B2 := ⟨_, rfl⟩
                rw [hB2] at HM2 HPN hgot hgle
                clear hs2 hT2 hX2 hxl hX hgot hgle KI HM HPR y0 y1 y2 r0 r1 hB2
                go_wp2_with fail
                go_loopw [20, 25] (fun tv kv wr => ∃ (k : Nat) (o : Nat → Nat) (S2 : SesS) (t2 : Nat), k ≤ xl ∧ kv = .int .i64 k ∧ tv = .int .i64 t2 ∧ Hid (LPI M bs r W9 A B U S t (j + 1) B2 S2 t2) ∧ Hid (KW w wr o b1 b2 sb (outE A) (B2) (S2) bs (G) (.slice ba nb bc) (.slice ga ag gc) (some ⟨vb, 0, none⟩) 2 VL) ∧ Hid (MRow wr o 33 (.slice xa xl xc) X) ∧ Hid (PRow wr o (fun _ => 0) 32 (.slice (some ⟨pg, 0, none⟩) N pc) P)) (fun _ kv _ => xl - (intOf kv).toNat)
                case atStart => exact ⟨0, o2, S', t', by omega, rfl, rfl, HPN.out, HM2.out, HX2.out, HP2.out⟩
                case round =>
                  clear HM2 HX2 HP2 HPN
                  obtain ⟨k, o, S2, t2, hk, rfl, rfl, HJ, HM, HX, HPR⟩ := hrel
                  have ht2 := (HJ.out.ls.ul HI.out.bl).2.1
                  by_cases hkx : k < xl
                  · as_aux_lemma =>
                    have dr : decide ((k : Int) < (xl : Int)) = true := decide_eq_true (by omega)
                    have dr' : decide (k < xl) = true := decide_eq_true hkx
                    have hxm : X[k]? = some (X[k]'(by rw [HXL.out]; exact hkx)) := List.getElem?_eq_getElem _
                    obtain ⟨mm, hmm⟩ : ∃ m, X[k]'(by rw [HXL.out]; exact hkx) = m := ⟨_, rfl⟩
                    rw [hmm] at hxm
                    obtain ⟨rq, hok, hme, hib, hne⟩ := HMSG.out k mm hxm
                    obtain ⟨xg, xma, xmc, rfl, -, -, z0, hxd⟩ := HX.out.at hxm
                    have hml : mm.length ≤ 65536 := by rw [hme]; exact enc_rq_len hok
                    have kd := deq_any xma xmc mm wr hxd.slice (by omega)
                    have f1 : decOk mm = true := by rw [hme]; exact (dec_rq hok).1
                    have f2 : decRq mm = rq := by rw [hme]; exact (dec_rq hok).2
                    rw [f1, f2, show decE true = 0 from rfl] at kd
                    have hbg := HJ.out.beg hib hne
                    have hrs := okR_iff.1 hok
                    obtain ⟨xi, xk, xd, xv, xo, xt⟩ := rq
                    simp only at kd hrs hbg
                    have KD := Lib.hid kd
                    have HBG := Lib.hid hbg
                    obtain ⟨ml, hmle⟩ : ∃ l, mm.length = l := ⟨_, rfl⟩
                    rw [hmle] at KD z0
                    have hxds : xd.size ≤ 9223372036854775807 := by omega
                    have hxts : xt.size ≤ 9223372036854775807 := by omega
                    have r2 : (k : Int) < (xl : Int) := by omega
                    have r3 : (0 : Int) ≤ (k : Int) := by omega
                    clear hxm hmm hme hxd hib hne hok hml hmle kd f1 f2 hrs hbg
                    go_wp2_with fail
                    refine KD.out.mono ?_
                    rintro e w3 ⟨rfl, hb3⟩
                    have HM3 := Lib.hid (HM.out.same hb3)
                    have HX3 := Lib.hid (MRow.step HX.out (Step.same (L := fun _ => False) hb3) (fun h => h) (fun h => h))
                    have HP3 := Lib.hid (PRow.step HPR.out (Step.same (L := fun _ => False) hb3) (fun h => h) fun _ _ h => h)
                    obtain ⟨w4, hw4⟩ : ∃ x, x = w3.alloc (.cells #[.int .i64 xi, .int .i64 xk, .string xd, .int .i64 xv, .int .i64 xo, .string xt] 44) := ⟨_, rfl⟩
                    have hb4 : Below w3.heap.size w3 w4 := by rw [hw4]; exact (Below.refl _ w3).alloc (Nat.le_refl _) _
                    have HM4 := Lib.hid (HM3.out.same hb4)
                    have HX4 := Lib.hid (MRow.step HX3.out (Step.same (L := fun _ => False) hb4) (fun h => h) (fun h => h))
                    have HP4 := Lib.hid (PRow.step HP3.out (Step.same (L := fun _ => False) hb4) (fun h => h) fun _ _ h => h)
                    have HW4 := Lib.hid hw4
                    have KB := Lib.hid (begin_any 5 sb S2 ⟨xi, xk, xd, xv, xo, xt⟩ w4 o (by decide) HM4.out.s HJ.out.ls.good hxds hxts)
                    obtain ⟨Eb, hEb⟩ : ∃ e, begE S2 ⟨xi, xk, xd, xv, xo, xt⟩ = e := ⟨_, rfl⟩
                    obtain ⟨S3, hS3⟩ : ∃ s, begS S2 ⟨xi, xk, xd, xv, xo, xt⟩ = s := ⟨_, rfl⟩
                    rw [hEb, hS3] at KB HBG
                    clear hb3 hw4 hb4 hEb hS3 HM3 HX3 HP3 HM HX HPR KD z0 HJ r2 r3
                    go_wp2_with fail
                    rw [← HW4.out]
                    refine KB.out.mono ?_
                    rintro e w5 ⟨rfl, o5, hs5, hS5⟩
                    have HM5 := Lib.hid (HM4.out.setS hs5 hS5)
                    have HX5 := Lib.hid (MRow.step HX4.out hs5 (by unfold Own; omega) (by unfold Own; omega))
                    have HP5 := Lib.hid (PRow.step HP4.out hs5 (by unfold Own; omega) fun _ _ => by unfold Own; omega)
                    clear hs5 hS5 KB HM4 HX4 HP4 HW4
                    by_cases hE : Eb = 0
                    · have dE : (Eb == 0) = true := by simp [hE]
                      have HB2 := HBG.out
                      rw [if_pos hE] at HB2
                      have HB2 := Lib.hid HB2
                      clear hE HBG
                      go_wp2_with fail
                      go_roundw
                      case rel => exact ⟨k + 1, o5, S3, t2 + 1, by omega, by go_num, by go_num, HB2.out, HM5.out, HX5.out, HP5.out⟩
                      case measure => simp [intOf]; omega
                    · have dE : (Eb == 0) = false := by simp [hE]
                      have HB2 := HBG.out
                      rw [if_neg hE] at HB2
                      have HB2 := Lib.hid HB2
                      clear hE HBG
                      go_wp2_with fail
                      go_roundw
                      case rel => exact ⟨k + 1, o5, S3, t2, by omega, by go_num, rfl, HB2.out, HM5.out, HX5.out, HP5.out⟩
                      case measure => simp [intOf]; omega
                  · as_aux_lemma =>
                    have dr : decide ((k : Int) < (xl : Int)) = false := decide_eq_false (by omega)
                    have dr' : decide (k < xl) = false := decide_eq_false hkx
                    clear HX
                    go_wp2_with fail
                    go_roundw
                    case rel => exact ⟨j + 1, o, B2, S2, t2, by omega, by go_num, rfl, HJ.out, HM.out, HPR.out⟩
                    case measure => simp [intOf]; omega
            · as_aux_lemma =>
              have hjN2 : j = N := by omega
              have dj : decide ((j : Int) < (N : Int)) = false := decide_eq_false (by omega)
              have dj' : decide (j < N) = false := decide_eq_false hjN
              have HJ2 : Hid (LPI M bs r W9 A B U S t (outP A).length B' S' t') := by
                have := HJ.out
                rw [hjN2, ← HNN.out, ← HP.out] at this
                exact this
              clear hjN hjN2 HJ HPR
              have HLS := Lib.hid HJ2.out.ls
              obtain ⟨-, -, hsq⟩ := HLS.out.ul HI.out.bl
              obtain ⟨m1, m2, m3⟩ := HLS.out.mid VL (tx := ⟨#[116]⟩) (by decide)
              have kx := next_any 5 sb 0 S' (some ⟨vb, 0, none⟩) 2 VL wr o (by decide) HM.out.s (by omega) (by rw [HLS.out.an]; simp) HM.out.vs (by unfold Own; omega)
              rw [HVL.out] at kx
              obtain ⟨S2, hS2⟩ : ∃ s, midS S' VL ⟨#[116]⟩ = s := ⟨_, rfl⟩
              rw [hS2] at m1 m2
              have hu30 := (m1.ul HI.out.bl).1
              have hpl2 := outP_len (E := A) (by rw [HI.out.wa]; exact hW2)
              have HLS2 := Lib.hid m1
              clear m1 m3
              rcases mid_eq HLS.out.run HLS.out.an VL ⟨#[116]⟩ with ⟨Pq, e1, -, e3, e4⟩ | ⟨Pq, rr, Dq, e1, -, -, e3, e4, e5⟩
              · have hmn : midS S' VL ⟨#[116]⟩ = nextS S' VL := by unfold midS; rw [e3]
                rw [e3, ← hmn, hS2] at kx
                simp only [Option.getD_none, Option.isSome_none] at kx
                have KX := Lib.hid kx
                have HS2 := Lib.hid hS2
                clear kx hmn e1 e3 e4 hS2
                go_wp2_with fail
                refine KX.out.mono ?_
                rintro e w3 ⟨⟨rn, -, rfl⟩, o3, hs3, hS3⟩
                have HM3 := Lib.hid (HM.out.setS hs3 hS3)
                obtain ⟨w4, hw4⟩ : ∃ x, x = w3.alloc (.cells #[.int .i64 rn.id, .int .i64 rn.kind, .string rn.doc, .int .i64 rn.ver, .int .i64 rn.off, .string rn.txt] 44) := ⟨_, rfl⟩
                have hb4 : Below w3.heap.size w3 w4 := by rw [hw4]; exact (Below.refl _ w3).alloc (Nat.le_refl _) _
                have HM4 := Lib.hid (HM3.out.same hb4)
                have HW4 := Lib.hid hw4
                have KWT := Lib.hid (swaiting_any 5 sb S2 w4 o3 HM4.out.s (by omega))
                clear hs3 hS3 hw4 hb4 HM3 KX HM
                go_wp2_with fail
                rw [← HW4.out]
                refine KWT.out.mono ?_
                rintro e w5 ⟨v5, rfl, hown5, hb5⟩
                have HM5 := Lib.hid (HM4.out.same hb5)
                clear hown5 hb5 KWT HM4 HW4
                go_wp2_with fail
                refine (answers_any 5 sb S2 w5 o3 (by decide) HM5.out.s).mono ?_
                rintro e w6 ⟨v6, rfl, hs6, hS6, hrow6⟩
                have HM6 : Hid (KW w w6 o3 b1 b2 sb (outE A) (B') (clrS S2) bs (G) (.slice ba nb bc) (.slice ga ag gc) (some ⟨vb, 0, none⟩) 2 VL) := HM5.out.setS hs6 hS6
                obtain ⟨aa, ac, rfl⟩ := hrow6.form
                obtain ⟨-, hra⟩ := hrow6.recAt
                have hacl := hra.le
                have hacm := hra.cap_le
                obtain ⟨an, han⟩ : ∃ n, S2.an.length = n := ⟨_, rfl⟩
                rw [han] at hacl hrow6 ⊢
                have han30 : an ≤ 30 := by have := hu30; rw [List.length_append, han] at this; omega
                have HAN := Lib.hid han
                have HR6 := Lib.hid hrow6
                have HAI : Hid (LAI M A B' U S2.an 0 B') := LAI.start HJ2.out
                clear hs6 hS6 hrow6 hra han HM5
                go_wp2_with fail
                go_loopw [32] (fun kv wr => ∃ (k : Nat) (o : Nat → Nat) (B2 : EndS), k ≤ an ∧ kv = .int .i64 k ∧ Hid (LAI M A B' U S2.an k B2) ∧ Hid (KW w wr o b1 b2 sb (outE A) (B2) (clrS S2) bs (G) (.slice ba nb bc) (.slice ga ag gc) (some ⟨vb, 0, none⟩) 2 VL) ∧ Hid (RowA wr o 52 (.slice aa an ac) S2.an)) (fun kv _ => an - (intOf kv).toNat)
                case atStart => exact ⟨0, o3, B', by omega, rfl, HAI.out, HM6.out, HR6.out⟩
                case round =>
                  clear HM6 HR6 HAI
                  obtain ⟨k, o, B2, hk, rfl, HA, HM, HR⟩ := hrel
                  by_cases hka : k < an
                  · as_aux_lemma =>
                    have dk : decide ((k : Int) < (an : Int)) = true := decide_eq_true (by omega)
                    have dk' : decide (k < an) = true := decide_eq_true hka
                    have hx : S2.an[k]? = some (S2.an[k]'(by rw [HAN.out]; exact hka)) := List.getElem?_eq_getElem _
                    obtain ⟨x, hxx⟩ : ∃ x, S2.an[k]'(by rw [HAN.out]; exact hka) = x := ⟨_, rfl⟩
                    rw [hxx] at hx
                    obtain ⟨g2, c2, hsl, hog, hgl2⟩ := HR.out.own (by rw [HAN.out]; omega)
                    simp only [Value.slice.injEq] at hsl
                    obtain ⟨rfl, -, rfl⟩ := hsl
                    obtain ⟨-, hrec⟩ := HR.out.recAt
                    obtain ⟨c0, c1, c2, c3⟩ := Ans.cells hrec hx
                    simp only [Nat.zero_add] at c0 c1 c2 c3
                    have hob := HLS2.out.ok x (List.mem_append_right _ (List.mem_of_getElem? hx))
                    obtain ⟨hse, hai⟩ := LAI.send HA.out hx hob hu30
                    have hoa := okB_okA hob
                    have hsz : x.txt.size ≤ 1 := hob.2.2.2.2.2
                    have ke := ena_any x wr (by omega)
                    rw [show errOf (okA x) = 0 from by rw [hoa]; rfl, show codeAn x = encAn x from if_pos hoa] at ke
                    obtain ⟨E, hE⟩ : ∃ E, encAn x = E := ⟨_, rfl⟩
                    rw [hE] at ke hse hai
                    obtain ⟨xi, xe, xv, xt⟩ := x
                    simp only at ke c0 c1 c2 c3
                    have KE := Lib.hid ke
                    have HSE := Lib.hid hse
                    have HAI := Lib.hid hai
                    have r0 : (k : Int) < (an : Int) := by omega
                    have r1 : (0 : Int) ≤ (k : Int) := by omega
                    clear hx hxx hog hgl2 hrec hob hoa hsz hse hai ke hE
                    go_wp2_with fail
                    refine KE.out.mono ?_
                    rintro e w7 ⟨v7, rfl, hown7, hb7⟩
                    obtain ⟨a7, k7, rfl, hsl7⟩ := ownsRow_sliceMap hown7
                    have HM7 := Lib.hid (HM.out.same hb7)
                    have HR7 := Lib.hid (HR.out.step (Step.same (L := fun _ => False) hb7) fun h => h)
                    have hsl7l := hsl7.le
                    have hsl7m := hsl7.max
                    rw [List.length_map] at hsl7l
                    have ks : Calls Try.prog 56 #[.pointer (some ⟨b2, 0, none⟩), .slice a7 E.length k7] w7 fun e w' => e = .returned (.int .i64 (sendErr B2 E)) ∧ ∃ o', Step (fun x => 10 ≤ x ∧ x < 30) w7 o w' o' ∧ Two w w' o' (pr b1 b2) (upd (pr (outE A) B2) 1 (sendE B2 E)) :=
                      send_t HM7.out.two (k := 1) (n := 10000) (by decide) (LAI.fit HA.out HJ2.out hu30 hV1 hV2 (by omega) hpl2) hsl7
                    rw [HSE.out] at ks
                    obtain ⟨el, hel⟩ : ∃ l, E.length = l := ⟨_, rfl⟩
                    rw [hel] at hsl7l ks ⊢
                    have KS := Lib.hid ks
                    clear hown7 hb7 hsl7 ks hel KE HM HR HA c0 c1 c2 c3
                    go_wp2_with fail
                    refine KS.out.mono ?_
                    rintro e w8 ⟨rfl, o8, hs8, hT8⟩
                    have HM8 : Hid (KW w w8 o8 b1 b2 sb (outE A) (sendE B2 E) (clrS S2) bs (G) (.slice ba nb bc) (.slice ga ag gc) (some ⟨vb, 0, none⟩) 2 VL) := HM7.out.setB (l := 32) (hs8.mono fun l h => .inl h) (by omega) hT8
                    have HR8 := Lib.hid (HR7.out.step hs8 (by omega))
                    clear hs8 hT8 KS HM7 HR7
                    go_wp2_with fail
                    go_roundw
                    case rel => exact ⟨k + 1, o8, _, by omega, by go_num, HAI.out, HM8.out, HR8.out⟩
                    case measure => simp [intOf]; omega
                  · as_aux_lemma =>
                    have hka2 : k = an := by omega
                    have dk : decide ((k : Int) < (an : Int)) = false := decide_eq_false (by omega)
                    have dk' : decide (k < an) = false := decide_eq_false hka
                    have ha2 := HA.out
                    rw [hka2, ← HAN.out] at ha2
                    have HA2 := Lib.hid ha2
                    have ko : Calls Try.prog 57 #[.pointer (some ⟨b2, 0, none⟩)] wr fun e w' => ∃ v, e = .returned v ∧ ∃ o', Step (fun x => 10 ≤ x ∧ x < 30 ∨ x = 34) wr o w' o' ∧ Two w w' o' (pr b1 b2) (upd (pr (outE A) B2) 1 (outE B2)) ∧ PRow w' o' (fun _ => 0) 34 v (outP B2) :=
                      out_t HM.out.two (k := 1) (n := 10000) 34 (fun _ => 0) (by decide) (LAI.fit HA.out HJ2.out hu30 hV1 hV2 (by omega) hpl2) (by decide) (by decide) (fun _ => .inl rfl) (fun _ => by decide)
                    have KO := Lib.hid ko
                    clear ko ha2 hka hka2 HA HR
                    go_wp2_with fail
                    refine KO.out.mono ?_
                    rintro e w9 ⟨v9, rfl, o9, hs9, hT9, hQ9⟩
                    have HM9 : Hid (KW w w9 o9 b1 b2 sb (outE A) (outE B2) (clrS S2) bs (G) (.slice ba nb bc) (.slice ga ag gc) (some ⟨vb, 0, none⟩) 2 VL) := HM.out.setB hs9 (by omega) hT9
                    obtain ⟨qa, qc, rfl, hqc, hqcm, -⟩ := hQ9.cells
                    have hbw : B2.window = W9 := by rw [HA2.out.keep.1]; exact HJ2.out.wb
                    have hql := outP_len (E := B2) (by rw [hbw]; exact hV2)
                    obtain ⟨Q, hQ⟩ : ∃ Q, outP B2 = Q := ⟨_, rfl⟩
                    rw [hQ] at hQ9 hqc hql ⊢
                    obtain ⟨NQ, hNQ⟩ : ∃ n, Q.length = n := ⟨_, rfl⟩
                    rw [hNQ] at hQ9 hqc hql ⊢
                    have HQ := Lib.hid hQ
                    have HNQ := Lib.hid hNQ
                    have HQ9 := Lib.hid hQ9
                    have HBW := Lib.hid hbw
                    obtain ⟨U2, hU2⟩ : ∃ u, U ++ S2.an = u := ⟨_, rfl⟩
                    have hch := HA2.out.all
                    have hqs := LQI.start HI.out hch
                    have hlg : lg = lastG U2 (outE A).got := by
                      show lg = lastG U2 A.got
                      rw [← hU2, lastG_app _ HI.out.gul, HLG.out]
                    have hG2 : G = idsA (U2.take (outE A).got) := by
                      show G = idsA (U2.take A.got)
                      rw [← hU2, takeG_app _ HI.out.gul, HG.out]
                    rw [hU2] at hch hqs HLS2 hu30
                    rw [hG2] at HM9
                    have HCH := Lib.hid hch
                    have HQS := Lib.hid hqs
                    have HU2 := Lib.hid hU2
                    have HLG2 := Lib.hid hlg
                    clear hs9 hT9 hQ9 hQ hNQ hch hqs hlg hG2 hU2 KO HM hbw
                    go_wp2_with fail
                    go_loopw [15, 19, 36] (fun gv lv jv wr => ∃ (j : Nat) (o : Nat → Nat) (A2 : EndS), j ≤ NQ ∧ jv = .int .i64 j ∧ lv = .int .i64 (lastG U2 A2.got) ∧ Hid (LQI M r W0 A B2 U2 j A2) ∧ Hid (KW w wr o b1 b2 sb (A2) (outE B2) (clrS S2) bs (idsA (U2.take A2.got)) (.slice ba nb bc) (gv) (some ⟨vb, 0, none⟩) 2 VL) ∧ Hid (PRow wr o (fun _ => 0) 34 (.slice qa NQ qc) Q)) (fun _ _ jv _ => NQ - (intOf jv).toNat)
                    case atStart => exact ⟨0, o9, outE A, by omega, rfl, by rw [← HLG2.out], HQS.out, HM9.out, HQ9.out⟩
                    case round =>
                      clear HM9 HQ9 HQS HLG2
                      obtain ⟨j, o, A2, hj, rfl, rfl, HQI, HM, HQR⟩ := hrel
                      by_cases hjQ : j < NQ
                      · as_aux_lemma =>
                        have dj : decide ((j : Int) < (NQ : Int)) = true := decide_eq_true (by omega)
                        have dj' : decide (j < NQ) = true := decide_eq_true hjQ
                        have hq : Q[j]? = some (Q[j]'(by rw [HNQ.out]; exact hjQ)) := List.getElem?_eq_getElem _
                        obtain ⟨q, hqq⟩ : ∃ q, Q[j]'(by rw [HNQ.out]; exact hjQ) = q := ⟨_, rfl⟩
                        rw [hqq] at hq
                        obtain ⟨qg, ma, mc, rfl, -, hNc, y0, y1, y2, hdat⟩ := HQR.out.at hq
                        have hq0 := hq
                        rw [← HQ.out] at hq0
                        obtain ⟨hqn, hgot, hgle, hmsg⟩ := LQI.next HCH.out HQI.out (by rw [HBW.out]; exact hV1) hq0
                        have ki : Calls Try.prog 58 #[.pointer (some ⟨b1, 0, none⟩), .agg #[.int .i64 q.seq, .int .i64 q.ack, .slice ma q.b.length mc]] wr fun e w' => ∃ v, e = .returned v ∧ ∃ o', Step (fun x => 10 ≤ x ∧ x < 30 ∨ x = 35) wr o w' o' ∧ Two w w' o' (pr b1 b2) (upd (pr A2 (outE B2)) 0 (inE A2 q)) ∧ MRow w' o' 35 v (inO A2 q) :=
                          in_t HM.out.two (k := 0) (n := 10000) q 0 35 (by decide) (HQI.out.fit HI.out.ml hW1 hW2 (by omega) (by omega)) (by decide) hdat (.inl rfl) (by decide) (by decide)
                        have KI := Lib.hid ki
                        have HQN := Lib.hid hqn
                        have HMSG := Lib.hid hmsg
                        obtain ⟨lg2, hlg2⟩ : ∃ l, lastG U2 A2.got = l := ⟨_, rfl⟩
                        have HLG2 := Lib.hid hlg2
                        rw [hlg2]
                        have r0 : (j : Int) < (NQ : Int) := by omega
                        have r1 : (0 : Int) ≤ (j : Int) := by omega
                        clear hq hqq hdat ki hq0 hmsg hqn HQI hlg2
                        go_wp2_with fail
                        go_simp
                        go_wp2_with fail
                        refine KI.out.mono ?_
                        rintro e w2 ⟨v2, rfl, o2, hs2, hT2, hX2⟩
                        have HM2 : Hid (KW w w2 o2 b1 b2 sb (inE A2 q) (outE B2) (clrS S2) bs (idsA (U2.take A2.got)) (.slice ba nb bc) (u15) (some ⟨vb, 0, none⟩) 2 VL) := HM.out.setA hs2 (by omega) hT2
                        have HQ2 := Lib.hid (PRow.step HQR.out hs2 (by omega) fun _ _ h => by omega)
                        obtain ⟨X, hX⟩ : ∃ X, inO A2 q = X := ⟨_, rfl⟩
                        rw [hX] at hX2 hgot HMSG
                        obtain ⟨xa, xc, rfl, hx1, hx2, -⟩ := hX2.cells
                        obtain ⟨xl, hxl⟩ : ∃ xl, X.length = xl := ⟨_, rfl⟩
                        rw [hxl] at hx1 hX2 hgot ⊢
                        have HX2 := Lib.hid hX2
                        have HXL := Lib.hid hxl
                        obtain ⟨A3, hA3⟩ : ∃ E, inE A2 q = E := ⟨_, rfl⟩
                        obtain ⟨g1, hg1⟩ : ∃ g, A2.got = g := ⟨_, rfl⟩
                        rw [hA3] at HM2 HQN hgot hgle
                        rw [hg1] at HM2 hgot HMSG HLG2
                        have hxs : xl ≤ 30 := by omega
                        have hg30 : g1 + xl ≤ 30 := by omega
                        have HGOT := Lib.hid hgot
                        clear hs2 hT2 hX2 hxl hX hgot hgle KI HM HQR y0 y1 y2 r0 r1 hA3 hg1
                        go_wp2_with fail
                        go_loopw [15, 19, 38] (fun gv lv kv wr => ∃ (k : Nat) (o : Nat → Nat), k ≤ xl ∧ kv = .int .i64 k ∧ lv = .int .i64 (lastG U2 (g1 + k)) ∧ Hid (KW w wr o b1 b2 sb (A3) (outE B2) (clrS S2) bs (idsA (U2.take (g1 + k))) (.slice ba nb bc) (gv) (some ⟨vb, 0, none⟩) 2 VL) ∧ Hid (MRow wr o 35 (.slice xa xl xc) X) ∧ Hid (PRow wr o (fun _ => 0) 34 (.slice (some ⟨qg, 0, none⟩) NQ qc) Q)) (fun _ _ kv _ => xl - (intOf kv).toNat)
                        case atStart => exact ⟨0, o2, by omega, rfl, by rw [Nat.add_zero, HLG2.out], HM2.out, HX2.out, HQ2.out⟩
                        case round =>
                          clear HM2 HX2 HQ2 HLG2
                          obtain ⟨k, o, hk, rfl, rfl, HM, HX, HQR⟩ := hrel
                          by_cases hkx : k < xl
                          · as_aux_lemma =>
                            have dr : decide ((k : Int) < (xl : Int)) = true := decide_eq_true (by omega)
                            have dr' : decide (k < xl) = true := decide_eq_true hkx
                            have hxm : X[k]? = some (X[k]'(by rw [HXL.out]; exact hkx)) := List.getElem?_eq_getElem _
                            obtain ⟨mm, hmm⟩ : ∃ m, X[k]'(by rw [HXL.out]; exact hkx) = m := ⟨_, rfl⟩
                            rw [hmm] at hxm
                            obtain ⟨x, hx, hme⟩ := HMSG.out k mm hxm
                            obtain ⟨xg, xma, xmc, rfl, -, -, z0, hxd⟩ := HX.out.at hxm
                            obtain ⟨n1, n2, n3, n4⟩ := HLS2.out.back hx
                            have hob := HLS2.out.ok x (List.mem_of_getElem? hx)
                            have hml : mm.length ≤ 65536 := by rw [hme]; exact enc_an_len hob
                            have hda := dec_an (okB_okA hob)
                            have kd := dea_any xma xmc mm wr hxd.slice (by omega)
                            rw [show adecOk mm = true from by rw [hme]; exact hda.1, show decAn mm = x from by rw [hme]; exact hda.2, show decE true = 0 from rfl] at kd
                            have hgl2 := ids_len U2 (g1 + k) (by have := (List.getElem?_eq_some_iff.1 hx).1; omega)
                            have hkk : g1 + (k + 1) = g1 + k + 1 := by omega
                            obtain ⟨gk, hgk⟩ : ∃ g, g1 + k = g := ⟨_, rfl⟩
                            have hgk30 : gk ≤ 30 := by omega
                            rw [hgk] at HM hgl2 n1 n2 n3 n4 hkk ⊢
                            obtain ⟨G2, hG2⟩ : ∃ G, idsA (U2.take gk) = G := ⟨_, rfl⟩
                            obtain ⟨lg2, hlg2⟩ : ∃ l, lastG U2 gk = l := ⟨_, rfl⟩
                            rw [hG2] at HM hgl2 n2 n4
                            rw [hlg2] at n1 ⊢
                            obtain ⟨gb, gd, rfl⟩ := HM.out.gt.form
                            have hgdl := HM.out.gt.slice.le
                            have hgdm := HM.out.gt.slice.max
                            rw [List.length_map, hgl2] at hgdl
                            rw [hgl2] at HM ⊢
                            obtain ⟨xi, xe, xv, xt⟩ := x
                            simp only at kd n1 n2 n3 n4
                            have KD := Lib.hid kd
                            have HN2 := Lib.hid n2
                            have HN3 := Lib.hid n3
                            have HN4 := Lib.hid n4
                            have HGL2 := Lib.hid hgl2
                            have HKK := Lib.hid hkk
                            obtain ⟨ml, hmle⟩ : ∃ l, mm.length = l := ⟨_, rfl⟩
                            rw [hmle] at KD z0
                            have d7 : decide (xi ≤ lg2) = false := decide_eq_false (by omega)
                            have r2 : (k : Int) < (xl : Int) := by omega
                            have r3 : (0 : Int) ≤ (k : Int) := by omega
                            clear hxm hmm hx hme hxd hob hda kd hml hmle n2 n3 n4 hgl2 hkk hgk hG2 hlg2
                            go_wp2_with fail
                            refine KD.out.mono ?_
                            rintro e w3 ⟨rfl, hb3⟩
                            have HM3 := Lib.hid (HM.out.same hb3)
                            have HX3 := Lib.hid (MRow.step HX.out (Step.same (L := fun _ => False) hb3) (fun h => h) (fun h => h))
                            have HQ3 := Lib.hid (PRow.step HQR.out (Step.same (L := fun _ => False) hb3) (fun h => h) fun _ _ h => h)
                            obtain ⟨w4, hw4⟩ : ∃ x, x = w3.alloc (.cells #[.int .i64 xi, .int .i64 xe, .int .i64 xv, .string xt] 53) := ⟨_, rfl⟩
                            have hb4 : Below w3.heap.size w3 w4 := by rw [hw4]; exact (Below.refl _ w3).alloc (Nat.le_refl _) _
                            have HM4 := Lib.hid (HM3.out.same hb4)
                            have HX4 := Lib.hid (MRow.step HX3.out (Step.same (L := fun _ => False) hb4) (fun h => h) (fun h => h))
                            have HQ4 := Lib.hid (PRow.step HQ3.out (Step.same (L := fun _ => False) hb4) (fun h => h) fun _ _ h => h)
                            have HW4 := Lib.hid hw4
                            have hrow := HM4.out.gt
                            rw [HGL2.out] at hrow
                            have kh := hasI_any gb gd G2 xi w4 HM4.out.gt.slice
                            rw [HGL2.out, decide_eq_false HN2.out] at kh
                            have KH := Lib.hid kh
                            have HROW := Lib.hid hrow
                            have x0 : w4.cell? ⟨w3.heap.size, 0, none⟩ = some (.int .i64 xi) := by
                              have hblk : Blk w4 (fun _ => 0) 0 w3.heap.size [.int .i64 xi, .int .i64 xe, .int .i64 xv, .string xt] := by rw [hw4]; exact ⟨_, heap_alloc_new _ _, rfl⟩
                              exact hblk.cell (j := 0) rfl
                            have x0a := fun ob => Below.kept ((Below.refl _ w4).alloc (Nat.le_refl _) ob) (Nat.le_refl _) x0
                            clear hb3 hw4 hb4 HM3 HX3 HQ3 HM HX HQR KD z0 kh hrow r2 r3
                            go_wp2_with fail
                            rw [← HW4.out]
                            refine KH.out.mono ?_
                            rintro e w5 ⟨rfl, rfl⟩
                            go_wp2_with (at_builtin; refine wpList_append_row rfl (.tmp 281) (.tmp 284) 22 rfl elemI rfl HROW.out ((Below.refl _ w4).alloc (Nat.le_refl _) _) (some ⟨w4.heap.size, 0, none⟩) 1 1 [.int .i64 xi] rfl (row_new (cs := [.int .i64 xi]) (by rfl) (by omega)) (by simp [Value.oneCell']) (by omega) (by omega) ?_)
                            intro v10 w10 hrow10 hs10
                            obtain ⟨a10, k10, rfl⟩ := hrow10.form
                            have hrow11 : RowL w10 (newLab w4 o 41) 41 3 1 (.slice a10 (gk + 1) k10) (idsA (U2.take (gk + 1))).length ((idsA (U2.take (gk + 1))).map intV) := by
                              rw [HN4.out, List.length_append, HGL2.out, List.map_append]
                              exact hrow10
                            have HM10 := Lib.hid (HM4.out.setGt hs10 hrow11)
                            have HX10 := Lib.hid (MRow.step HX4.out hs10 (by omega) (by omega))
                            have HQ10 := Lib.hid (PRow.step HQ4.out hs10 (by omega) fun _ _ h => by omega)
                            clear hrow10 hrow11 hs10 x0 x0a KH HROW HM4 HX4 HQ4 HW4
                            go_wp2_with fail
                            go_roundw
                            case rel => exact ⟨k + 1, _, by omega, by go_num, by rw [HKK.out, HN3.out], by rw [HKK.out]; exact HM10.out, HX10.out, HQ10.out⟩
                            case measure => simp [intOf]; omega
                          · as_aux_lemma =>
                            have hkx2 : g1 + k = A3.got := by rw [HGOT.out]; omega
                            have dr : decide ((k : Int) < (xl : Int)) = false := decide_eq_false (by omega)
                            have dr' : decide (k < xl) = false := decide_eq_false hkx
                            rw [hkx2] at HM ⊢
                            obtain ⟨lg3, hlg3⟩ : ∃ l, lastG U2 A3.got = l := ⟨_, rfl⟩
                            have HLG3 := Lib.hid hlg3
                            rw [hlg3]
                            clear HX hkx hkx2 hlg3
                            go_wp2_with fail
                            go_roundw
                            case rel => exact ⟨j + 1, o, A3, by omega, by go_num, by rw [HLG3.out], HQN.out, HM.out, HQR.out⟩
                            case measure => simp [intOf]; omega
                      · as_aux_lemma =>
                        have hjQ2 : j = NQ := by omega
                        have dj : decide ((j : Int) < (NQ : Int)) = false := decide_eq_false (by omega)
                        have dj' : decide (j < NQ) = false := decide_eq_false hjQ
                        have HRI2 : Hid (LRI M bs (r + 1) W0 W9 A2 (outE B2) U2 (clrS S2) t') := by
                          have hq2 := HQI.out
                          rw [hjQ2, ← HNQ.out, ← HQ.out, ← HU2.out, ← HS2.out] at hq2
                          have ha2 := HA2.out
                          rw [← HS2.out] at ha2
                          have := LRI.round (v := VL) (tx := ⟨#[116]⟩) HI.out HJ2.out ha2 hq2 (by decide) hW1 hW2 hV1 hV2
                          rw [HS2.out, HU2.out] at this
                          exact this
                        obtain ⟨lg3, hlg3⟩ : ∃ l, lastG U2 A2.got = l := ⟨_, rfl⟩
                        have HLG3 := Lib.hid hlg3
                        rw [hlg3]
                        clear hjQ hjQ2 hlg3 HQR HQI
                        go_wp2_with fail
                        go_roundw
                        case rel => exact ⟨r + 1, o, A2, outE B2, U2, clrS S2, t', by omega, by go_num, by rw [HLG3.out], rfl, HRI2.out, HM.out⟩
                        case measure => simp [intOf]; omega
              · have hmn : midS S' VL ⟨#[116]⟩ = finS (nextS S' VL) rr.id 0 ⟨#[116]⟩ VL := by unfold midS; rw [e3]
                rw [e3] at kx
                simp only [Option.getD_some, Option.isSome_some] at kx
                rw [hS2] at hmn
                obtain ⟨NX, hNX⟩ : ∃ s, nextS S' VL = s := ⟨_, rfl⟩
                rw [hNX] at kx hmn e4
                have hnq : NX.rq = rr :: Dq := by rw [e4]
                have hnl : NX.rq.length ≤ 30 := by
                  have := congrArg List.length e1
                  rw [List.length_append] at this
                  rw [hnq]
                  omega
                have hna : NX.an.length ≤ 30 := by
                  have := congrArg List.length e1
                  rw [List.length_append] at this
                  rw [e4]
                  simp only [List.length_map]
                  omega
                have hnr : NX.run = true → NX.rq ≠ [] := fun _ => by rw [hnq]; simp
                have HNR := Lib.hid hnr
                have HNQ := Lib.hid hnq
                have KX := Lib.hid kx
                have HS2 := Lib.hid hS2
                have HMN := Lib.hid hmn
                clear kx hmn e1 e3 e4 e5 hS2 hnr hnq hNX
                go_wp2_with fail
                refine KX.out.mono ?_
                rintro e w3 ⟨⟨rn, -, rfl⟩, o3, hs3, hS3⟩
                have HM3 := Lib.hid (HM.out.setS hs3 hS3)
                obtain ⟨w4, hw4⟩ : ∃ x, x = w3.alloc (.cells #[.int .i64 rn.id, .int .i64 rn.kind, .string rn.doc, .int .i64 rn.ver, .int .i64 rn.off, .string rn.txt] 44) := ⟨_, rfl⟩
                have hb4 : Below w3.heap.size w3 w4 := by rw [hw4]; exact (Below.refl _ w3).alloc (Nat.le_refl _) _
                have HM4 := Lib.hid (HM3.out.same hb4)
                have HW4 := Lib.hid hw4
                have KWT := Lib.hid (swaiting_any 5 sb NX w4 o3 HM4.out.s (by omega))
                clear hs3 hS3 hw4 hb4 HM3 KX HM
                go_wp2_with fail
                rw [← HW4.out]
                refine KWT.out.mono ?_
                rintro e w5 ⟨v5, rfl, hown5, hb5⟩
                obtain ⟨ia, ic, rfl, hsl5⟩ := ownsRow_sliceMap hown5
                have HM5 := Lib.hid (HM4.out.same hb5)
                have hil : (idsR NX.rq).length = NX.rq.length := by simp [idsR]
                have hicm := hsl5.max
                have hicl := hsl5.le
                rw [List.length_map] at hicl
                obtain ⟨nn, hnn⟩ : ∃ n, (idsR NX.rq).length = n := ⟨_, rfl⟩
                have hnn0 : 0 < nn := by rw [← hnn, hil, HNQ.out]; simp
                obtain ⟨ib, ioff, rfl⟩ := hsl5.addr (by rw [List.length_map, hnn]; exact hnn0)
                have x0 : w5.cell? ⟨ib, ioff, none⟩ = some (.int .i64 rr.id) := by
                  have := hsl5.cell (i := 0) (v := .int .i64 rr.id) (by rw [HNQ.out]; rfl)
                  simpa using this
                have kf := finish_any 5 sb 0 NX rr.id 0 ⟨#[116]⟩ (some ⟨vb, 0, none⟩) 2 VL w5 o3 (by decide) HM5.out.s HNR.out (by omega) (by omega) HM5.out.vs.1
                rw [HVL.out, ← HMN.out] at kf
                have KF := Lib.hid kf
                rw [hnn] at hicl ⊢
                have hnnI : (0 : Int) < (nn : Int) := by omega
                have d6 : decide ((0 : Int) < (nn : Int)) = true := decide_eq_true hnnI
                have d6' : decide (0 < nn) = true := decide_eq_true hnn0
                clear hown5 hb5 KWT HM4 HW4 hil hsl5 hnn kf
                go_wp2_with fail
                refine KF.out.mono ?_
                rintro e w6 ⟨rfl, o6, hs6, hS6⟩
                have HMF := Lib.hid (HM5.out.setS hs6 hS6)
                clear hs6 hS6 KF HM5 x0
                go_wp2_with fail
                refine (answers_any 5 sb S2 w6 o6 (by decide) HMF.out.s).mono ?_
                rintro e w6 ⟨v6, rfl, hs6, hS6, hrow6⟩
                have HM6 : Hid (KW w w6 o6 b1 b2 sb (outE A) (B') (clrS S2) bs (G) (.slice ba nb bc) (.slice ga ag gc) (some ⟨vb, 0, none⟩) 2 VL) := HMF.out.setS hs6 hS6
                obtain ⟨aa, ac, rfl⟩ := hrow6.form
                obtain ⟨-, hra⟩ := hrow6.recAt
                have hacl := hra.le
                have hacm := hra.cap_le
                obtain ⟨an, han⟩ : ∃ n, S2.an.length = n := ⟨_, rfl⟩
                rw [han] at hacl hrow6 ⊢
                have han30 : an ≤ 30 := by have := hu30; rw [List.length_append, han] at this; omega
                have HAN := Lib.hid han
                have HR6 := Lib.hid hrow6
                have HAI : Hid (LAI M A B' U S2.an 0 B') := LAI.start HJ2.out
                clear hs6 hS6 hrow6 hra han HMF
                go_wp2_with fail
                go_loopw [32] (fun kv wr => ∃ (k : Nat) (o : Nat → Nat) (B2 : EndS), k ≤ an ∧ kv = .int .i64 k ∧ Hid (LAI M A B' U S2.an k B2) ∧ Hid (KW w wr o b1 b2 sb (outE A) (B2) (clrS S2) bs (G) (.slice ba nb bc) (.slice ga ag gc) (some ⟨vb, 0, none⟩) 2 VL) ∧ Hid (RowA wr o 52 (.slice aa an ac) S2.an)) (fun kv _ => an - (intOf kv).toNat)
                case atStart => exact ⟨0, o6, B', by omega, rfl, HAI.out, HM6.out, HR6.out⟩
                case round =>
                  clear HM6 HR6 HAI
                  obtain ⟨k, o, B2, hk, rfl, HA, HM, HR⟩ := hrel
                  by_cases hka : k < an
                  · as_aux_lemma =>
                    have dk : decide ((k : Int) < (an : Int)) = true := decide_eq_true (by omega)
                    have dk' : decide (k < an) = true := decide_eq_true hka
                    have hx : S2.an[k]? = some (S2.an[k]'(by rw [HAN.out]; exact hka)) := List.getElem?_eq_getElem _
                    obtain ⟨x, hxx⟩ : ∃ x, S2.an[k]'(by rw [HAN.out]; exact hka) = x := ⟨_, rfl⟩
                    rw [hxx] at hx
                    obtain ⟨g2, c2, hsl, hog, hgl2⟩ := HR.out.own (by rw [HAN.out]; omega)
                    simp only [Value.slice.injEq] at hsl
                    obtain ⟨rfl, -, rfl⟩ := hsl
                    obtain ⟨-, hrec⟩ := HR.out.recAt
                    obtain ⟨c0, c1, c2, c3⟩ := Ans.cells hrec hx
                    simp only [Nat.zero_add] at c0 c1 c2 c3
                    have hob := HLS2.out.ok x (List.mem_append_right _ (List.mem_of_getElem? hx))
                    obtain ⟨hse, hai⟩ := LAI.send HA.out hx hob hu30
                    have hoa := okB_okA hob
                    have hsz : x.txt.size ≤ 1 := hob.2.2.2.2.2
                    have ke := ena_any x wr (by omega)
                    rw [show errOf (okA x) = 0 from by rw [hoa]; rfl, show codeAn x = encAn x from if_pos hoa] at ke
                    obtain ⟨E, hE⟩ : ∃ E, encAn x = E := ⟨_, rfl⟩
                    rw [hE] at ke hse hai
                    obtain ⟨xi, xe, xv, xt⟩ := x
                    simp only at ke c0 c1 c2 c3
                    have KE := Lib.hid ke
                    have HSE := Lib.hid hse
                    have HAI := Lib.hid hai
                    have r0 : (k : Int) < (an : Int) := by omega
                    have r1 : (0 : Int) ≤ (k : Int) := by omega
                    clear hx hxx hog hgl2 hrec hob hoa hsz hse hai ke hE
                    go_wp2_with fail
                    refine KE.out.mono ?_
                    rintro e w7 ⟨v7, rfl, hown7, hb7⟩
                    obtain ⟨a7, k7, rfl, hsl7⟩ := ownsRow_sliceMap hown7
                    have HM7 := Lib.hid (HM.out.same hb7)
                    have HR7 := Lib.hid (HR.out.step (Step.same (L := fun _ => False) hb7) fun h => h)
                    have hsl7l := hsl7.le
                    have hsl7m := hsl7.max
                    rw [List.length_map] at hsl7l
                    have ks : Calls Try.prog 56 #[.pointer (some ⟨b2, 0, none⟩), .slice a7 E.length k7] w7 fun e w' => e = .returned (.int .i64 (sendErr B2 E)) ∧ ∃ o', Step (fun x => 10 ≤ x ∧ x < 30) w7 o w' o' ∧ Two w w' o' (pr b1 b2) (upd (pr (outE A) B2) 1 (sendE B2 E)) :=
                      send_t HM7.out.two (k := 1) (n := 10000) (by decide) (LAI.fit HA.out HJ2.out hu30 hV1 hV2 (by omega) hpl2) hsl7
                    rw [HSE.out] at ks
                    obtain ⟨el, hel⟩ : ∃ l, E.length = l := ⟨_, rfl⟩
                    rw [hel] at hsl7l ks ⊢
                    have KS := Lib.hid ks
                    clear hown7 hb7 hsl7 ks hel KE HM HR HA c0 c1 c2 c3
                    go_wp2_with fail
                    refine KS.out.mono ?_
                    rintro e w8 ⟨rfl, o8, hs8, hT8⟩
                    have HM8 : Hid (KW w w8 o8 b1 b2 sb (outE A) (sendE B2 E) (clrS S2) bs (G) (.slice ba nb bc) (.slice ga ag gc) (some ⟨vb, 0, none⟩) 2 VL) := HM7.out.setB (l := 32) (hs8.mono fun l h => .inl h) (by omega) hT8
                    have HR8 := Lib.hid (HR7.out.step hs8 (by omega))
                    clear hs8 hT8 KS HM7 HR7
                    go_wp2_with fail
                    go_roundw
                    case rel => exact ⟨k + 1, o8, _, by omega, by go_num, HAI.out, HM8.out, HR8.out⟩
                    case measure => simp [intOf]; omega
                  · as_aux_lemma =>
                    have hka2 : k = an := by omega
                    have dk : decide ((k : Int) < (an : Int)) = false := decide_eq_false (by omega)
                    have dk' : decide (k < an) = false := decide_eq_false hka
                    have ha2 := HA.out
                    rw [hka2, ← HAN.out] at ha2
                    have HA2 := Lib.hid ha2
                    have ko : Calls Try.prog 57 #[.pointer (some ⟨b2, 0, none⟩)] wr fun e w' => ∃ v, e = .returned v ∧ ∃ o', Step (fun x => 10 ≤ x ∧ x < 30 ∨ x = 34) wr o w' o' ∧ Two w w' o' (pr b1 b2) (upd (pr (outE A) B2) 1 (outE B2)) ∧ PRow w' o' (fun _ => 0) 34 v (outP B2) :=
                      out_t HM.out.two (k := 1) (n := 10000) 34 (fun _ => 0) (by decide) (LAI.fit HA.out HJ2.out hu30 hV1 hV2 (by omega) hpl2) (by decide) (by decide) (fun _ => .inl rfl) (fun _ => by decide)
                    have KO := Lib.hid ko
                    clear ko ha2 hka hka2 HA HR
                    go_wp2_with fail
                    refine KO.out.mono ?_
                    rintro e w9 ⟨v9, rfl, o9, hs9, hT9, hQ9⟩
                    have HM9 : Hid (KW w w9 o9 b1 b2 sb (outE A) (outE B2) (clrS S2) bs (G) (.slice ba nb bc) (.slice ga ag gc) (some ⟨vb, 0, none⟩) 2 VL) := HM.out.setB hs9 (by omega) hT9
                    obtain ⟨qa, qc, rfl, hqc, hqcm, -⟩ := hQ9.cells
                    have hbw : B2.window = W9 := by rw [HA2.out.keep.1]; exact HJ2.out.wb
                    have hql := outP_len (E := B2) (by rw [hbw]; exact hV2)
                    obtain ⟨Q, hQ⟩ : ∃ Q, outP B2 = Q := ⟨_, rfl⟩
                    rw [hQ] at hQ9 hqc hql ⊢
                    obtain ⟨NQ, hNQ⟩ : ∃ n, Q.length = n := ⟨_, rfl⟩
                    rw [hNQ] at hQ9 hqc hql ⊢
                    have HQ := Lib.hid hQ
                    have HNQ := Lib.hid hNQ
                    have HQ9 := Lib.hid hQ9
                    have HBW := Lib.hid hbw
                    obtain ⟨U2, hU2⟩ : ∃ u, U ++ S2.an = u := ⟨_, rfl⟩
                    have hch := HA2.out.all
                    have hqs := LQI.start HI.out hch
                    have hlg : lg = lastG U2 (outE A).got := by
                      show lg = lastG U2 A.got
                      rw [← hU2, lastG_app _ HI.out.gul, HLG.out]
                    have hG2 : G = idsA (U2.take (outE A).got) := by
                      show G = idsA (U2.take A.got)
                      rw [← hU2, takeG_app _ HI.out.gul, HG.out]
                    rw [hU2] at hch hqs HLS2 hu30
                    rw [hG2] at HM9
                    have HCH := Lib.hid hch
                    have HQS := Lib.hid hqs
                    have HU2 := Lib.hid hU2
                    have HLG2 := Lib.hid hlg
                    clear hs9 hT9 hQ9 hQ hNQ hch hqs hlg hG2 hU2 KO HM hbw
                    go_wp2_with fail
                    go_loopw [15, 19, 36] (fun gv lv jv wr => ∃ (j : Nat) (o : Nat → Nat) (A2 : EndS), j ≤ NQ ∧ jv = .int .i64 j ∧ lv = .int .i64 (lastG U2 A2.got) ∧ Hid (LQI M r W0 A B2 U2 j A2) ∧ Hid (KW w wr o b1 b2 sb (A2) (outE B2) (clrS S2) bs (idsA (U2.take A2.got)) (.slice ba nb bc) (gv) (some ⟨vb, 0, none⟩) 2 VL) ∧ Hid (PRow wr o (fun _ => 0) 34 (.slice qa NQ qc) Q)) (fun _ _ jv _ => NQ - (intOf jv).toNat)
                    case atStart => exact ⟨0, o9, outE A, by omega, rfl, by rw [← HLG2.out], HQS.out, HM9.out, HQ9.out⟩
                    case round =>
                      clear HM9 HQ9 HQS HLG2
                      obtain ⟨j, o, A2, hj, rfl, rfl, HQI, HM, HQR⟩ := hrel
                      by_cases hjQ : j < NQ
                      · as_aux_lemma =>
                        have dj : decide ((j : Int) < (NQ : Int)) = true := decide_eq_true (by omega)
                        have dj' : decide (j < NQ) = true := decide_eq_true hjQ
                        have hq : Q[j]? = some (Q[j]'(by rw [HNQ.out]; exact hjQ)) := List.getElem?_eq_getElem _
                        obtain ⟨q, hqq⟩ : ∃ q, Q[j]'(by rw [HNQ.out]; exact hjQ) = q := ⟨_, rfl⟩
                        rw [hqq] at hq
                        obtain ⟨qg, ma, mc, rfl, -, hNc, y0, y1, y2, hdat⟩ := HQR.out.at hq
                        have hq0 := hq
                        rw [← HQ.out] at hq0
                        obtain ⟨hqn, hgot, hgle, hmsg⟩ := LQI.next HCH.out HQI.out (by rw [HBW.out]; exact hV1) hq0
                        have ki : Calls Try.prog 58 #[.pointer (some ⟨b1, 0, none⟩), .agg #[.int .i64 q.seq, .int .i64 q.ack, .slice ma q.b.length mc]] wr fun e w' => ∃ v, e = .returned v ∧ ∃ o', Step (fun x => 10 ≤ x ∧ x < 30 ∨ x = 35) wr o w' o' ∧ Two w w' o' (pr b1 b2) (upd (pr A2 (outE B2)) 0 (inE A2 q)) ∧ MRow w' o' 35 v (inO A2 q) :=
                          in_t HM.out.two (k := 0) (n := 10000) q 0 35 (by decide) (HQI.out.fit HI.out.ml hW1 hW2 (by omega) (by omega)) (by decide) hdat (.inl rfl) (by decide) (by decide)
                        have KI := Lib.hid ki
                        have HQN := Lib.hid hqn
                        have HMSG := Lib.hid hmsg
                        obtain ⟨lg2, hlg2⟩ : ∃ l, lastG U2 A2.got = l := ⟨_, rfl⟩
                        have HLG2 := Lib.hid hlg2
                        rw [hlg2]
                        have r0 : (j : Int) < (NQ : Int) := by omega
                        have r1 : (0 : Int) ≤ (j : Int) := by omega
                        clear hq hqq hdat ki hq0 hmsg hqn HQI hlg2
                        go_wp2_with fail
                        go_simp
                        go_wp2_with fail
                        refine KI.out.mono ?_
                        rintro e w2 ⟨v2, rfl, o2, hs2, hT2, hX2⟩
                        have HM2 : Hid (KW w w2 o2 b1 b2 sb (inE A2 q) (outE B2) (clrS S2) bs (idsA (U2.take A2.got)) (.slice ba nb bc) (u15) (some ⟨vb, 0, none⟩) 2 VL) := HM.out.setA hs2 (by omega) hT2
                        have HQ2 := Lib.hid (PRow.step HQR.out hs2 (by omega) fun _ _ h => by omega)
                        obtain ⟨X, hX⟩ : ∃ X, inO A2 q = X := ⟨_, rfl⟩
                        rw [hX] at hX2 hgot HMSG
                        obtain ⟨xa, xc, rfl, hx1, hx2, -⟩ := hX2.cells
                        obtain ⟨xl, hxl⟩ : ∃ xl, X.length = xl := ⟨_, rfl⟩
                        rw [hxl] at hx1 hX2 hgot ⊢
                        have HX2 := Lib.hid hX2
                        have HXL := Lib.hid hxl
                        obtain ⟨A3, hA3⟩ : ∃ E, inE A2 q = E := ⟨_, rfl⟩
                        obtain ⟨g1, hg1⟩ : ∃ g, A2.got = g := ⟨_, rfl⟩
                        rw [hA3] at HM2 HQN hgot hgle
                        rw [hg1] at HM2 hgot HMSG HLG2
                        have hxs : xl ≤ 30 := by omega
                        have hg30 : g1 + xl ≤ 30 := by omega
                        have HGOT := Lib.hid hgot
                        clear hs2 hT2 hX2 hxl hX hgot hgle KI HM HQR y0 y1 y2 r0 r1 hA3 hg1
                        go_wp2_with fail
                        go_loopw [15, 19, 38] (fun gv lv kv wr => ∃ (k : Nat) (o : Nat → Nat), k ≤ xl ∧ kv = .int .i64 k ∧ lv = .int .i64 (lastG U2 (g1 + k)) ∧ Hid (KW w wr o b1 b2 sb (A3) (outE B2) (clrS S2) bs (idsA (U2.take (g1 + k))) (.slice ba nb bc) (gv) (some ⟨vb, 0, none⟩) 2 VL) ∧ Hid (MRow wr o 35 (.slice xa xl xc) X) ∧ Hid (PRow wr o (fun _ => 0) 34 (.slice (some ⟨qg, 0, none⟩) NQ qc) Q)) (fun _ _ kv _ => xl - (intOf kv).toNat)
                        case atStart => exact ⟨0, o2, by omega, rfl, by rw [Nat.add_zero, HLG2.out], HM2.out, HX2.out, HQ2.out⟩
                        case round =>
                          clear HM2 HX2 HQ2 HLG2
                          obtain ⟨k, o, hk, rfl, rfl, HM, HX, HQR⟩ := hrel
                          by_cases hkx : k < xl
                          · as_aux_lemma =>
                            have dr : decide ((k : Int) < (xl : Int)) = true := decide_eq_true (by omega)
                            have dr' : decide (k < xl) = true := decide_eq_true hkx
                            have hxm : X[k]? = some (X[k]'(by rw [HXL.out]; exact hkx)) := List.getElem?_eq_getElem _
                            obtain ⟨mm, hmm⟩ : ∃ m, X[k]'(by rw [HXL.out]; exact hkx) = m := ⟨_, rfl⟩
                            rw [hmm] at hxm
                            obtain ⟨x, hx, hme⟩ := HMSG.out k mm hxm
                            obtain ⟨xg, xma, xmc, rfl, -, -, z0, hxd⟩ := HX.out.at hxm
                            obtain ⟨n1, n2, n3, n4⟩ := HLS2.out.back hx
                            have hob := HLS2.out.ok x (List.mem_of_getElem? hx)
                            have hml : mm.length ≤ 65536 := by rw [hme]; exact enc_an_len hob
                            have hda := dec_an (okB_okA hob)
                            have kd := dea_any xma xmc mm wr hxd.slice (by omega)
                            rw [show adecOk mm = true from by rw [hme]; exact hda.1, show decAn mm = x from by rw [hme]; exact hda.2, show decE true = 0 from rfl] at kd
                            have hgl2 := ids_len U2 (g1 + k) (by have := (List.getElem?_eq_some_iff.1 hx).1; omega)
                            have hkk : g1 + (k + 1) = g1 + k + 1 := by omega
                            obtain ⟨gk, hgk⟩ : ∃ g, g1 + k = g := ⟨_, rfl⟩
                            have hgk30 : gk ≤ 30 := by omega
                            rw [hgk] at HM hgl2 n1 n2 n3 n4 hkk ⊢
                            obtain ⟨G2, hG2⟩ : ∃ G, idsA (U2.take gk) = G := ⟨_, rfl⟩
                            obtain ⟨lg2, hlg2⟩ : ∃ l, lastG U2 gk = l := ⟨_, rfl⟩
                            rw [hG2] at HM hgl2 n2 n4
                            rw [hlg2] at n1 ⊢
                            obtain ⟨gb, gd, rfl⟩ := HM.out.gt.form
                            have hgdl := HM.out.gt.slice.le
                            have hgdm := HM.out.gt.slice.max
                            rw [List.length_map, hgl2] at hgdl
                            rw [hgl2] at HM ⊢
                            obtain ⟨xi, xe, xv, xt⟩ := x
                            simp only at kd n1 n2 n3 n4
                            have KD := Lib.hid kd
                            have HN2 := Lib.hid n2
                            have HN3 := Lib.hid n3
                            have HN4 := Lib.hid n4
                            have HGL2 := Lib.hid hgl2
                            have HKK := Lib.hid hkk
                            obtain ⟨ml, hmle⟩ : ∃ l, mm.length = l := ⟨_, rfl⟩
                            rw [hmle] at KD z0
                            have d7 : decide (xi ≤ lg2) = false := decide_eq_false (by omega)
                            have r2 : (k : Int) < (xl : Int) := by omega
                            have r3 : (0 : Int) ≤ (k : Int) := by omega
                            clear hxm hmm hx hme hxd hob hda kd hml hmle n2 n3 n4 hgl2 hkk hgk hG2 hlg2
                            go_wp2_with fail
                            refine KD.out.mono ?_
                            rintro e w3 ⟨rfl, hb3⟩
                            have HM3 := Lib.hid (HM.out.same hb3)
                            have HX3 := Lib.hid (MRow.step HX.out (Step.same (L := fun _ => False) hb3) (fun h => h) (fun h => h))
                            have HQ3 := Lib.hid (PRow.step HQR.out (Step.same (L := fun _ => False) hb3) (fun h => h) fun _ _ h => h)
                            obtain ⟨w4, hw4⟩ : ∃ x, x = w3.alloc (.cells #[.int .i64 xi, .int .i64 xe, .int .i64 xv, .string xt] 53) := ⟨_, rfl⟩
                            have hb4 : Below w3.heap.size w3 w4 := by rw [hw4]; exact (Below.refl _ w3).alloc (Nat.le_refl _) _
                            have HM4 := Lib.hid (HM3.out.same hb4)
                            have HX4 := Lib.hid (MRow.step HX3.out (Step.same (L := fun _ => False) hb4) (fun h => h) (fun h => h))
                            have HQ4 := Lib.hid (PRow.step HQ3.out (Step.same (L := fun _ => False) hb4) (fun h => h) fun _ _ h => h)
                            have HW4 := Lib.hid hw4
                            have hrow := HM4.out.gt
                            rw [HGL2.out] at hrow
                            have kh := hasI_any gb gd G2 xi w4 HM4.out.gt.slice
                            rw [HGL2.out, decide_eq_false HN2.out] at kh
                            have KH := Lib.hid kh
                            have HROW := Lib.hid hrow
                            have x0 : w4.cell? ⟨w3.heap.size, 0, none⟩ = some (.int .i64 xi) := by
                              have hblk : Blk w4 (fun _ => 0) 0 w3.heap.size [.int .i64 xi, .int .i64 xe, .int .i64 xv, .string xt] := by rw [hw4]; exact ⟨_, heap_alloc_new _ _, rfl⟩
                              exact hblk.cell (j := 0) rfl
                            have x0a := fun ob => Below.kept ((Below.refl _ w4).alloc (Nat.le_refl _) ob) (Nat.le_refl _) x0
                            clear hb3 hw4 hb4 HM3 HX3 HQ3 HM HX HQR KD z0 kh hrow r2 r3
                            go_wp2_with fail
                            rw [← HW4.out]
                            refine KH.out.mono ?_
                            rintro e w5 ⟨rfl, rfl⟩
                            go_wp2_with (at_builtin; refine wpList_append_row rfl (.tmp 281) (.tmp 284) 22 rfl elemI rfl HROW.out ((Below.refl _ w4).alloc (Nat.le_refl _) _) (some ⟨w4.heap.size, 0, none⟩) 1 1 [.int .i64 xi] rfl (row_new (cs := [.int .i64 xi]) (by rfl) (by omega)) (by simp [Value.oneCell']) (by omega) (by omega) ?_)
                            intro v10 w10 hrow10 hs10
                            obtain ⟨a10, k10, rfl⟩ := hrow10.form
                            have hrow11 : RowL w10 (newLab w4 o 41) 41 3 1 (.slice a10 (gk + 1) k10) (idsA (U2.take (gk + 1))).length ((idsA (U2.take (gk + 1))).map intV) := by
                              rw [HN4.out, List.length_append, HGL2.out, List.map_append]
                              exact hrow10
                            have HM10 := Lib.hid (HM4.out.setGt hs10 hrow11)
                            have HX10 := Lib.hid (MRow.step HX4.out hs10 (by omega) (by omega))
                            have HQ10 := Lib.hid (PRow.step HQ4.out hs10 (by omega) fun _ _ h => by omega)
                            clear hrow10 hrow11 hs10 x0 x0a KH HROW HM4 HX4 HQ4 HW4
                            go_wp2_with fail
                            go_roundw
                            case rel => exact ⟨k + 1, _, by omega, by go_num, by rw [HKK.out, HN3.out], by rw [HKK.out]; exact HM10.out, HX10.out, HQ10.out⟩
                            case measure => simp [intOf]; omega
                          · as_aux_lemma =>
                            have hkx2 : g1 + k = A3.got := by rw [HGOT.out]; omega
                            have dr : decide ((k : Int) < (xl : Int)) = false := decide_eq_false (by omega)
                            have dr' : decide (k < xl) = false := decide_eq_false hkx
                            rw [hkx2] at HM ⊢
                            obtain ⟨lg3, hlg3⟩ : ∃ l, lastG U2 A3.got = l := ⟨_, rfl⟩
                            have HLG3 := Lib.hid hlg3
                            rw [hlg3]
                            clear HX hkx hkx2 hlg3
                            go_wp2_with fail
                            go_roundw
                            case rel => exact ⟨j + 1, o, A3, by omega, by go_num, by rw [HLG3.out], HQN.out, HM.out, HQR.out⟩
                            case measure => simp [intOf]; omega
                      · as_aux_lemma =>
                        have hjQ2 : j = NQ := by omega
                        have dj : decide ((j : Int) < (NQ : Int)) = false := decide_eq_false (by omega)
                        have dj' : decide (j < NQ) = false := decide_eq_false hjQ
                        have HRI2 : Hid (LRI M bs (r + 1) W0 W9 A2 (outE B2) U2 (clrS S2) t') := by
                          have hq2 := HQI.out
                          rw [hjQ2, ← HNQ.out, ← HQ.out, ← HU2.out, ← HS2.out] at hq2
                          have ha2 := HA2.out
                          rw [← HS2.out] at ha2
                          have := LRI.round (v := VL) (tx := ⟨#[116]⟩) HI.out HJ2.out ha2 hq2 (by decide) hW1 hW2 hV1 hV2
                          rw [HS2.out, HU2.out] at this
                          exact this
                        obtain ⟨lg3, hlg3⟩ : ∃ l, lastG U2 A2.got = l := ⟨_, rfl⟩
                        have HLG3 := Lib.hid hlg3
                        rw [hlg3]
                        clear hjQ hjQ2 hlg3 HQR HQI
                        go_wp2_with fail
                        go_roundw
                        case rel => exact ⟨r + 1, o, A2, outE B2, U2, clrS S2, t', by omega, by go_num, by rw [HLG3.out], rfl, HRI2.out, HM.out⟩
                        case measure => simp [intOf]; omega
        · as_aux_lemma =>
          have hrn2 : r = 40 + 3 * nb := by omega
          have d2 : decide ((r : Int) < 40 + 3 * (nb : Int)) = false := decide_eq_false (by omega)
          have hrr := HI.out.rr
          rw [hrn2, ← HNB.out] at hrr
          obtain ⟨e1, e2, e3⟩ := hrr.done HI.out.ml
          rw [HAG.out] at e1
          rw [HNB.out] at e2
          have e4 : ((A.waiting.length : Nat) : Int) = 0 := by rw [e3]; rfl
          have kw : Calls Try.prog 59 #[.pointer (some ⟨b1, 0, none⟩)] wr fun e w' => e = .returned (.int .i64 (A.waiting.length)) ∧ wr = w' := waiting_t HM.out.two (k := 0) (by decide)
          rw [e4] at kw
          have KW9 := Lib.hid kw
          have hbw := Lib.hid HM.out.below
          have d3 : ((ag : Int) == (t : Int)) = true := by rw [e1]; simp
          have d4 : decide ((t : Int) ≤ (nb : Int)) = true := decide_eq_true (by omega)
          have d4' : decide (t ≤ nb) = true := decide_eq_true e2
          clear hrn hrn2 hrr e1 e3 e4 kw HI HM
          go_wp2_with fail
          refine KW9.out.mono ?_
          rintro e w6 ⟨rfl, rfl⟩
          go_wp2_with fail
          refine (lives_any wr).mono ?_
          rintro e w7 ⟨rfl, hb7⟩
          have hB7 := Below.step hbw.out hb7
          go_wp2_with fail
          go_ret
          exact ⟨rfl, hB7⟩
end Go.Proofs.Ytaonhmdifinadaa
