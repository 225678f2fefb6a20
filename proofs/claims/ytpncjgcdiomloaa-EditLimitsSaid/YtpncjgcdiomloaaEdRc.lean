/-
  The contract of the reference's Compose.
-/
import Derived.Test.YtpncjgcdiomloaaEdSr
import Derived.Test.YtpncjgcdiomloaaEdRp
import Derived.Test.YtpncjgcdiomloaaEdX
import Derived.Test.YtpncjgcdiomloaaEdL
import Derived.Test.YtpncjgcdiomloaaEdCp
namespace Go.Proofs.Ytpncjgcdiomloaa
open Go Go.Proofs
open Go.RowKit
set_option linter.unusedVariables false
set_option linter.unusedSimpArgs false

theorem zip_drop {A B : List Int} {U : List UInt8} (hl : B.length = U.length) {i : Nat} (hi : i < U.length) :
    ∃ b y, B[i]? = some b ∧ U[i]? = some y ∧ ((compS A B).zip U).drop i = ((if 0 ≤ b then A.getD b.toNat (-1) else -1), y) :: ((compS A B).zip U).drop (i + 1) := by
  have hlz : ((compS A B).zip U).length = U.length := by rw [List.length_zip]; unfold compS; rw [List.length_map]; omega
  refine ⟨B[i], U[i], List.getElem?_eq_getElem (by omega), List.getElem?_eq_getElem hi, ?_⟩
  rw [List.drop_eq_getElem_cons (by omega)]
  congr 1
  rw [List.getElem_zip]
  unfold compS
  rw [List.getElem_map]
theorem cut_one {U : List UInt8} {i : Nat} {y : UInt8} (h : U[i]? = some y) : cutL U i (i + 1) = [y] := by
  have hlt := (List.getElem?_eq_some_iff.1 h).1
  have := cutL_snoc (u := U) (a := i) (i := i) (Nat.le_refl _) (b := y) (r := U.drop (i + 1)) (by rw [List.drop_eq_getElem_cons hlt, (List.getElem?_eq_some_iff.1 h).2])
  rw [← this.1, cutL_nil]
  rfl
theorem refK_nil_eq (n p : Nat) (x : List UInt8) : refK n p x [] = if p < n ∨ x ≠ [] then [⟨p, n, x⟩] else [] := by unfold refK; rfl
theorem refK_neg {n p : Nat} {x : List UInt8} {c : Int} {y : UInt8} {r : List (Int × UInt8)} (h : c < 0) : refK n p x ((c, y) :: r) = refK n p (x ++ [y]) r := by
  rw [refK]; simp [h]
theorem refK_pos {n p : Nat} {x : List UInt8} {c : Nat} {y : UInt8} {r : List (Int × UInt8)} : refK n p x (((c : Int), y) :: r) = (if p < c ∨ x ≠ [] then [⟨p, c, x⟩] else []) ++ refK n (c + 1) [] r := by
  rw [refK]
  simp only [Int.toNat_natCast]
  rw [if_neg (by omega)]
  congr 1
  simp only [Int.ofNat_lt]

set_option maxRecDepth 100000 in
set_option maxHeartbeats 8000000 in
theorem rcompose_ok (s : ByteArray) (aa : Option Addr) (ca : Nat) (es : List Ed) (ab : Option Addr) (cb : Nat) (fs : List Ed) (w : World) (hs : s.size ≤ 1000) (hx : EdsAt w aa ca es) (hx' : EdsAt w ab cb fs)
    (hv : Snd s.data.toList.length 0 es) (hv' : Snd (applyL s.data.toList 0 es).length 0 fs) (h64 : es.length ≤ 64) (h64' : fs.length ≤ 64) (hb : ∀ e ∈ es, e.x.length ≤ 1000) (hb' : ∀ e ∈ fs, e.x.length ≤ 1000)
    (hUl : (applyL (applyL s.data.toList 0 es) 0 fs).length ≤ 900) :
    Calls Try.prog 31 #[.string s, .slice aa es.length ca, .slice ab fs.length cb] w fun e w' => ∃ v, e = .returned (.tuple #[v, .int .i64 (if 64 < (normL s.data.toList (compR s.data.toList es fs)).length then 4 else 0)]) ∧
      OwnEds w' w.heap.size v (if 64 < (normL s.data.toList (compR s.data.toList es fs)).length then [] else normL s.data.toList (compR s.data.toList es fs)) ∧ Below w.heap.size w w' := by
  obtain ⟨l, hl⟩ : ∃ l, s.data.toList = l := ⟨_, rfl⟩
  have hsl : s.size = l.length := by rw [← hl]; rfl
  rw [hl] at hv hv' hUl ⊢
  obtain ⟨N, hN⟩ : ∃ N, normL l (compR l es fs) = N := ⟨_, rfl⟩
  rw [hN]
  have hRR := compR_facts hv hv'
  have hR : compR l es fs = refK l.length 0 [] ((compS (srcL l.length 0 es) (srcL (applyL l 0 es).length 0 fs)).zip (applyL (applyL l 0 es) 0 fs)) := rfl
  have hAl := src_apply_len hv
  have hBl := src_apply_len hv'
  have hAr := src_range hv
  have hBr := src_range hv'
  obtain ⟨T, hT⟩ : ∃ T, applyL l 0 es = T := ⟨_, rfl⟩
  have hTl : T.length ≤ 100000 := by have := apply_le (B := 1000) hv hb; rw [hT] at this; omega
  rw [hT] at hv' hR hAl hBl hBr hUl hRR
  obtain ⟨U, hU⟩ : ∃ U, applyL T 0 fs = U := ⟨_, rfl⟩
  rw [hU] at hR hBl hUl hRR
  have hva : validL s.size es = 0 := by rw [hsl]; exact valid_of hv h64
  have hvb : validL T.length fs = 0 := valid_of hv' h64'
  have k1 := fun W (hW : Below w.heap.size w W) => rApply_any s aa ca es W (by omega) (hx.below hW) (by rw [hl, applyX_ok (by rw [← hsl]; exact hva), hT]; omega)
  rw [hl, applyX_ok (by rw [← hsl]; exact hva), hT, hva] at k1
  have k2 := fun W (hW : Below w.heap.size w W) => rApply_any (strB T) ab cb fs W (by rw [strB_size]; omega) (hx'.below hW) (by rw [strB_list, applyX_ok hvb, hU]; omega)
  rw [strB_list, strB_size, applyX_ok hvb, hU, hvb] at k2
  have k3 := fun W (hW : Below w.heap.size w W) => sources_any l.length aa ca es W (hx.below hW) hv (by omega) h64 hb
  have k4 := fun W (hW : Below w.heap.size w W) => sources_any T.length ab cb fs W (hx'.below hW) hv' (by omega) h64' hb'
  obtain ⟨A, hA⟩ : ∃ A, srcL l.length 0 es = A := ⟨_, rfl⟩
  obtain ⟨B, hB⟩ : ∃ B, srcL T.length 0 fs = B := ⟨_, rfl⟩
  rw [hA] at k3 hR hAl hAr
  rw [hB] at k4 hR hBl hBr
  obtain ⟨R, hRe⟩ : ∃ R, compR l es fs = R := ⟨_, rfl⟩
  rw [hRe] at hR hRR hN
  have k5 := fun a c W (h : EdsAt W a c R) => rnormal_any s a c R W (by omega) h (by have := hRR.2.1; omega) (by rw [hsl]; exact hRR.1) (fun e he => by have := hRR.2.2 e he; omega)
  rw [hl, hN] at k5
  have K1 := Lib.hid k1
  have K2 := Lib.hid k2
  have K3 := Lib.hid k3
  have K4 := Lib.hid k4
  have K5 := Lib.hid k5
  have HAr := Lib.hid hAr
  have HBr := Lib.hid hBr
  have HR := Lib.hid hR
  have hmx := hx.max
  have hmx' := hx'.max
  have hlx := hx.le
  have hlx' := hx'.le
  clear k1 k2 k3 k4 k5 hx hx' hv hv' hb hb' hva hvb hT hU hl hRe hRR hN hA hB hAr hBr hR h64 h64'
  have zt : (strB T).size = T.length := strB_size T
  have zu : (strB U).size = U.length := strB_size U
  go_enter Try.func31, Try.ntmps31
  go_wp2_with fail
  refine (K1.out w (Below.refl _ _)).mono ?_
  rintro e w1 ⟨rfl, hb1⟩
  go_wp2_with fail
  refine (K2.out w1 hb1).mono ?_
  rintro e w2 ⟨rfl, hb2⟩
  have hB2 := Below.step hb1 hb2
  go_wp2_with fail
  refine (K3.out w2 hB2).mono ?_
  rintro e w3 ⟨va, rfl, oa, hb3⟩
  have hB3 := Below.step hB2 hb3
  go_wp2_with fail
  refine (K4.out w3 hB3).mono ?_
  rintro e w4 ⟨vb, rfl, ob, hb4⟩
  have hB4 := Below.step hB3 hb4
  obtain ⟨aA, cA, rfl, sa⟩ := oa.form
  obtain ⟨aB, cB, rfl, sb⟩ := ob.form
  have SA := Lib.hid (sa.below hb4)
  have SB := Lib.hid sb
  have hmA := sa.len
  have hcA := sa.le
  have hcAm := sa.max
  have hmB := sb.len
  have hcB := sb.le
  have hcBm := sb.max
  simp only [List.length_map] at hmA hmB hcA hcB
  have HB4 := Lib.hid hB4
  clear hb1 hb2 hB2 hb3 hB3 hb4 hB4 oa ob sa sb K1 K2 K3 K4
  have I0 := Lib.hid (show [] ++ refK l.length 0 [] (((compS A B).zip U).drop 0) = R from by rw [List.nil_append, List.drop_zero]; exact HR.out.symm)
  clear HR
  go_wp2_with fail
  go_loopw [14, 15, 16, 17] (fun lv pv xv iv wr => ∃ (i p : Nat) (x : List UInt8) (O : List Ed), i ≤ U.length + 1 ∧ iv = .int .i64 i ∧ pv = .int .i64 p ∧ p ≤ l.length + 1 ∧ xv = .string (strB x) ∧ x.length ≤ i ∧ O.length ≤ i ∧ OwnEds wr w4.heap.size lv O ∧ Below w4.heap.size w4 wr ∧
      Hid ((i ≤ U.length → O ++ refK l.length p x (((compS A B).zip U).drop i) = R) ∧ (i = U.length + 1 → O = R))) (fun _ _ _ iv _ => U.length + 1 - (intOf iv).toNat)
  case atStart => exact ⟨0, 0, [], [], by omega, rfl, rfl, by omega, by rfl, by simp, by simp, OwnEds.nil _ _, Below.refl _ _, fun _ => I0.out, fun h => by omega⟩
  case round =>
    clear I0
    obtain ⟨i, p, x, O, hi, rfl, rfl, hp, rfl, hxl, hOl, hO, hB, HI⟩ := hrel
    obtain ⟨av, cv, rfl, -⟩ := hO.at
    have zx : (strB x).size = x.length := strB_size x
    have HO := Lib.hid hO
    have HHB := Lib.hid hB
    clear hO
    by_cases hie : i ≤ U.length
    · have d0 : decide ((i : Int) ≤ U.length) = true := decide_eq_true (by omega)
      have h1 := HI.out.1 hie
      clear HI
      by_cases hlt : i < U.length
      · have d1 : decide ((i : Int) < U.length) = true := decide_eq_true (by omega)
        have d1' : decide (i < U.length) = true := decide_eq_true hlt
        obtain ⟨b, y, eb, ey, ez⟩ := zip_drop (A := A) (B := B) hBl hlt
        rw [ez] at h1
        have hbr := HBr.out b (List.mem_of_getElem? eb)
        have hiB : i < B.length := by omega
        obtain ⟨bb, ob, rfl⟩ := SB.out.addr (by simp; omega)
        have fb := (SB.out.below hB).intV hiB
        have hbb : B[i] = b := (List.getElem?_eq_some_iff.1 eb).2
        rw [hbb] at fb
        have hcut := cut_one ey
        have hext : (strB U).extract i (i + 1) = strB [y] := by rw [ext_strB, strB_list, hcut]
        have zy : (strB [y]).size = 1 := strB_size [y]
        have HE := Lib.hid hext
        clear hbb eb ey ez hcut hext hB
        by_cases hb0 : 0 ≤ b
        · obtain ⟨q, rfl⟩ : ∃ q : Nat, b = q := ⟨b.toNat, by omega⟩
          rw [if_pos hb0, Int.toNat_natCast] at h1
          have hqA : q < A.length := by omega
          obtain ⟨ba, oa, rfl⟩ := SA.out.addr (by simp; omega)
          have fa := (SA.out.below HHB.out).intV hqA
          have hc := HAr.out A[q] (List.getElem_mem _)
          rw [List.getD_eq_getElem?_getD, List.getElem?_eq_getElem hqA, Option.getD_some] at h1
          generalize A[q] = c at *
          by_cases hc0 : c < 0
          · rw [refK_neg hc0] at h1
            have H1 := Lib.hid h1
            have dc : decide (c < 0) = true := decide_eq_true hc0
            clear h1
            have z1 : ¬ 9223372036854775807 < (strB x).size + (strB [y]).size := by rw [zx, zy]; omega
            have g1 : (0 : Int) ≤ (i : Int) := by omega
            have g2 : (i : Int) ≤ ((i + 1 : Nat) : Int) := by omega
            have g3 : ((i + 1 : Nat) : Int) ≤ (U.length : Int) := by omega
            go_wp2_with fail
            try rw [HE.out, strB_app]
            go_roundw
            case rel => exact ⟨i + 1, p, x ++ [y], O, by omega, by go_num, rfl, hp, rfl, by simp; omega, by omega, HO.out, HHB.out, fun _ => H1.out, fun h => by omega⟩
            case measure => first | (simp [intOf]; done) | (simp [intOf]; omega)
          · obtain ⟨f, rfl⟩ : ∃ f : Nat, c = f := ⟨c.toNat, by omega⟩
            rw [refK_pos] at h1
            have hfl : f ≤ l.length := by omega
            have dc : decide ((f : Int) < 0) = false := decide_eq_false hc0
            by_cases hpf : p < f
            · have dp : decide ((p : Int) < (f : Nat)) = true := decide_eq_true (by omega)
              have dp' : decide (p < f) = true := decide_eq_true hpf
              have hap : p < f ∨ x ≠ [] := by first | exact .inl (by omega) | exact .inr hxe
              rw [if_pos hap, ← List.append_assoc] at h1
              have H1 := Lib.hid h1
              have hsz := HHB.out.size
              clear h1 hap
              go_wp2_with (at_builtin; refine wpList_append_src _ rfl (.tmp 98) (.tmp 103) 22 rfl elemE w4.heap.size _ O.length _ rfl (ownsRow_below HO.out ((Below.refl _ wr).alloc (Nat.le_refl _) _)) (some ⟨wr.heap.size, 0, none⟩) 1 1 [.int .i64 p, .int .i64 f, .string (strB x)] rfl (row_new (cs := [.int .i64 p, .int .i64 f, .string (strB x)]) rfl (by decide)) (by simp [Value.oneCell']) (by omega) (by omega) (by simp; omega) ?_; intro v2 w2 hown2 hb2 hgrow)
              have hO2 : OwnEds w2 w4.heap.size v2 (O ++ [⟨p, f, x⟩]) := OwnEds.snoc (e := ⟨p, f, x⟩) hown2
              have hB2 := (HHB.out.alloc hsz _).trans hb2
              have HO2 := Lib.hid hO2
              have HB2 := Lib.hid hB2
              clear hown2 hb2 hO2 hB2 hgrow
              go_wp2_with fail
              go_roundw
              case rel => exact ⟨i + 1, f + 1, [], O ++ [⟨p, f, x⟩], by omega, by go_num, by go_num, by omega, rfl, by simp, by first | (simp; done) | (simp; omega), HO2.out, HB2.out, fun _ => H1.out, fun h => by omega⟩
              case measure => first | (simp [intOf]; done) | (simp [intOf]; omega)

            · have dp : decide ((p : Int) < (f : Nat)) = false := decide_eq_false (by omega)
              have dp' : decide (p < f) = false := decide_eq_false hpf
              by_cases hxe : x = []
              · subst hxe
                have dn : strB [] = (⟨#[]⟩ : ByteArray) := rfl
                rw [dn] at zx ⊢
                rw [if_neg (by rintro (h | h); · omega
                               · exact h rfl)] at h1
                rw [List.nil_append] at h1
                have H1 := Lib.hid h1
                clear h1
                go_wp2_with fail
                go_roundw
                case rel => exact ⟨i + 1, f + 1, [], O, by omega, by go_num, by go_num, by omega, rfl, by simp, by omega, HO.out, HHB.out, fun _ => H1.out, fun h => by omega⟩
                case measure => first | (simp [intOf]; done) | (simp [intOf]; omega)

              · have ne1 : ¬ (strB x).toList = [] := fun h => hxe (by rw [ByteArray.toList_eq, strB_list] at h; exact h)
                have ne3 : (strB x).toList.isEmpty = false := by cases h : (strB x).toList with
                  | nil => exact absurd h ne1
                  | cons _ _ => rfl
                have ne2 : (⟨#[]⟩ : ByteArray).toList = [] := by rw [ByteArray.toList_eq]
                have hap : p < f ∨ x ≠ [] := by first | exact .inl (by omega) | exact .inr hxe
                rw [if_pos hap, ← List.append_assoc] at h1
                have H1 := Lib.hid h1
                have hsz := HHB.out.size
                clear h1 hap
                go_wp2_with (at_builtin; refine wpList_append_src _ rfl (.tmp 98) (.tmp 103) 22 rfl elemE w4.heap.size _ O.length _ rfl (ownsRow_below HO.out ((Below.refl _ wr).alloc (Nat.le_refl _) _)) (some ⟨wr.heap.size, 0, none⟩) 1 1 [.int .i64 p, .int .i64 f, .string (strB x)] rfl (row_new (cs := [.int .i64 p, .int .i64 f, .string (strB x)]) rfl (by decide)) (by simp [Value.oneCell']) (by omega) (by omega) (by simp; omega) ?_; intro v2 w2 hown2 hb2 hgrow)
                have hO2 : OwnEds w2 w4.heap.size v2 (O ++ [⟨p, f, x⟩]) := OwnEds.snoc (e := ⟨p, f, x⟩) hown2
                have hB2 := (HHB.out.alloc hsz _).trans hb2
                have HO2 := Lib.hid hO2
                have HB2 := Lib.hid hB2
                clear hown2 hb2 hO2 hB2 hgrow
                go_wp2_with fail
                go_roundw
                case rel => exact ⟨i + 1, f + 1, [], O ++ [⟨p, f, x⟩], by omega, by go_num, by go_num, by omega, rfl, by simp, by first | (simp; done) | (simp; omega), HO2.out, HB2.out, fun _ => H1.out, fun h => by omega⟩
                case measure => first | (simp [intOf]; done) | (simp [intOf]; omega)
        · rw [if_neg hb0, refK_neg (by omega)] at h1
          have H1 := Lib.hid h1
          have db : decide (0 ≤ b) = false := decide_eq_false hb0
          clear h1
          have z1 : ¬ 9223372036854775807 < (strB x).size + (strB [y]).size := by rw [zx, zy]; omega
          have g1 : (0 : Int) ≤ (i : Int) := by omega
          have g2 : (i : Int) ≤ ((i + 1 : Nat) : Int) := by omega
          have g3 : ((i + 1 : Nat) : Int) ≤ (U.length : Int) := by omega
          go_wp2_with fail
          try rw [HE.out, strB_app]
          go_roundw
          case rel => exact ⟨i + 1, p, x ++ [y], O, by omega, by go_num, rfl, hp, rfl, by simp; omega, by omega, HO.out, HHB.out, fun _ => H1.out, fun h => by omega⟩
          case measure => first | (simp [intOf]; done) | (simp [intOf]; omega)
      · obtain rfl : i = U.length := by omega
        have d1 : decide ((U.length : Int) < U.length) = false := by simp
        have d1' : decide (U.length < U.length) = false := by simp
        rw [List.drop_of_length_le (by rw [List.length_zip]; omega), refK_nil_eq] at h1
        by_cases hpf : p < l.length
        · have dp : decide ((p : Int) < (l.length : Nat)) = true := decide_eq_true (by omega)
          have dp' : decide (p < l.length) = true := decide_eq_true hpf
          have hap : p < l.length ∨ x ≠ [] := by first | exact .inl (by omega) | exact .inr hxe
          rw [if_pos hap] at h1
          have H1 := Lib.hid h1
          have hsz := HHB.out.size
          clear h1 hap
          go_wp2_with (at_builtin; refine wpList_append_src _ rfl (.tmp 98) (.tmp 103) 22 rfl elemE w4.heap.size _ O.length _ rfl (ownsRow_below HO.out ((Below.refl _ wr).alloc (Nat.le_refl _) _)) (some ⟨wr.heap.size, 0, none⟩) 1 1 [.int .i64 p, .int .i64 l.length, .string (strB x)] rfl (row_new (cs := [.int .i64 p, .int .i64 l.length, .string (strB x)]) rfl (by decide)) (by simp [Value.oneCell']) (by omega) (by omega) (by simp; omega) ?_; intro v2 w2 hown2 hb2 hgrow)
          have hO2 : OwnEds w2 w4.heap.size v2 (O ++ [⟨p, l.length, x⟩]) := OwnEds.snoc (e := ⟨p, l.length, x⟩) hown2
          have hB2 := (HHB.out.alloc hsz _).trans hb2
          have HO2 := Lib.hid hO2
          have HB2 := Lib.hid hB2
          clear hown2 hb2 hO2 hB2 hgrow
          go_wp2_with fail
          go_roundw
          case rel => exact ⟨U.length + 1, l.length + 1, [], O ++ [⟨p, l.length, x⟩], by omega, by go_num, by go_num, by omega, rfl, by simp, by first | (simp; done) | (simp; omega), HO2.out, HB2.out, fun h => by omega, fun _ => H1.out⟩
          case measure => first | (simp [intOf]; done) | (simp [intOf]; omega)

        · have dp : decide ((p : Int) < (l.length : Nat)) = false := decide_eq_false (by omega)
          have dp' : decide (p < l.length) = false := decide_eq_false hpf
          by_cases hxe : x = []
          · subst hxe
            have dn : strB [] = (⟨#[]⟩ : ByteArray) := rfl
            rw [dn] at zx ⊢
            rw [if_neg (by rintro (h | h); · omega
                           · exact h rfl)] at h1
            rw [List.append_nil] at h1
            have H1 := Lib.hid h1
            clear h1
            go_wp2_with fail
            go_roundw
            case rel => exact ⟨U.length + 1, l.length + 1, [], O, by omega, by go_num, by go_num, by omega, rfl, by simp, by omega, HO.out, HHB.out, fun h => by omega, fun _ => H1.out⟩
            case measure => first | (simp [intOf]; done) | (simp [intOf]; omega)

          · have ne1 : ¬ (strB x).toList = [] := fun h => hxe (by rw [ByteArray.toList_eq, strB_list] at h; exact h)
            have ne3 : (strB x).toList.isEmpty = false := by cases h : (strB x).toList with
              | nil => exact absurd h ne1
              | cons _ _ => rfl
            have ne2 : (⟨#[]⟩ : ByteArray).toList = [] := by rw [ByteArray.toList_eq]
            have hap : p < l.length ∨ x ≠ [] := by first | exact .inl (by omega) | exact .inr hxe
            rw [if_pos hap] at h1
            have H1 := Lib.hid h1
            have hsz := HHB.out.size
            clear h1 hap
            go_wp2_with (at_builtin; refine wpList_append_src _ rfl (.tmp 98) (.tmp 103) 22 rfl elemE w4.heap.size _ O.length _ rfl (ownsRow_below HO.out ((Below.refl _ wr).alloc (Nat.le_refl _) _)) (some ⟨wr.heap.size, 0, none⟩) 1 1 [.int .i64 p, .int .i64 l.length, .string (strB x)] rfl (row_new (cs := [.int .i64 p, .int .i64 l.length, .string (strB x)]) rfl (by decide)) (by simp [Value.oneCell']) (by omega) (by omega) (by simp; omega) ?_; intro v2 w2 hown2 hb2 hgrow)
            have hO2 : OwnEds w2 w4.heap.size v2 (O ++ [⟨p, l.length, x⟩]) := OwnEds.snoc (e := ⟨p, l.length, x⟩) hown2
            have hB2 := (HHB.out.alloc hsz _).trans hb2
            have HO2 := Lib.hid hO2
            have HB2 := Lib.hid hB2
            clear hown2 hb2 hO2 hB2 hgrow
            go_wp2_with fail
            go_roundw
            case rel => exact ⟨U.length + 1, l.length + 1, [], O ++ [⟨p, l.length, x⟩], by omega, by go_num, by go_num, by omega, rfl, by simp, by first | (simp; done) | (simp; omega), HO2.out, HB2.out, fun h => by omega, fun _ => H1.out⟩
            case measure => first | (simp [intOf]; done) | (simp [intOf]; omega)
    · obtain rfl : i = U.length + 1 := by omega
      have hR := HI.out.2 rfl
      have d0 : decide (((U.length + 1 : Nat) : Int) ≤ U.length) = false := decide_eq_false (by omega)
      subst hR
      obtain ⟨_, _, _, hat⟩ := HO.out.at
      obtain ⟨aO, cO, hvO, hOat⟩ := HO.out.at
      have kk := K5.out _ _ wr hOat
      obtain ⟨hva, hvc⟩ : aO = av ∧ cO = cv := by simpa using hvO.symm
      subst hva hvc
      have HK := Lib.hid kk
      have hBw := HB4.out.trans (HHB.out.mono HB4.out.size)
      have HBW := Lib.hid hBw
      clear hvO hOat kk K5 hBw hB
      go_wp2_with fail
      refine HK.out.mono ?_
      rintro e w6 ⟨v6, rfl, ho6, hb6⟩
      have hsz6 := HBW.out.size
      obtain ⟨a6, c6, rfl, -⟩ := ho6.at
      have HO6 := Lib.hid (OwnEds.base ho6 hsz6)
      have hB6 := Below.step HBW.out hb6
      clear ho6 hb6
      by_cases hN : 64 < N.length
      · have dN : decide (64 < N.length) = true := decide_eq_true hN
        have dN' : decide ((64 : Int) < N.length) = true := decide_eq_true (by omega)
        go_wp2_with fail
        go_ret2
        simp only [if_pos hN]
        exact ⟨_, rfl, OwnEds.nil _ _, hB6⟩
      · have dN : decide (64 < N.length) = false := decide_eq_false hN
        have dN' : decide ((64 : Int) < N.length) = false := decide_eq_false (by omega)
        go_wp2_with fail
        go_ret2
        simp only [if_neg hN]
        exact ⟨_, rfl, HO6.out, hB6⟩
end Go.Proofs.Ytpncjgcdiomloaa
