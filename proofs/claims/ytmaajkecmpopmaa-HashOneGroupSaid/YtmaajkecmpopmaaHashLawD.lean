/-
  The walk of the law HashOneGroup.
-/
import Derived.Test.YtmaajkecmpopmaaHashLawC
namespace Go.Proofs.Ytmaajkecmpopmaa
open Go Go.Proofs
open Go.RowKit
set_option linter.unusedVariables false

/-- 'y[k] = y[k] ^ d', in the walk's spelling: what is owned afterwards. -/
theorem own_xor {w : World} {base e g cap k : Nat} {L : List UInt8} (h : w.ownsRow base e 1 (.slice (some ⟨g, 0, none⟩) L.length cap) L.length (L.map byteV)) (hk : k < L.length) (d : UInt8) :
    (w.setCell ⟨g, k, none⟩ (.int .u8 (bits BinOp.xor IntKind.u8 (L[k].toNat : Int) (d.toNat : Int)))).ownsRow base e 1 (.slice (some ⟨g, 0, none⟩) (L.set k (L[k] ^^^ d)).length cap) (L.set k (L[k] ^^^ d)).length ((L.set k (L[k] ^^^ d)).map byteV) := by
  have := (h.stored k (byteV (L[k] ^^^ d))).1
  rw [← List.map_set] at this
  rw [xor_u8, List.length_set]
  exact this
theorem own_byte {w : World} {base e g cap k : Nat} {L : List UInt8} (h : w.ownsRow base e 1 (.slice (some ⟨g, 0, none⟩) L.length cap) L.length (L.map byteV)) (hk : k < L.length) :
    w.cell? ⟨g, k, none⟩ = some (.int .u8 (L[k].toNat : Int)) := by
  rw [h.cellAt k (by omega), List.getElem?_map, List.getElem?_eq_getElem hk]; rfl
theorem own_slice {α : Type} {f : α → Value} {w : World} {base e g cap : Nat} {L : List α} (h : w.ownsRow base e 1 (.slice (some ⟨g, 0, none⟩) L.length cap) L.length (L.map f)) : SliceAt w (some ⟨g, 0, none⟩) cap (L.map f) := by
  obtain ⟨a, c, hv, hs⟩ := ownsRow_sliceMap h
  simp only [Value.slice.injEq, true_and] at hv
  obtain ⟨rfl, rfl⟩ := hv
  exact hs

/-- The last statement, whatever the changed bytes are. -/
def groupEnd (X Y : List UInt8) (k : Nat) : Prop := Y.length = X.length ∧ ∀ i, i / 8 ≠ k / 8 → X[i]? = Y[i]?

theorem hashOneGroup_walk (s : ByteArray) (a : Option Addr) (c : Nat) (xs : List UInt8) (at_ one two : Int) (w : World) (hs : s.size ≤ 9223372036854775807) (hx : SliceAt w a c (xs.map byteV))
    (hat : -9223372036854775808 ≤ at_ ∧ at_ ≤ 9223372036854775807) (hone : 0 ≤ one ∧ one ≤ 255) (htwo : 0 ≤ two ∧ two ≤ 255) :
    Calls Try.prog 6 #[.string s, .slice a xs.length c, .int .i64 at_, .int .u8 one, .int .u8 two] w fun e w' => e = .returned (.bool true) ∧ Below w.heap.size w w' := by
  obtain ⟨d1, rfl⟩ : ∃ d : UInt8, one = (d.toNat : Int) := ⟨UInt8.ofNat one.toNat, by rw [UInt8.toNat_ofNat']; omega⟩
  obtain ⟨d2, rfl⟩ : ∃ d : UInt8, two = (d.toNat : Int) := ⟨UInt8.ofNat two.toNat, by rw [UInt8.toNat_ofNat']; omega⟩
  obtain ⟨ys, hys⟩ : ∃ ys, xs.take 39 = ys := ⟨_, rfl⟩
  have hyl : ys.length ≤ 39 := by rw [← hys]; simp; omega
  have HYS := Lib.hid hys
  clear hys
  obtain ⟨X, hX⟩ : ∃ X, X = ys ++ [(65 : UInt8)] := ⟨_, rfl⟩
  have hXl : X.length = ys.length + 1 := by rw [hX]; simp
  have hk0 := aroundI_lo at_ X.length (by omega)
  have hk1 := aroundI_hi at_ X.length (by omega)
  obtain ⟨k, hk⟩ : ∃ k : Nat, aroundI at_ X.length = (k : Int) := ⟨(aroundI at_ X.length).toNat, by omega⟩
  have hkX : k < X.length := by omega
  have hX1 : X.length ≤ 40 ∧ 0 < X.length := by omega
  have HK := Lib.hid hk
  have HX := Lib.hid hX
  have HXl := Lib.hid hXl
  clear hk hk0 hk1 hX hXl
  go_enter Try.func6, Try.ntmps6
  go_wp2_with fail
  refine (short_any s 20 w hs (by decide)).mono ?_
  rintro e w0 ⟨rfl, rfl⟩
  have ht := size_extract0 s 20
  generalize s.extract 0 20 = t at *
  go_wp2_with fail
  refine (few_any a c xs 39 w hx (by decide)).mono ?_
  rw [HYS.out]
  rintro e w1 ⟨v1, rfl, hown, hb1⟩
  go_wp2_with (at_builtin; refine wpList_append_src _ rfl _ _ 30 rfl elemB w.heap.size _ ys.length _ rfl (hown.alloc _) (some ⟨w1.heap.size, 0, none⟩) 1 1 [.int .u8 65] rfl (row_new (cs := [.int .u8 65]) (by simp) (by omega)) (by simp [Value.oneCell']) (by omega) (by omega) (by have := hb1.size; simp; omega) ?_)
  intro v2 w2 hown2 hb2 _
  have hB2 : Below w.heap.size w w2 := (hb1.alloc hb1.size _).trans hb2
  obtain ⟨a2, c2', rfl, hs2⟩ := ownsRow_sliceMap (f := byteV) (xs := X) (by rw [HX.out, List.map_append]; exact hown2)
  clear hown2 hown hb1 hb2
  go_wp2_with fail
  refine (few_any a2 c2' X 40 w2 hs2 (by decide)).mono ?_
  rw [List.take_of_length_le hX1.1]
  rintro e w3 ⟨v3, rfl, hown3, hb3⟩
  obtain ⟨g, cap, rfl, hg, hgc, hgm⟩ := own_head hown3 hX1.2
  go_wp2_with fail
  refine (around_any at_ X.length w3 (by omega) (by omega) hat.1 hat.2).mono ?_
  rw [HK.out]
  rintro e w4 ⟨rfl, rfl⟩
  have f1 := own_byte hown3 hkX
  have f2 := hown3.frozenAt k
  have hown4 := own_xor hown3 hkX d1
  obtain ⟨Y1, hY1⟩ : ∃ Y1, X.set k (X[k] ^^^ d1) = Y1 := ⟨_, rfl⟩
  rw [hY1] at hown4
  have hYl : Y1.length = X.length := by rw [← hY1]; simp
  rw [hYl] at hown4
  have hb4 : Below w2.heap.size w2 (w3.setCell ⟨g, k, none⟩ (.int .u8 (bits BinOp.xor IntKind.u8 (X[k].toNat : Int) (d1.toNat : Int)))) := hb3.setCell (p := ⟨g, k, none⟩) hg _
  have hg1 : groupEnd X Y1 k := ⟨hYl, fun i hi => by rw [← hY1, List.getElem?_set_ne (fun e => hi (by rw [e]))]⟩
  by_cases hc : k + 1 < X.length ∧ (k + 1) % 8 ≠ 0
  · obtain ⟨hc1, hc2⟩ := hc
    have hm8 : (((k : Int) + 1) % 8 != 0) = true := by rw [bne_iff_ne]; omega
    have f3 := own_byte hown3 hc1
    have f4 := hown3.frozenAt (k + 1)
    have hY1k : Y1[k + 1] = X[k + 1] := by simp [← hY1]
    rw [← hYl] at hown4
    have hown5 := own_xor hown4 (k := k + 1) (by omega) d2
    rw [hY1k] at hown5
    obtain ⟨Y2, hY2⟩ : ∃ Y2, Y1.set (k + 1) (X[k + 1] ^^^ d2) = Y2 := ⟨_, rfl⟩
    rw [hY2] at hown5
    have hb5 := hb4.setCell (p := ⟨g, k + 1, none⟩) hg (.int .u8 (bits BinOp.xor IntKind.u8 (X[k + 1].toNat : Int) (d2.toNat : Int)))
    have hg2 : groupEnd X Y2 k := ⟨by rw [← hY2, List.length_set, hYl], fun i hi => by rw [hg1.2 i hi, ← hY2, List.getElem?_set_ne (fun e => by omega)]⟩
    clear hY1 hY2 hown4 hY1k hYl hg1 hb4
    go_wp2_with fail
    obtain ⟨w5, hw5⟩ : ∃ w5, w5 = (w3.setCell ⟨g, k, none⟩ (.int .u8 (bits BinOp.xor IntKind.u8 (X[k].toNat : Int) (d1.toNat : Int)))).setCell ⟨g, k + 1, none⟩ (.int .u8 (bits BinOp.xor IntKind.u8 (X[k + 1].toNat : Int) (d2.toNat : Int))) := ⟨_, rfl⟩
    rw [← hw5] at hb5 hown5 ⊢
    clear hw5
    obtain ⟨hYl5, hout⟩ := hg2
    have hsum : bytesI t.data.toList X = bytesI t.data.toList Y2 ↔ X = Y2 := bytesI_group _ _ _ _ hYl5.symm hout
    have hs5 := hs2.below hb5
    have hsY := own_slice hown5
    obtain ⟨s1, h1⟩ : ∃ s1, bytesI t.data.toList X = s1 := ⟨_, rfl⟩
    obtain ⟨s2, h2⟩ : ∃ s2, bytesI t.data.toList Y2 = s2 := ⟨_, rfl⟩
    rw [h1, h2] at hsum
    have hB5 : Below w.heap.size w w5 := Below.step hB2 hb5
    have hcase : ((s1 == s2) = true ∧ decide (X = Y2) = true) ∨ ((s1 == s2) = false ∧ decide (X = Y2) = false) := by
      by_cases hd : X = Y2
      · exact .inl ⟨beq_iff_eq.2 (hsum.2 hd), decide_eq_true hd⟩
      · exact .inr ⟨beq_eq_false_iff_ne.2 (fun h => hd (hsum.1 h)), decide_eq_false hd⟩
    have c2 := fun W (hW : SliceAt W (some ⟨g, 0, none⟩) cap (Y2.map byteV)) => bytes_any t (some ⟨g, 0, none⟩) cap Y2 W (by omega) hW (by omega)
    have c3 := fun W (hX : SliceAt W a2 c2' (X.map byteV)) (hW : SliceAt W (some ⟨g, 0, none⟩) cap (Y2.map byteV)) => sameBytes_any a2 (some ⟨g, 0, none⟩) c2' cap X Y2 W hX hW
    rw [hYl5] at c2 c3
    have C2 := Lib.hid c2
    have C3 := Lib.hid c3
    have H1 := Lib.hid h1
    have H2 := Lib.hid h2
    have HYl := Lib.hid hYl5
    clear c2 c3 h1 h2 hYl5 hsum hout hown5
    refine (bytes_any t a2 c2' X w5 (by omega) hs5 (by omega)).mono ?_
    rw [H1.out]
    rintro e w6 ⟨rfl, hb6⟩
    go_wp2_with fail
    refine (C2.out w6 (hsY.below hb6)).mono ?_
    rw [H2.out]
    rintro e w7 ⟨rfl, hb7⟩
    go_wp2_with fail
    refine (C3.out w7 ((hs5.below hb6).below hb7) ((hsY.below hb6).below hb7)).mono ?_
    rintro e w8 ⟨rfl, hb8⟩
    generalize decide (X = Y2) = bb at *
    have hB8 := Below.step (Below.step (Below.step hB5 hb6) hb7) hb8
    rcases hcase with ⟨t1, rfl⟩ | ⟨t1, rfl⟩
    all_goals
      go_wp2_with fail
      refine (lives_any w8).mono ?_
      rintro e w9 ⟨rfl, hb9⟩
      go_wp2_with fail
      go_ret
      exact ⟨rfl, Below.step hB8 hb9⟩
  · clear hY1
    rw [← hYl] at hown4
    by_cases hc1 : k + 1 < X.length
    · have hm8 : (((k : Int) + 1) % 8 != 0) = false := by rw [bne_eq_false_iff_eq]; omega
      clear hc hYl
      go_wp2_with fail
      obtain ⟨w5, hw5⟩ : ∃ w5, w5 = w3.setCell ⟨g, k, none⟩ (.int .u8 (bits BinOp.xor IntKind.u8 (X[k].toNat : Int) (d1.toNat : Int))) := ⟨_, rfl⟩
      rw [← hw5] at hb4 hown4 ⊢
      clear hw5
      obtain ⟨hYl5, hout⟩ := hg1
      have hsum : bytesI t.data.toList X = bytesI t.data.toList Y1 ↔ X = Y1 := bytesI_group _ _ _ _ hYl5.symm hout
      have hs5 := hs2.below hb4
      have hsY := own_slice hown4
      obtain ⟨s1, h1⟩ : ∃ s1, bytesI t.data.toList X = s1 := ⟨_, rfl⟩
      obtain ⟨s2, h2⟩ : ∃ s2, bytesI t.data.toList Y1 = s2 := ⟨_, rfl⟩
      rw [h1, h2] at hsum
      have hB5 : Below w.heap.size w w5 := Below.step hB2 hb4
      have hcase : ((s1 == s2) = true ∧ decide (X = Y1) = true) ∨ ((s1 == s2) = false ∧ decide (X = Y1) = false) := by
        by_cases hd : X = Y1
        · exact .inl ⟨beq_iff_eq.2 (hsum.2 hd), decide_eq_true hd⟩
        · exact .inr ⟨beq_eq_false_iff_ne.2 (fun h => hd (hsum.1 h)), decide_eq_false hd⟩
      have c2 := fun W (hW : SliceAt W (some ⟨g, 0, none⟩) cap (Y1.map byteV)) => bytes_any t (some ⟨g, 0, none⟩) cap Y1 W (by omega) hW (by omega)
      have c3 := fun W (hX : SliceAt W a2 c2' (X.map byteV)) (hW : SliceAt W (some ⟨g, 0, none⟩) cap (Y1.map byteV)) => sameBytes_any a2 (some ⟨g, 0, none⟩) c2' cap X Y1 W hX hW
      rw [hYl5] at c2 c3
      have C2 := Lib.hid c2
      have C3 := Lib.hid c3
      have H1 := Lib.hid h1
      have H2 := Lib.hid h2
      have HYl := Lib.hid hYl5
      clear c2 c3 h1 h2 hYl5 hsum hout hown4
      refine (bytes_any t a2 c2' X w5 (by omega) hs5 (by omega)).mono ?_
      rw [H1.out]
      rintro e w6 ⟨rfl, hb6⟩
      go_wp2_with fail
      refine (C2.out w6 (hsY.below hb6)).mono ?_
      rw [H2.out]
      rintro e w7 ⟨rfl, hb7⟩
      go_wp2_with fail
      refine (C3.out w7 ((hs5.below hb6).below hb7) ((hsY.below hb6).below hb7)).mono ?_
      rintro e w8 ⟨rfl, hb8⟩
      generalize decide (X = Y1) = bb at *
      have hB8 := Below.step (Below.step (Below.step hB5 hb6) hb7) hb8
      rcases hcase with ⟨t1, rfl⟩ | ⟨t1, rfl⟩
      all_goals
        go_wp2_with fail
        refine (lives_any w8).mono ?_
        rintro e w9 ⟨rfl, hb9⟩
        go_wp2_with fail
        go_ret
        exact ⟨rfl, Below.step hB8 hb9⟩
    · clear hc hYl
      go_wp2_with fail
      obtain ⟨w5, hw5⟩ : ∃ w5, w5 = w3.setCell ⟨g, k, none⟩ (.int .u8 (bits BinOp.xor IntKind.u8 (X[k].toNat : Int) (d1.toNat : Int))) := ⟨_, rfl⟩
      rw [← hw5] at hb4 hown4 ⊢
      clear hw5
      obtain ⟨hYl5, hout⟩ := hg1
      have hsum : bytesI t.data.toList X = bytesI t.data.toList Y1 ↔ X = Y1 := bytesI_group _ _ _ _ hYl5.symm hout
      have hs5 := hs2.below hb4
      have hsY := own_slice hown4
      obtain ⟨s1, h1⟩ : ∃ s1, bytesI t.data.toList X = s1 := ⟨_, rfl⟩
      obtain ⟨s2, h2⟩ : ∃ s2, bytesI t.data.toList Y1 = s2 := ⟨_, rfl⟩
      rw [h1, h2] at hsum
      have hB5 : Below w.heap.size w w5 := Below.step hB2 hb4
      have hcase : ((s1 == s2) = true ∧ decide (X = Y1) = true) ∨ ((s1 == s2) = false ∧ decide (X = Y1) = false) := by
        by_cases hd : X = Y1
        · exact .inl ⟨beq_iff_eq.2 (hsum.2 hd), decide_eq_true hd⟩
        · exact .inr ⟨beq_eq_false_iff_ne.2 (fun h => hd (hsum.1 h)), decide_eq_false hd⟩
      have c2 := fun W (hW : SliceAt W (some ⟨g, 0, none⟩) cap (Y1.map byteV)) => bytes_any t (some ⟨g, 0, none⟩) cap Y1 W (by omega) hW (by omega)
      have c3 := fun W (hX : SliceAt W a2 c2' (X.map byteV)) (hW : SliceAt W (some ⟨g, 0, none⟩) cap (Y1.map byteV)) => sameBytes_any a2 (some ⟨g, 0, none⟩) c2' cap X Y1 W hX hW
      rw [hYl5] at c2 c3
      have C2 := Lib.hid c2
      have C3 := Lib.hid c3
      have H1 := Lib.hid h1
      have H2 := Lib.hid h2
      have HYl := Lib.hid hYl5
      clear c2 c3 h1 h2 hYl5 hsum hout hown4
      refine (bytes_any t a2 c2' X w5 (by omega) hs5 (by omega)).mono ?_
      rw [H1.out]
      rintro e w6 ⟨rfl, hb6⟩
      go_wp2_with fail
      refine (C2.out w6 (hsY.below hb6)).mono ?_
      rw [H2.out]
      rintro e w7 ⟨rfl, hb7⟩
      go_wp2_with fail
      refine (C3.out w7 ((hs5.below hb6).below hb7) ((hsY.below hb6).below hb7)).mono ?_
      rintro e w8 ⟨rfl, hb8⟩
      generalize decide (X = Y1) = bb at *
      have hB8 := Below.step (Below.step (Below.step hB5 hb6) hb7) hb8
      rcases hcase with ⟨t1, rfl⟩ | ⟨t1, rfl⟩
      all_goals
        go_wp2_with fail
        refine (lives_any w8).mono ?_
        rintro e w9 ⟨rfl, hb9⟩
        go_wp2_with fail
        go_ret
        exact ⟨rfl, Below.step hB8 hb9⟩
end Go.Proofs.Ytmaajkecmpopmaa
