/-
  The walk of the law HashGroups.
-/
import Derived.Test.YtmaajkecmpopmaaHashLawA
namespace Go.Proofs.Ytmaajkecmpopmaa
open Go Go.Proofs
open Go.RowKit
set_option linter.unusedVariables false

theorem hashGroups_walk (s : ByteArray) (a : Option Addr) (c : Nat) (xs : List UInt8) (w : World) (hs : s.size ≤ 9223372036854775807) (hx : SliceAt w a c (xs.map byteV)) :
    Calls Try.prog 8 #[.string s, .slice a xs.length c] w fun e w' => e = .returned (.bool true) ∧ Below w.heap.size w w' := by
  obtain ⟨X, hX⟩ : ∃ X, xs.take 60 = X := ⟨_, rfl⟩
  have hXl : X.length ≤ 60 := by rw [← hX]; simp; omega
  have HX := Lib.hid hX
  clear hX
  obtain ⟨wn, hwn⟩ : ∃ wn, wordsN X = wn := ⟨_, rfl⟩
  have hwl : wn.length ≤ 9 := by rw [← hwn, wordsN_length]; omega
  have HWN := Lib.hid hwn
  clear hwn
  go_enter Try.func8, Try.ntmps8
  go_wp2_with fail
  refine (short_any s 20 w hs (by decide)).mono ?_
  rintro e w0 ⟨rfl, rfl⟩
  have ht := size_extract0 s 20
  generalize s.extract 0 20 = t at *
  go_wp2_with fail
  refine (few_any a c xs 60 w hx (by decide)).mono ?_
  rw [HX.out]
  rintro e w1 ⟨v1, rfl, hown1, hb1⟩
  obtain ⟨a1, c1, rfl, hs1⟩ := ownsRow_sliceMap hown1
  clear hown1
  go_wp2_with fail
  refine (rwords_any a1 c1 X w1 hs1 (by omega)).mono ?_
  rw [HWN.out]
  rintro e w2 ⟨v2, rfl, hown2, hb2⟩
  obtain ⟨a2, c2, rfl, hs2⟩ := ownsRow_sliceMap hown2
  clear hown2
  have hB2 := Below.step hb1 hb2
  go_wp2
  go_loopw [8, 9] (fun v i wr => ∃ k : Nat, k ≤ wn.length ∧ i = .int .i64 k ∧ wr.ownsRow w2.heap.size 3 1 v k ((wn.map wIV).take k) ∧ Below w2.heap.size w2 wr) (fun _ i _ => wn.length - (intOf i).toNat)
  case atStart => exact ⟨0, by omega, rfl, World.ownsRow_nil _ _ _ _, Below.refl _ _⟩
  case round =>
    obtain ⟨k, hk, rfl, hown, hB⟩ := hrel
    have hsz := hB.size
    by_cases hkn : k < wn.length
    · obtain ⟨b2, o2, rfl⟩ := hs2.addr (by rw [List.length_map]; omega)
      have f1 := (hs2.below hB).u64V hkn
      have hst := take_map_succ wIV wn hkn
      have HST := Lib.hid hst
      clear hst
      go_wp2_with (at_builtin; refine wpList_append_src _ rfl _ _ 22 rfl elemI w2.heap.size _ k _ rfl (hown.alloc _) (some ⟨wr.heap.size, 0, none⟩) 1 1 [.int .i64 (wrap64 (wn[k] : Int))] rfl (row_new (cs := [.int .i64 (wrap64 (wn[k] : Int))]) (by simp) (by omega)) (by simp [Value.oneCell']) (by omega) (by omega) (by simp; omega) ?_)
      intro v' w1' hown' hbel' hgrow
      clear hgrow
      go_wp2
      go_roundw
      case rel => exact ⟨k + 1, by omega, by go_num, by rw [HST.out]; exact hown', (hB.alloc hB.size _).trans hbel'⟩
      case measure => simp [intOf]; omega
    · obtain rfl : k = wn.length := by omega
      have hall : (wn.map wIV).take wn.length = wn.map wIV := List.take_of_length_le (by simp)
      rw [hall] at hown
      clear hall
      have hs1r : SliceAt wr a1 c1 (X.map byteV) := (hs1.below hb2).below hB
      have hBr := Below.step hB2 hB
      obtain ⟨s1, h1⟩ : ∃ s1, bytesI t.data.toList X = s1 := ⟨_, rfl⟩
      have H1 := Lib.hid h1
      clear h1
      go_wp2_with fail
      refine (bytes_any t a1 c1 X wr (by omega) hs1r (by omega)).mono ?_
      rw [H1.out]
      rintro e w3 ⟨rfl, hb3⟩
      have hown3 := ownsRow_below hown hb3
      have hsz3 := hb3.size
      go_wp2_with (at_builtin; refine wpList_append_src _ rfl _ _ 22 rfl elemI w2.heap.size _ wn.length _ rfl (hown3.alloc _) (some ⟨w3.heap.size, 0, none⟩) 1 1 [.int .i64 (X.length : Int)] rfl (row_new (cs := [.int .i64 (X.length : Int)]) (by simp) (by omega)) (by simp [Value.oneCell']) (by omega) (by omega) (by simp; omega) ?_)
      intro v' w4 hown4 hb4 _
      obtain ⟨L, hL⟩ : ∃ L, L = wn.map wordI ++ [(X.length : Int)] := ⟨_, rfl⟩
      obtain ⟨a4, c4, rfl, hs4⟩ := ownsRow_sliceMap (f := intV) (xs := L) (by rw [hL, List.map_append, ← wIV_map]; exact hown4)
      have hL2 : sumI t.data.toList L = s1 := by rw [hL, ← HWN.out, ← H1.out]; rfl
      have HL := Lib.hid hL2
      clear hL hL2 hown4 hown3 hown
      have hB3 : Below w2.heap.size w2 w3 := hB.trans (hb3.mono hB.size)
      have hB4' : Below w2.heap.size w2 w4 := (hB3.alloc hB3.size _).trans hb4
      have hs1' : SliceAt w2 a1 c1 (X.map byteV) := hs1.below hb2
      have hB4 := Below.step hB2 hB4'
      go_wp2_with fail
      refine (sum_any t a4 c4 L w4 (by omega) hs4).mono ?_
      rw [HL.out]
      rintro e w5 ⟨rfl, hb5⟩
      have hB5 := Below.step hB4 hb5
      have hs5 := (hs1'.below hB4').below hb5
      have hne : (s1 != s1) = false := by simp
      go_wp2_with fail
      refine (few_any a1 c1 X 60 w5 hs5 (by decide)).mono ?_
      rw [List.take_of_length_le hXl]
      rintro e w6 ⟨v6, rfl, hown6, hb6⟩
      go_wp2_with (at_builtin; refine wpList_append_src _ rfl _ _ 30 rfl elemB w5.heap.size _ X.length _ rfl (hown6.alloc _) (some ⟨w6.heap.size, 0, none⟩) 1 1 [.int .u8 0] rfl (row_new (cs := [.int .u8 0]) (by simp) (by omega)) (by simp [Value.oneCell']) (by omega) (by omega) (by have := hb6.size; simp; omega) ?_)
      intro v7 w7 hown7 hb7 _
      obtain ⟨Z, hZ⟩ : ∃ Z, Z = X ++ [(0 : UInt8)] := ⟨_, rfl⟩
      have hZl : Z.length ≤ 61 := by rw [hZ]; simp; omega
      obtain ⟨a7, c7, rfl, hs7⟩ := ownsRow_sliceMap (f := byteV) (xs := Z) (by rw [hZ, List.map_append]; exact hown7)
      have hB57 : Below w5.heap.size w5 w7 := (hb6.alloc hb6.size _).trans hb7
      have hB7 := Below.step hB5 hB57
      have hs7' := hs5.below hB57
      have hz := bytesI_zero t.data.toList X
      rw [← hZ, H1.out] at hz
      obtain ⟨s2, h2⟩ : ∃ s2, bytesI t.data.toList Z = s2 := ⟨_, rfl⟩
      rw [h2] at hz
      have H2 := Lib.hid h2
      have HZ := Lib.hid hZ
      clear h2 hZ hown7 hown6
      by_cases hm : X.length % 8 = 0
      · have hm1 : ((X.length : Int) % 8 == 0) = true := by rw [beq_iff_eq]; omega
        clear hz hm
        go_wp2_with fail
        refine (lives_any w7).mono ?_
        rintro e w8 ⟨rfl, hb8⟩
        go_wp2_with fail
        go_ret
        exact ⟨rfl, Below.step hB7 hb8⟩
      · have hm1 : ((X.length : Int) % 8 == 0) = false := by rw [beq_eq_false_iff_ne]; omega
        have hm2 : (s2 != s1) = true := bne_iff_ne.2 (hz hm (by omega))
        clear hz hm
        go_wp2_with fail
        refine (bytes_any t a7 c7 Z w7 (by omega) hs7 (by omega)).mono ?_
        rw [H2.out]
        rintro e w8 ⟨rfl, hb8⟩
        go_wp2_with fail
        refine (bytes_any t a1 c1 X w8 (by omega) (hs7'.below hb8) (by omega)).mono ?_
        rw [H1.out]
        rintro e w9 ⟨rfl, hb9⟩
        go_wp2_with fail
        refine (lives_any w9).mono ?_
        rintro e w10 ⟨rfl, hb10⟩
        go_wp2_with fail
        go_ret
        exact ⟨rfl, Below.step (Below.step (Below.step hB7 hb8) hb9) hb10⟩
end Go.Proofs.Ytmaajkecmpopmaa
