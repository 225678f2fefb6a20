/-
  The walks of the laws HashOneWord and HashOneLabel.
-/
import Derived.Test.YtmaajkecmpopmaaHashLives
import Derived.Test.YtmaajkecmpopmaaHashInj
import Derived.Deep.RegionHeld3
import Derived.Deep.Light
namespace Go.Proofs.Ytmaajkecmpopmaa
open Go Go.Proofs
open Go.RowKit
set_option linter.unusedVariables false

theorem own_head {w : World} {base : Nat} {e : TypeId} {size : Nat} {v : Value} {n : Nat} {xs : List Value} (h : w.ownsRow base e size v n xs) (hn : 0 < n) : ∃ g cap, v = .slice (some ⟨g, 0, none⟩) n cap ∧ base ≤ g ∧ n ≤ cap ∧ cap ≤ 9223372036854775807 := by
  rcases h.2 with ⟨_, h0⟩ | ⟨g, cap, _, rfl, hb, _, hc, hm, _⟩
  · omega
  · exact ⟨g, cap, rfl, hb, hc, by simpa [maxLen] using hm⟩

theorem hashOneWord_walk (s : ByteArray) (a : Option Addr) (c : Nat) (xs : List Int) (at_ v : Int) (w : World) (hs : s.size ≤ 9223372036854775807) (hx : SliceAt w a c (xs.map intV)) (hxb : ∀ n ∈ xs, -9223372036854775808 ≤ n ∧ n ≤ 9223372036854775807)
    (hat : -9223372036854775808 ≤ at_ ∧ at_ ≤ 9223372036854775807) (hv : -9223372036854775808 ≤ v ∧ v ≤ 9223372036854775807) :
    Calls Try.prog 5 #[.string s, .slice a xs.length c, .int .i64 at_, .int .i64 v] w fun e w' => e = .returned (.bool true) ∧ Below w.heap.size w w' := by
  obtain ⟨ys, hys⟩ : ∃ ys, xs.take 9 = ys := ⟨_, rfl⟩
  have hyl : ys.length ≤ 9 := by rw [← hys]; simp; omega
  have hyb : ∀ n ∈ ys, -9223372036854775808 ≤ n ∧ n ≤ 9223372036854775807 := fun n hn => hxb n (by rw [← hys] at hn; exact List.mem_of_mem_take hn)
  have HYS := Lib.hid hys
  clear hys
  obtain ⟨A, hA⟩ : ∃ A, A = ys ++ [(7 : Int)] := ⟨_, rfl⟩
  have hAl : A.length = ys.length + 1 := by rw [hA]; simp
  have hAb : ∀ n ∈ A, -9223372036854775808 ≤ n ∧ n ≤ 9223372036854775807 := by
    intro n hn
    rw [hA] at hn
    rcases List.mem_append.1 hn with h | h
    · exact hyb n h
    · simp at h; omega
  have hk0 := aroundI_lo at_ A.length (by omega)
  have hk1 := aroundI_hi at_ A.length (by omega)
  obtain ⟨k, hk⟩ : ∃ k : Nat, aroundI at_ A.length = (k : Int) := ⟨(aroundI at_ A.length).toNat, by omega⟩
  have hkA : k < A.length := by omega
  have HK := Lib.hid hk
  have HA := Lib.hid hA
  have HAl := Lib.hid hAl
  have hAl1 : A.length ≤ 10 := by omega
  have hAl2 : 0 < A.length := by omega
  clear hk hk0 hk1 hA hAl
  go_enter Try.func5, Try.ntmps5
  go_wp2_with fail
  refine (short_any s 20 w hs (by decide)).mono ?_
  rintro e w0 ⟨rfl, rfl⟩
  have ht := size_extract0 s 20
  generalize s.extract 0 20 = t at *
  go_wp2_with fail
  refine (ints_any a c xs 9 w hx (by decide)).mono ?_
  rw [HYS.out]
  rintro e w1 ⟨v1, rfl, hown, hb1⟩
  go_wp2_with (at_builtin; refine wpList_append_src _ rfl _ _ 22 rfl elemI w.heap.size _ ys.length _ rfl (hown.alloc _) (some ⟨w1.heap.size, 0, none⟩) 1 1 [.int .i64 7] rfl (row_new (cs := [.int .i64 7]) (by simp) (by omega)) (by simp [Value.oneCell']) (by omega) (by omega) (by have := hb1.size; simp; omega) ?_)
  intro v2 w2 hown2 hb2 _
  have hB2 : Below w.heap.size w w2 := (hb1.alloc hb1.size _).trans hb2
  obtain ⟨a2, c2, rfl, hs2⟩ := ownsRow_sliceMap (f := intV) (xs := A) (by rw [HA.out, List.map_append]; exact hown2)
  clear hown2 hown hb1 hb2
  go_wp2_with fail
  refine (ints_any a2 c2 A 10 w2 hs2 (by decide)).mono ?_
  have hA10 : A.take 10 = A := List.take_of_length_le (by omega)
  rw [hA10]
  clear hA10
  rintro e w3 ⟨v3, rfl, hown3, hb3⟩
  obtain ⟨g, cap, rfl, hg, hgc, hgm⟩ := own_head hown3 hAl2
  go_wp2_with fail
  refine (around_any at_ A.length w3 (by omega) (by omega) hat.1 hat.2).mono ?_
  rw [HK.out]
  rintro e w4 ⟨rfl, rfl⟩
  have f1 := hown3.cellAt k (by omega)
  rw [List.getElem?_map, List.getElem?_eq_getElem hkA] at f1
  have f2 := hown3.frozenAt k
  have hs3 := hs2.below hb3
  obtain ⟨b2, o2, rfl⟩ := hs3.addr (by simpa using hAl2)
  have hset := hown3.stored k (intV v)
  rw [← List.map_set] at hset
  obtain ⟨hown4, hgr4⟩ := hset
  have hb4 : Below w2.heap.size w2 (w3.setCell ⟨g, k, none⟩ (.int .i64 v)) := hb3.setCell (p := ⟨g, k, none⟩) hg _
  obtain ⟨x, hx0⟩ : ∃ x, x = A[k] := ⟨_, rfl⟩
  have hxb' := hAb _ (List.getElem_mem hkA)
  rw [← hx0] at hxb' f1
  have hsum := sumI_set t.data.toList A hkA v
  rw [← hx0] at hsum
  have hf5 := (hs2.below hb4).intV hkA
  rw [← hx0] at hf5
  obtain ⟨B, hB⟩ : ∃ B, B = A.set k v := ⟨_, rfl⟩
  have hBl : B.length = A.length := by rw [hB]; simp
  rw [← hB] at hsum hown4
  obtain ⟨aB, cB, hvB, hsB⟩ := ownsRow_sliceMap hown4
  rw [hBl] at hvB
  simp only [Value.slice.injEq, true_and] at hvB
  obtain ⟨rfl, rfl⟩ := hvB
  have HBl := Lib.hid hBl
  obtain ⟨s1, h1⟩ : ∃ s1, sumI t.data.toList A = s1 := ⟨_, rfl⟩
  obtain ⟨s2, h2⟩ : ∃ s2, sumI t.data.toList B = s2 := ⟨_, rfl⟩
  rw [h1, h2] at hsum
  have H1 := Lib.hid h1
  have H2 := Lib.hid h2
  have HX := Lib.hid hx0
  have hB4 : Below w.heap.size w (w3.setCell ⟨g, k, none⟩ (.int .i64 v)) := hB2.trans (hb4.mono hB2.size)
  obtain ⟨w5, hw5⟩ : ∃ w5, w5 = w3.setCell ⟨g, k, none⟩ (.int .i64 v) := ⟨_, rfl⟩
  have hs5 : SliceAt w5 (some ⟨b2, o2, none⟩) c2 (A.map intV) := by rw [hw5]; exact hs2.below hb4
  have HW5 := Lib.hid hw5
  have hsB5 : SliceAt w5 (some ⟨g, 0, none⟩) cap (B.map intV) := by rw [hw5]; exact hsB
  rw [← hw5] at hB4 hf5
  have k1 : ∀ W, (Below w5.heap.size w5 W ∧ W.cell? ⟨b2, o2 + k, none⟩ = some (.int .i64 x)) → Calls Try.prog 13 #[.string t, .slice (some ⟨b2, o2, none⟩) A.length c2] W fun e w' => e = .returned (.int .u64 s1) ∧ Below w5.heap.size w5 w' ∧ w'.cell? ⟨b2, o2 + k, none⟩ = some (.int .i64 x) := by
    intro W hW0
    have hW := hW0.1
    refine (sum_any t _ _ A W (by omega) (hs5.below hW)).mono ?_
    rintro e w' ⟨rfl, hb⟩
    exact ⟨by rw [h1], Below.step hW hb, Below.kept (Below.step hW hb) (Nat.le_refl _) hf5⟩
  have k2 : ∀ W, (Below w5.heap.size w5 W ∧ W.cell? ⟨b2, o2 + k, none⟩ = some (.int .i64 x)) → Calls Try.prog 13 #[.string t, .slice (some ⟨g, 0, none⟩) A.length cap] W fun e w' => e = .returned (.int .u64 s2) ∧ Below w5.heap.size w5 w' ∧ w'.cell? ⟨b2, o2 + k, none⟩ = some (.int .i64 x) := by
    intro W hW0
    have hW := hW0.1
    have := sum_any t _ _ B W (by omega) (hsB5.below hW)
    rw [hBl] at this
    refine this.mono ?_
    rintro e w' ⟨rfl, hb⟩
    exact ⟨by rw [h2], Below.step hW hb, Below.kept (Below.step hW hb) (Nat.le_refl _) hf5⟩
  have k3 : ∀ W, (Below w5.heap.size w5 W ∧ W.cell? ⟨b2, o2 + k, none⟩ = some (.int .i64 x)) → Calls Try.prog 15 #[] W fun e w' => e = .returned (.bool true) ∧ Below w5.heap.size w5 w' ∧ w'.cell? ⟨b2, o2 + k, none⟩ = some (.int .i64 x) := by
    intro W hW0
    have hW := hW0.1
    refine (lives_any W).mono ?_
    rintro e w' ⟨rfl, hb⟩
    exact ⟨rfl, Below.step hW hb, Below.kept (Below.step hW hb) (Nat.le_refl _) hf5⟩
  have K1 := Lib.hid k1
  have K2 := Lib.hid k2
  have K3 := Lib.hid k3
  clear k1 k2 k3 h1 h2 hx0 hBl hsB hown4 hgr4 hw5 hb4
  have hcase : ((s1 == s2) = true ∧ (x == v) = true) ∨ ((s1 == s2) = false ∧ (x == v) = false) := by
    by_cases hxv : x = v
    · exact .inl ⟨beq_iff_eq.2 (hsum.2 (by rw [hxv])), beq_iff_eq.2 hxv⟩
    · exact .inr ⟨beq_eq_false_iff_ne.2 (fun h => hxv (by have := hsum.1 h; omega)), beq_eq_false_iff_ne.2 hxv⟩
  clear hsum
  go_wp2_with fail
  rw [← HW5.out]
  rcases hcase with ⟨t1, t2⟩ | ⟨t1, t2⟩
  all_goals
    go_region_held3 (fun W => Below w5.heap.size w5 W ∧ W.cell? ⟨b2, o2 + k, none⟩ = some (.int .i64 x)) (first | assumption | exact ⟨Below.drew (Below.refl _ _), hf5⟩)
      (first | (go_at_call 13; (with_reducible refine (K1.out _ (by assumption)).mono ?_); rintro e w' ⟨rfl, hbb⟩) | (go_at_call 13; (with_reducible refine (K2.out _ (by assumption)).mono ?_); rintro e w' ⟨rfl, hbb⟩) | (go_at_call 15; (with_reducible refine (K3.out _ (by assumption)).mono ?_); rintro e w' ⟨rfl, hbb⟩))
    go_wp2
    go_ret
    exact ⟨rfl, Below.step hB4 (And.left (b := _ = _) (by assumption))⟩
end Go.Proofs.Ytmaajkecmpopmaa
