/-
  The walk of the law HashOneLabel.
-/
import Derived.Test.YtmaajkecmpopmaaHashLawB
namespace Go.Proofs.Ytmaajkecmpopmaa
open Go Go.Proofs
open Go.RowKit
set_option linter.unusedVariables false

theorem xor_u8 (a b : UInt8) : bits BinOp.xor IntKind.u8 (a.toNat : Int) (b.toNat : Int) = (a ^^^ b).toNat := by
  have ha := a.toNat_lt
  have hb := b.toNat_lt
  rw [u8_xor_nat _ _ (by omega) (by omega), UInt8.toNat_xor]

theorem hashOneLabel_walk (s : ByteArray) (a : Option Addr) (c : Nat) (xs : List Int) (at_ by_ : Int) (w : World) (hs : s.size ≤ 9223372036854775807) (hx : SliceAt w a c (xs.map intV)) (hxb : ∀ n ∈ xs, -9223372036854775808 ≤ n ∧ n ≤ 9223372036854775807)
    (hat : -9223372036854775808 ≤ at_ ∧ at_ ≤ 9223372036854775807) (hby : 0 ≤ by_ ∧ by_ ≤ 255) :
    Calls Try.prog 7 #[.string s, .slice a xs.length c, .int .i64 at_, .int .u8 by_] w fun e w' => e = .returned (.bool true) ∧ Below w.heap.size w w' := by
  obtain ⟨d, rfl⟩ : ∃ d : UInt8, by_ = (d.toNat : Int) := ⟨UInt8.ofNat by_.toNat, by rw [UInt8.toNat_ofNat']; omega⟩
  go_enter Try.func7, Try.ntmps7
  go_wp2_with fail
  refine (ints_any a c xs 6 w hx (by decide)).mono ?_
  rintro e w1 ⟨v1, rfl, hown1, hb1⟩
  obtain ⟨a1, c1, rfl, hs1⟩ := ownsRow_sliceMap hown1
  generalize xs.take 6 = ys at *
  clear hown1
  go_wp2_with fail
  refine (short_any s 29 w1 hs (by decide)).mono ?_
  rintro e w0 ⟨rfl, rfl⟩
  have ht := size_extract0 s 29
  generalize s.extract 0 29 = t at *
  have hsz : (t ++ ⟨#[120]⟩ : ByteArray).size = t.size + 1 := by rw [ByteArray.size_append]; rfl
  have hsz2 : 0 < (t ++ ⟨#[120]⟩ : ByteArray).size ∧ (t ++ ⟨#[120]⟩ : ByteArray).size ≤ 30 := by omega
  clear hsz
  obtain ⟨L, hL⟩ : ∃ L, (t ++ ⟨#[120]⟩ : ByteArray).data.toList = L := ⟨_, rfl⟩
  have hLl : 0 < L.length ∧ L.length ≤ 30 := by rw [← hL]; exact hsz2
  have HL := Lib.hid hL
  clear hL
  go_wp2_with (with_reducible refine wpList_bytes_list _ rfl _ rfl Try.underlying9 Try.underlying30 Try.underlying5 _ rfl L HL.out (by omega) ?_; intro a2 c2 w2 hs2 hb2)
  refine (few_any a2 c2 L 30 w2 hs2 (by decide)).mono ?_
  rw [List.take_of_length_le hLl.2]
  rintro e w3 ⟨v3, rfl, hown3, hb3⟩
  obtain ⟨g, cap, rfl, hg, hgc, hgm⟩ := own_head hown3 hLl.1
  have hk0 := aroundI_lo at_ L.length (by omega)
  have hk1 := aroundI_hi at_ L.length (by omega)
  obtain ⟨k, hk⟩ : ∃ k : Nat, aroundI at_ L.length = (k : Int) := ⟨(aroundI at_ L.length).toNat, by omega⟩
  have hkL : k < L.length := by omega
  have HK := Lib.hid hk
  clear hk hk0 hk1
  go_wp2_with fail
  refine (around_any at_ L.length w3 (by omega) (by omega) hat.1 hat.2).mono ?_
  rw [HK.out]
  rintro e w4 ⟨rfl, rfl⟩
  have f1 : w3.cell? ⟨g, k, none⟩ = some (.int .u8 (L[k].toNat : Int)) := by
    rw [hown3.cellAt k (by omega), List.getElem?_map, List.getElem?_eq_getElem hkL]; rfl
  have f2 := hown3.frozenAt k
  have hset := (hown3.stored k (byteV (L[k] ^^^ d))).1
  rw [← List.map_set] at hset
  obtain ⟨B, hB⟩ : ∃ B, L.set k (L[k] ^^^ d) = B := ⟨_, rfl⟩
  rw [hB] at hset
  have hBl : B.length = L.length := by rw [← hB]; simp
  have hb4 : Below w2.heap.size w2 (w3.setCell ⟨g, k, none⟩ (.int .u8 (bits BinOp.xor IntKind.u8 (L[k].toNat : Int) (d.toNat : Int)))) := hb3.setCell (p := ⟨g, k, none⟩) hg _
  have hset' : (w3.setCell ⟨g, k, none⟩ (.int .u8 (bits BinOp.xor IntKind.u8 (L[k].toNat : Int) (d.toNat : Int)))).ownsRow w2.heap.size 5 1 (.slice (some ⟨g, 0, none⟩) L.length cap) L.length (B.map byteV) := by
    rw [xor_u8]; exact hset
  obtain ⟨aB, cB, hvB, hsB⟩ := ownsRow_sliceMap hset'
  rw [hBl] at hvB
  simp only [Value.slice.injEq, true_and] at hvB
  obtain ⟨rfl, rfl⟩ := hvB
  have hlab : sumI L ys = sumI B ys ↔ L = B := sumI_label L B ys (k / 8) hBl.symm (by
    intro i hi
    rw [← hB, List.getElem?_set_ne (fun e => hi (by rw [e]))])
  have hLB : L = B ↔ d = 0 := by
    rw [← hB]
    constructor
    · intro h
      have h1 := congrArg (fun l : List UInt8 => l[k]?) h
      simp only [List.getElem?_set_self hkL, List.getElem?_eq_getElem hkL, Option.some.injEq] at h1
      have h2 : L[k] ^^^ L[k] = L[k] ^^^ (L[k] ^^^ d) := by rw [← h1]
      rw [← UInt8.xor_assoc, UInt8.xor_self, UInt8.zero_xor] at h2
      exact h2.symm
    · rintro rfl
      simp
  rw [hLB] at hlab
  have hB4 : Below w.heap.size w (w3.setCell ⟨g, k, none⟩ (.int .u8 (bits BinOp.xor IntKind.u8 (L[k].toNat : Int) (d.toNat : Int)))) := Below.step (Below.step hb1 hb2) hb4
  obtain ⟨w5, hw5⟩ : ∃ w5, w5 = w3.setCell ⟨g, k, none⟩ (.int .u8 (bits BinOp.xor IntKind.u8 (L[k].toNat : Int) (d.toNat : Int))) := ⟨_, rfl⟩
  rw [← hw5] at hB4 hsB hb4
  have hs5 : SliceAt w5 a2 c2 (L.map byteV) := hs2.below hb4
  have hy5 : SliceAt w5 a1 c1 (ys.map intV) := (hs1.below hb2).below hb4
  obtain ⟨sA, hsA⟩ : ∃ sA : ByteArray, sA = ⟨L.toArray⟩ := ⟨_, rfl⟩
  obtain ⟨sB, hsB'⟩ : ∃ sB : ByteArray, sB = ⟨B.toArray⟩ := ⟨_, rfl⟩
  obtain ⟨s1, h1⟩ : ∃ s1, sumI L ys = s1 := ⟨_, rfl⟩
  obtain ⟨s2, h2⟩ : ∃ s2, sumI B ys = s2 := ⟨_, rfl⟩
  rw [h1, h2] at hlab
  have hS : ∀ W, Below w5.heap.size w5 W → (Below w5.heap.size w5 W ∧ (convert 30 9 (.slice a2 L.length c2)).run Try.prog W = .ok (.string sA) W ∧ (convert 30 9 (.slice (some ⟨g, 0, none⟩) L.length cap)).run Try.prog W = .ok (.string sB) W) := by
    intro W hW
    refine ⟨hW, ?_, ?_⟩
    · rw [hsA]; exact run_string_of W Try.underlying30 Try.underlying5 Try.underlying9 a2 c2 L (hs5.below hW)
    · rw [hsB', ← hBl]; exact run_string_of W Try.underlying30 Try.underlying5 Try.underlying9 _ cap B (hsB.below hW)
  have k1 : ∀ W, (Below w5.heap.size w5 W ∧ (convert 30 9 (.slice a2 L.length c2)).run Try.prog W = .ok (.string sA) W ∧ (convert 30 9 (.slice (some ⟨g, 0, none⟩) L.length cap)).run Try.prog W = .ok (.string sB) W) →
      Calls Try.prog 13 #[.string sA, .slice a1 ys.length c1] W fun e w' => e = .returned (.int .u64 s1) ∧ (Below w5.heap.size w5 w' ∧ (convert 30 9 (.slice a2 L.length c2)).run Try.prog w' = .ok (.string sA) w' ∧ (convert 30 9 (.slice (some ⟨g, 0, none⟩) L.length cap)).run Try.prog w' = .ok (.string sB) w') := by
    intro W hW
    refine (sum_any sA _ _ ys W (by rw [hsA]; show L.toArray.size ≤ _; simp; omega) (hy5.below hW.1)).mono ?_
    rintro e w' ⟨rfl, hb⟩
    exact ⟨by rw [← h1, hsA], hS _ (Below.step hW.1 hb)⟩
  have k2 : ∀ W, (Below w5.heap.size w5 W ∧ (convert 30 9 (.slice a2 L.length c2)).run Try.prog W = .ok (.string sA) W ∧ (convert 30 9 (.slice (some ⟨g, 0, none⟩) L.length cap)).run Try.prog W = .ok (.string sB) W) →
      Calls Try.prog 13 #[.string sB, .slice a1 ys.length c1] W fun e w' => e = .returned (.int .u64 s2) ∧ (Below w5.heap.size w5 w' ∧ (convert 30 9 (.slice a2 L.length c2)).run Try.prog w' = .ok (.string sA) w' ∧ (convert 30 9 (.slice (some ⟨g, 0, none⟩) L.length cap)).run Try.prog w' = .ok (.string sB) w') := by
    intro W hW
    refine (sum_any sB _ _ ys W (by rw [hsB']; show B.toArray.size ≤ _; simp; omega) (hy5.below hW.1)).mono ?_
    rintro e w' ⟨rfl, hb⟩
    exact ⟨by rw [← h2, hsB'], hS _ (Below.step hW.1 hb)⟩
  have k3 : ∀ W, (Below w5.heap.size w5 W ∧ (convert 30 9 (.slice a2 L.length c2)).run Try.prog W = .ok (.string sA) W ∧ (convert 30 9 (.slice (some ⟨g, 0, none⟩) L.length cap)).run Try.prog W = .ok (.string sB) W) →
      Calls Try.prog 15 #[] W fun e w' => e = .returned (.bool true) ∧ (Below w5.heap.size w5 w' ∧ (convert 30 9 (.slice a2 L.length c2)).run Try.prog w' = .ok (.string sA) w' ∧ (convert 30 9 (.slice (some ⟨g, 0, none⟩) L.length cap)).run Try.prog w' = .ok (.string sB) w') := by
    intro W hW
    refine (lives_any W).mono ?_
    rintro e w' ⟨rfl, hb⟩
    exact ⟨rfl, hS _ (Below.step hW.1 hb)⟩
  have hcase : ((s1 == s2) = true ∧ ((d.toNat : Int) == 0) = true) ∨ ((s1 == s2) = false ∧ ((d.toNat : Int) == 0) = false) := by
    by_cases hd : d = 0
    · exact .inl ⟨beq_iff_eq.2 (hlab.2 hd), by subst hd; rfl⟩
    · exact .inr ⟨beq_eq_false_iff_ne.2 (fun h => hd (hlab.1 h)), beq_eq_false_iff_ne.2 (fun h => hd (UInt8.toNat_inj.1 (by simp; omega)))⟩
  have hS0 := hS _ (Below.drew (Below.refl _ w5))
  have K1 := Lib.hid k1
  have K2 := Lib.hid k2
  have K3 := Lib.hid k3
  have HW5 := Lib.hid hw5
  have HS0 := Lib.hid hS0
  clear k1 k2 k3 hS hS0 hw5 hlab hLB hBl h1 h2 hsA hsB' hset hset' hB
  go_wp2_with fail
  rw [← HW5.out]
  rcases hcase with ⟨t1, t2⟩ | ⟨t1, t2⟩
  all_goals
    go_region_held3 (fun W => Below w5.heap.size w5 W ∧ (convert 30 9 (.slice a2 L.length c2)).run Try.prog W = .ok (.string sA) W ∧ (convert 30 9 (.slice (some ⟨g, 0, none⟩) L.length cap)).run Try.prog W = .ok (.string sB) W) (first | assumption | exact HS0.out)
      (first | (go_at_call 13; (with_reducible refine (K1.out _ (by assumption)).mono ?_); rintro e w' ⟨rfl, hbb⟩) | (go_at_call 13; (with_reducible refine (K2.out _ (by assumption)).mono ?_); rintro e w' ⟨rfl, hbb⟩) | (go_at_call 15; (with_reducible refine (K3.out _ (by assumption)).mono ?_); rintro e w' ⟨rfl, hbb⟩))
    go_wp2
    go_ret
    exact ⟨rfl, Below.step hB4 (And.left (b := _ ∧ _) (by assumption))⟩
end Go.Proofs.Ytmaajkecmpopmaa
