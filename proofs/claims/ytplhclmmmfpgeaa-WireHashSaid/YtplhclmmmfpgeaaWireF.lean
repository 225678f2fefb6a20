/-
  The law WireHash.
-/
import Derived.Test.YtplhclmmmfpgeaaWireE
import Derived.Test.YtplhclmmmfpgeaaHash
import Derived.Test.YtplhclmmmfpgeaaHashInj
namespace Go.Proofs.Ytplhclmmmfpgeaa
open Go Go.Proofs
open Go.RowKit
set_option linter.unusedVariables false
set_option linter.unusedSimpArgs false

theorem encU_inj (m n : Nat) (h : encU m = encU n) : m = n := by
  have key : ∀ k m n : Nat, m ≤ k → encU m = encU n → m = n := by
    intro k
    induction k with
    | zero =>
      intro m n hm h
      obtain rfl : m = 0 := by omega
      by_cases hn : n < 128
      · rw [encU_small (by omega), encU_small hn] at h
        have := congrArg UInt8.toNat (List.cons.inj h).1
        rw [UInt8.toNat_ofNat', UInt8.toNat_ofNat'] at this
        omega
      · rw [encU_small (by omega), encU_big (by omega)] at h
        have := congrArg UInt8.toNat (List.cons.inj h).1
        rw [UInt8.toNat_ofNat', UInt8.toNat_ofNat'] at this
        omega
    | succ k ih =>
      intro m n hm h
      by_cases h1 : m < 128 <;> by_cases h2 : n < 128
      · rw [encU_small h1, encU_small h2] at h
        have := congrArg UInt8.toNat (List.cons.inj h).1
        rw [UInt8.toNat_ofNat', UInt8.toNat_ofNat'] at this
        omega
      · rw [encU_small h1, encU_big (by omega)] at h
        have := congrArg UInt8.toNat (List.cons.inj h).1
        rw [UInt8.toNat_ofNat', UInt8.toNat_ofNat'] at this
        omega
      · rw [encU_big (by omega), encU_small h2] at h
        have := congrArg UInt8.toNat (List.cons.inj h).1
        rw [UInt8.toNat_ofNat', UInt8.toNat_ofNat'] at this
        omega
      · rw [encU_big (n := m) (by omega), encU_big (n := n) (by omega)] at h
        have h3 := congrArg UInt8.toNat (List.cons.inj h).1
        rw [UInt8.toNat_ofNat', UInt8.toNat_ofNat'] at h3
        have h4 := ih (m / 128) (n / 128) (by omega) (List.cons.inj h).2
        omega
  exact key m m n (Nat.le_refl _) h
theorem encU_len8 {n : Nat} (h : n < 72057594037927936) : (encU n).length ≤ 8 := encU_len 7 n (by omega)
theorem hash_eq (label : List UInt8) {m n : Nat} (hm : m < 72057594037927936) (hn : n < 72057594037927936) (hl : (encU m).length = (encU n).length) :
    bytesI label (encU m) = bytesI label (encU n) ↔ m = n := by
  rw [bytesI_group label _ _ 0 hl]
  · exact ⟨encU_inj m n, fun h => by rw [h]⟩
  · intro i hi
    have h1 := encU_len8 hm
    rw [List.getElem?_eq_none (by omega), List.getElem?_eq_none (by omega)]

theorem bytes_l (s : ByteArray) (a : Option Addr) (c l : Nat) (bs : List UInt8) (w : World) (hs : s.size ≤ 140737488351232) (hx : SliceAt w a c (bs.map byteV)) (hbl : bs.length = l) (hl : l ≤ 1000000000) :
    Calls Try.prog 37 #[.string s, .slice a l c] w fun e w' => e = .returned (.int .u64 (bytesI s.data.toList bs)) ∧ Below w.heap.size w w' := by
  subst hbl
  exact bytes_any s a c bs w hs hx hl

set_option maxRecDepth 100000 in
set_option maxHeartbeats 4000000 in
theorem wireHash_walk (a b shift : Int) (label : ByteArray) (w : World) (h0 : 0 ≤ a ∧ a ≤ 18446744073709551615) (h1 : 0 ≤ b ∧ b ≤ 18446744073709551615) (h2 : -9223372036854775808 ≤ shift ∧ shift ≤ 9223372036854775807) (h3 : label.size ≤ 9223372036854775807) :
    Calls Try.prog 10 #[.int .u64 a, .int .u64 b, .int .i64 shift, .string label] w fun e w' => e = .returned (.bool true) ∧ Below w.heap.size w w' := by
  obtain ⟨A, rfl⟩ : ∃ U : Nat, a = U := ⟨a.toNat, by omega⟩
  obtain ⟨B, rfl⟩ : ∃ U : Nat, b = U := ⟨b.toNat, by omega⟩
  have a1 := aroundI_lo shift 56 (by omega)
  have a2 := aroundI_hi shift 56 (by omega)
  obtain ⟨s, hs⟩ : ∃ s : Nat, aroundI shift 56 = s := ⟨(aroundI shift 56).toNat, by omega⟩
  rw [hs] at a1 a2
  obtain ⟨S, hS⟩ : ∃ S : Nat, (8 : Int) + (s : Int) = S := ⟨8 + s, by omega⟩
  have hS1 : 8 ≤ S := by omega
  have hS2 : S < 64 := by omega
  have hp : (2 : Nat) ^ 8 ≤ 2 ^ S := Nat.pow_le_pow_right (by omega) hS1
  have hK1 : (A : Int) / 2 ^ S = ((A / 2 ^ S : Nat) : Int) := by simp
  have hK2 : (B : Int) / 2 ^ S = ((B / 2 ^ S : Nat) : Int) := by simp
  obtain ⟨M, hM⟩ : ∃ K, A / 2 ^ S = K := ⟨_, rfl⟩
  obtain ⟨N, hN⟩ : ∃ K, B / 2 ^ S = K := ⟨_, rfl⟩
  rw [hM] at hK1
  rw [hN] at hK2
  have hM56 : M < 72057594037927936 := by
    rw [← hM]
    refine Nat.div_lt_of_lt_mul ?_
    have : 2 ^ 8 * 72057594037927936 ≤ 2 ^ S * 72057594037927936 := Nat.mul_le_mul_right _ hp
    omega
  have hN56 : N < 72057594037927936 := by
    rw [← hN]
    refine Nat.div_lt_of_lt_mul ?_
    have : 2 ^ 8 * 72057594037927936 ≤ 2 ^ S * 72057594037927936 := Nat.mul_le_mul_right _ hp
    omega
  have HS := Lib.hid hs
  clear hs a1 hM hN hp
  have hSa : (S : Int) < 64 := by omega
  go_enter Try.func10, Try.ntmps10
  go_wp2_with fail
  refine (around_any shift 56 _ (by omega) (by omega) h2.1 h2.2).mono ?_
  rw [HS.out]
  rintro e w1 ⟨rfl, rfl⟩
  have T0 := Lib.hid ((step_new w (fun _ => 0) (10 * 1) (.cells #[.slice none 0 0] 26)).mono (L' := fun x => x ≠ 0) fun _ h => h.elim)
  go_wp2_with fail
  refine (uint_any 1 w.heap.size M [] _ (newLab w (fun _ => 0) (10 * 1)) (by omega) (wr_new w _ 1 _) (by omega) (by simp)).mono ?_
  rintro e w1 ⟨rfl, o1, hs1, hw1⟩
  have T1 := Lib.hid (T0.out.trans (hs1.mono fun l h => by unfold Own at h; omega))
  have W1 : Hid (WrAt w1 o1 1 w.heap.size (encU M)) := by unfold Hid; simpa using hw1
  obtain ⟨b1, hb1⟩ : ∃ b1, b1 = w.heap.size := ⟨_, rfl⟩
  rw [← hb1] at W1 ⊢
  have HB1 := Lib.hid hb1
  have s2 := step_new w1 o1 (10 * 2) (.cells #[.slice none 0 0] 26)
  have T2 := Lib.hid (T1.out.trans (s2.mono fun l h => h.elim))
  have W2 := Lib.hid (W1.out.step s2 fun _ _ h => h)
  clear hs1 hw1 T0 hb1 s2 T1 W1
  go_wp2_with fail
  refine (uint_any 2 w1.heap.size N [] _ (newLab w1 o1 (10 * 2)) (by omega) (wr_new w1 _ 2 _) (by omega) (by simp)).mono ?_
  rintro e w3 ⟨rfl, o3, hs3, hx3⟩
  have T3 := Lib.hid (T2.out.trans (hs3.mono fun l h => by unfold Own at h; omega))
  have W3 := Lib.hid (W2.out.step hs3 fun l h => by unfold Own at *; omega)
  have X3 : Hid (WrAt w3 o3 2 w1.heap.size (encU N)) := by unfold Hid; simpa using hx3
  clear hs3 hx3 T2 W2
  have l8 := encU_len8 hM56
  have l8' := encU_len8 hN56
  have HQ := Lib.hid (hash_eq (label.extract 0 20).data.toList hM56 hN56)
  have HNE : Hid ((encU M).length ≠ (encU N).length → M ≠ N) := fun h e => h (by rw [e])
  obtain ⟨pl, hpl⟩ : ∃ pl, (encU M).length = pl := ⟨_, rfl⟩
  obtain ⟨ql, hql⟩ : ∃ ql, (encU N).length = ql := ⟨_, rfl⟩
  have HPL := Lib.hid hpl
  have HQL := Lib.hid hql
  rw [hpl] at l8 HQ HNE
  rw [hql] at l8' HQ HNE
  clear hpl hql
  go_wp2_with fail
  refine (done_any 1 b1 _ w3 o3 W3.out (by rw [HPL.out]; omega)).mono ?_
  rintro e w4 ⟨v, rfl, hown4, hb4⟩
  obtain ⟨pa, pc, rfl, hp4⟩ := ownsRow_sliceMap hown4
  rw [HPL.out]
  have s4 : Step (fun _ => False) w3 o3 w4 o3 := Step.same hb4
  have T4 := Lib.hid (T3.out.trans (s4.mono fun l h => h.elim))
  have X4 := Lib.hid (X3.out.step s4 fun _ _ h => h)
  have P4 := Lib.hid hp4
  clear s4 hb4 hown4 hp4 T3 X3 W3
  go_wp2_with fail
  refine (done_any 2 w1.heap.size _ w4 o3 X4.out (by rw [HQL.out]; omega)).mono ?_
  rintro e w5 ⟨v, rfl, hown5, hb5⟩
  obtain ⟨qa, qc, rfl, hq5⟩ := ownsRow_sliceMap hown5
  rw [HQL.out]
  have T5 := Lib.hid (T4.out.trans ((Step.same hb5 : Step (fun _ => False) w4 o3 w5 o3).mono fun l h => h.elim))
  have P5 := Lib.hid (P4.out.below hb5)
  have Q5 := Lib.hid hq5
  clear hb5 hown5 hq5 T4 X4 P4
  go_wp2_with fail
  refine (short_any label 20 w5 h3 (by omega)).mono ?_
  rintro e w6 ⟨rfl, rfl⟩
  have hsx := size_extract0 label 20
  by_cases hpq : pl = ql
  · have e1 : ((pl : Int) != (ql : Int)) = false := by simp; omega
    have e2 : decide ((8 : Int) < (pl : Int)) = false := decide_eq_false (by omega)
    have hq := HQ.out hpq
    have key : ∃ H1 H2 : Int, Hid (bytesI (label.extract 0 20).data.toList (encU M) = H1) ∧ Hid (bytesI (label.extract 0 20).data.toList (encU N) = H2) ∧ (H1 = H2 ↔ M = N) := ⟨_, _, rfl, rfl, hq⟩
    obtain ⟨H1, H2, HH1, HH2, hiff⟩ := key
    clear hq hpq
    have hcase : (((M : Int) == (N : Int)) = true ∧ (H1 == H2) = true) ∨ (((M : Int) == (N : Int)) = false ∧ (H1 == H2) = false) := by
      by_cases h : M = N
      · exact .inl ⟨by simp; omega, by simp; exact hiff.2 h⟩
      · exact .inr ⟨by simp; omega, by simp; exact fun e => h (hiff.1 e)⟩
    clear hiff
    rcases hcase with ⟨e3, e4⟩ | ⟨e3, e4⟩
    all_goals
      go_wp2_with fail
      refine (bytes_l (label.extract 0 20) pa pc pl (encU M) w5 (by omega) P5.out HPL.out (by omega)).mono ?_
      rw [HH1.out]
      rintro e w6 ⟨rfl, hb6⟩
      have T6 := Lib.hid (T5.out.trans ((Step.same hb6 : Step (fun _ => False) w5 o3 w6 o3).mono fun l h => h.elim))
      have Q6 := Lib.hid (Q5.out.below hb6)
      clear hb6
      go_wp2_with fail
      refine (bytes_l (label.extract 0 20) qa qc ql (encU N) w6 (by omega) Q6.out HQL.out (by omega)).mono ?_
      rw [HH2.out]
      rintro e w7 ⟨rfl, hb7⟩
      have T7 := Lib.hid (T6.out.trans ((Step.same hb7 : Step (fun _ => False) w6 o3 w7 o3).mono fun l h => h.elim))
      clear hb7
      go_wp2_with fail
      refine (lives_any w7).mono ?_
      rintro e w8 ⟨rfl, hb8⟩
      go_wp2_with fail
      go_ret
      exact ⟨rfl, (T7.out.toBelow (Nat.le_refl _) fun k _ h => h rfl).trans (hb8.mono T7.out.size)⟩
  · have e1 : ((pl : Int) != (ql : Int)) = true := by simp; omega
    have e2 : decide ((pl : Int) ≤ 8) = true := decide_eq_true (by omega)
    have hne := HNE.out hpq
    have e3 : ((M : Int) != (N : Int)) = true := by simp; omega
    clear hne hpq
    go_wp2_with fail
    refine (lives_any w5).mono ?_
    rintro e w8 ⟨rfl, hb8⟩
    go_wp2_with fail
    go_ret
    exact ⟨rfl, (T5.out.toBelow (Nat.le_refl _) fun k _ h => h rfl).trans (hb8.mono T5.out.size)⟩
end Go.Proofs.Ytplhclmmmfpgeaa
