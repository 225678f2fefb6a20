/-
  The walk of the law EditDiff.
-/
import Derived.Test.YtpncjgcdiomloaaEdQ
import Derived.Test.YtpncjgcdiomloaaEdH2
import Derived.StillTactics
namespace Go.Proofs.Ytpncjgcdiomloaa
open Go Go.Proofs
open Go.RowKit
set_option linter.unusedVariables false
set_option linter.unusedSimpArgs false

theorem bytes_ne {a b : ByteArray} (h : a.data.toList ≠ b.data.toList) : (a.toList == b.toList) = false := by
  rw [ByteArray.toList_eq, ByteArray.toList_eq]; simpa using h
/-- What an edit of the difference shows: two different pieces, that part at both ends. -/
theorem diff_shows {a b od tx : ByteArray} {P Q : Nat} (hne : a.data.toList ≠ b.data.toList) (hP : preL a.data.toList b.data.toList = P) (hQ : sufL a.data.toList b.data.toList = Q)
    (ho : od.data.toList = cutL a.data.toList P (a.size - Q)) (ht : tx.data.toList = cutL b.data.toList P (b.size - Q)) :
    (od.toList == tx.toList) = false ∧ ((∃ (h1 : 0 < od.size) (h2 : 0 < tx.size) (i j : Nat) (h3 : i < od.size) (h4 : j < tx.size), i + 1 = od.size ∧ j + 1 = tx.size ∧ ((od[0].toNat : Int) == (tx[0].toNat : Int)) = false ∧ ((od[i].toNat : Int) == (tx[j].toNat : Int)) = false) ∨ od = ⟨#[]⟩ ∨ (0 < od.size ∧ tx = ⟨#[]⟩)) := by
  have hle := suf_le a.data.toList b.data.toList
  rw [hP, hQ, size_list, size_list] at hle
  have hos : od.size = a.size - Q - P := by
    rw [← size_list od, ho, cutL_len (by omega) (by rw [size_list]; omega)]
  have hts : tx.size = b.size - Q - P := by
    rw [← size_list tx, ht, cutL_len (by omega) (by rw [size_list]; omega)]
  refine ⟨bytes_ne ?_, ?_⟩
  · rw [ho, ht, ← hP, ← hQ]
    have := diff_ne hne
    rw [size_list, size_list] at this
    exact this
  · by_cases h1 : 0 < od.size
    · by_cases h2 : 0 < tx.size
      · have o0 : ∀ i (h : i < od.size), od[i] = a.data.toList[P + i]'(by rw [size_list]; omega) := by
          intro i h
          rw [← str_at od h]
          have : od.data.toList[i]? = (cutL a.data.toList P (a.size - Q))[i]? := by rw [ho]
          unfold cutL at this
          rw [List.getElem?_take_of_lt (by omega), List.getElem?_drop, List.getElem?_eq_getElem (by rw [size_list]; exact h), List.getElem?_eq_getElem (by rw [size_list]; omega), Option.some.injEq] at this
          exact this
        have t0 : ∀ i (h : i < tx.size), tx[i] = b.data.toList[P + i]'(by rw [size_list]; omega) := by
          intro i h
          rw [← str_at tx h]
          have : tx.data.toList[i]? = (cutL b.data.toList P (b.size - Q))[i]? := by rw [ht]
          unfold cutL at this
          rw [List.getElem?_take_of_lt (by omega), List.getElem?_drop, List.getElem?_eq_getElem (by rw [size_list]; exact h), List.getElem?_eq_getElem (by rw [size_list]; omega), Option.some.injEq] at this
          exact this
        refine .inl ⟨h1, h2, od.size - 1, tx.size - 1, by omega, by omega, by omega, by omega, byte_ne ?_, byte_ne ?_⟩
        · rw [o0 0 h1, t0 0 h2]
          have := diff_first (a := a.data.toList) (b := b.data.toList) (by rw [hP, size_list]; omega) (by rw [hP, size_list]; omega)
          simp only [hP] at this
          simpa using this
        · rw [o0 (od.size - 1) (by omega), t0 (tx.size - 1) (by omega)]
          have := diff_last (a := a.data.toList) (b := b.data.toList) (by rw [hP, hQ, size_list]; omega) (by rw [hP, hQ, size_list]; omega)
          have x1 : a.data.toList.length - sufL a.data.toList b.data.toList - 1 = P + (od.size - 1) := by rw [hQ, size_list]; omega
          have x2 : b.data.toList.length - sufL a.data.toList b.data.toList - 1 = P + (tx.size - 1) := by rw [hQ, size_list]; omega
          simp only [x1, x2] at this
          exact this
      · refine .inr (.inr ⟨h1, ?_⟩)
        have h0 : tx.data.toList = [] := List.eq_nil_of_length_eq_zero (by rw [size_list]; omega)
        have := strB_of tx
        rw [h0] at this
        exact this.symm
    · refine .inr (.inl ?_)
      have h0 : od.data.toList = [] := List.eq_nil_of_length_eq_zero (by rw [size_list]; omega)
      have := strB_of od
      rw [h0] at this
      exact this.symm

set_option maxRecDepth 100000 in
set_option maxHeartbeats 8000000 in
theorem differs_any (a b : ByteArray) (w : World) (ha : a.size ≤ 1000) (hb : b.size ≤ 1000) :
    Calls Try.prog 26 #[.string a, .string b] w fun e w' => e = .returned (.bool true) ∧ Below w.heap.size w w' := by
  have hsnd := diff_snd a.data.toList b.data.toList
  have happ := diff_apply a.data.toList b.data.toList
  have hdl : (diffL a.data.toList b.data.toList).length ≤ 1 := by unfold diffL; split <;> simp
  have hv := valid_of hsnd (by omega)
  have hax := applyX_ok hv
  rw [happ] at hax
  rw [size_list] at hv
  have K1 := Lib.hid (Diff_any a b w (by omega) (by omega))
  have K2 := Lib.hid fun W => rDiff_any a b W (by omega) (by omega)
  have k3 := fun W aa c (h : EdsAt W aa c (diffL a.data.toList b.data.toList)) => Apply_any a aa c _ W (by omega) h (by rw [hax, size_list]; omega)
  rw [hax, hv, strB_of] at k3
  have K3 := Lib.hid k3
  have hcase : diffL a.data.toList b.data.toList = [] ∨ (a.data.toList ≠ b.data.toList ∧ ∃ P Q : Nat, preL a.data.toList b.data.toList = P ∧ sufL a.data.toList b.data.toList = Q ∧ P + Q ≤ a.size ∧ diffL a.data.toList b.data.toList = [⟨P, (a.size : Int) - Q, cutL b.data.toList P (b.size - Q)⟩]) := by
    by_cases h : a.data.toList = b.data.toList
    · exact .inl (by unfold diffL; rw [if_pos h])
    · have := suf_le a.data.toList b.data.toList
      rw [size_list] at this
      exact .inr ⟨h, _, _, rfl, rfl, by omega, by unfold diffL; rw [if_neg h]; rfl⟩
  have HC := Lib.hid hcase
  generalize diffL a.data.toList b.data.toList = D at *
  clear hsnd happ hv hax k3 hcase
  have h0 : (b.toList != b.toList) = false := by simp
  go_enter Try.func26, Try.ntmps26
  go_wp2_with fail
  refine K1.out.mono ?_
  rintro e w1 ⟨v1, rfl, ho1, hb1⟩
  obtain ⟨a1, c1, rfl, hD⟩ := ho1.at
  have HD := Lib.hid hD
  have hmx := hD.max
  have hcap := hD.le
  have hcm := hD.2.2.1
  clear ho1 hD K1
  go_wp2_with fail
  refine (K3.out w1 a1 c1 HD.out).mono ?_
  rintro e w2 ⟨rfl, hb2⟩
  go_wp2_with fail
  refine (K2.out w2).mono ?_
  rintro e w3 ⟨v3, rfl, ho3, hb3⟩
  obtain ⟨a3, c3, rfl, hD3⟩ := ho3.at
  have hB3 := Below.step hb2 hb3
  have KS := Lib.hid (sameEd_any a1 a3 c1 c3 D w3 (HD.out.below hB3) hD3)
  clear ho3 hD3 K2 K3
  go_wp2_with fail
  refine KS.out.mono ?_
  rintro e w4 ⟨rfl, hb4⟩
  have hB4 := Below.step hB3 hb4
  have hB04 := Below.step hb1 hB4
  clear KS
  go_wp2_with fail
  go_loopw [8] (fun iv wr => ∃ k : Nat, k ≤ D.length ∧ iv = .int .i64 k ∧ Below w1.heap.size w1 wr) (fun iv _ => D.length - (intOf iv).toNat)
  case atStart => exact ⟨0, by omega, rfl, hB4⟩
  case round =>
    obtain ⟨k, hk, rfl, hB⟩ := hrel
    by_cases hlt : k < D.length
    · have hk0 : k = 0 := by omega
      subst hk0
      rcases HC.out with h | ⟨hne, P, Q, hP, hQ, hPQ, hDe⟩
      · rw [h] at hlt; simp at hlt
      · subst hDe
        obtain ⟨b1, o1, rfl⟩ := HD.out.addr hlt
        obtain ⟨f0, f1, f2⟩ := (HD.out.below hB).cells (k := 0) rfl
        rw [Nat.zero_mul, Nat.add_zero] at f0 f1 f2
        simp only at f0 f1 f2
        obtain ⟨m, hm⟩ : ∃ m : Nat, (a.size : Int) - (Q : Int) = (m : Int) := ⟨a.size - Q, by omega⟩
        rw [hm] at f1
        have hmQ : a.size - Q = m := by omega
        obtain ⟨od, hod⟩ : ∃ od, a.extract P m = od := ⟨_, rfl⟩
        obtain ⟨tx, htx⟩ : ∃ tx, strB (cutL b.data.toList P (b.size - Q)) = tx := ⟨_, rfl⟩
        rw [htx] at f2
        obtain ⟨s1, s2⟩ := diff_shows (od := od) (tx := tx) hne hP hQ (by rw [← hod, ext_list, hmQ]) (by rw [← htx, strB_list])
        have x1 : (P : Int) ≤ (m : Int) := by omega
        have x2 : (m : Int) ≤ (a.size : Int) := by omega
        have x3 : (0 : Int) ≤ (P : Int) := by omega
        have hos : od.size ≤ 1000 := by rw [← hod, ByteArray.size_extract]; omega
        have hts : tx.size ≤ 1000 := by
          rw [← htx, strB_size]
          have := cutL_le b.data.toList P (b.size - Q)
          omega
        clear hne hP hQ htx hm hmQ HC hPQ
        go_wp2_with fail
        go_region_held3 (fun W => W = wr.drew ∧ W.cell? ⟨b1, o1, none⟩ = some (.int .i64 P) ∧ W.cell? ⟨b1, o1 + 1, none⟩ = some (.int .i64 m)) (first | assumption | exact ⟨rfl, f0, f1⟩) (fail)
        have f2' : wr.drew.cell? ⟨b1, o1 + 2, none⟩ = some (.string tx) := f2
        rcases s2 with ⟨h1, h2, i, j, h3, h4, hi, hj, e1, e2⟩ | rfl | ⟨h1, rfl⟩
        · have y1 : (od.size : Int) - 1 = (i : Int) := by omega
          have y2 : (tx.size : Int) - 1 = (j : Int) := by omega
          have y3 : IntKind.i64.wrap (i : Int) = (i : Int) := IntWalk.i64_in _ (by omega)
          have y4 : IntKind.i64.wrap (j : Int) = (j : Int) := IntWalk.i64_in _ (by omega)
          have y5 : (0 : Int) < (od.size : Int) := by omega
          have y6 : (0 : Int) < (tx.size : Int) := by omega
          have y7 : (i : Int) < (od.size : Int) := by omega
          have y8 : (j : Int) < (tx.size : Int) := by omega
          have y9 : (0 : Int) ≤ (i : Int) := by omega
          have y10 : (0 : Int) ≤ (j : Int) := by omega
          clear hi hj
          have n0od : ¬ od.toList = [] := fun h => by have := congrArg List.length h; rw [ByteArray.toList_eq, size_list, List.length_nil] at this; omega
          have n1od : (od.toList != []) = true := by simpa using n0od
          have n2od : od.toList.isEmpty = false := by simpa using n0od
          have n3od : (od.toList == []) = false := by simpa using n0od
          have n0tx : ¬ tx.toList = [] := fun h => by have := congrArg List.length h; rw [ByteArray.toList_eq, size_list, List.length_nil] at this; omega
          have n1tx : (tx.toList != []) = true := by simpa using n0tx
          have n2tx : tx.toList.isEmpty = false := by simpa using n0tx
          have n3tx : (tx.toList == []) = false := by simpa using n0tx
          go_wp2_with fail
          refine wp_region_still_lit (by kernel_rfl) (by kernel_rfl) ?_
          repeat still_step
          refine wpStill_nil ?_
          change Exit.then _ _ _ _ wr.drew.drew
          go_wp2_with fail
          go_roundw
          case rel => first | exact ⟨1, by omega, rfl, Below.drew (Below.drew hB)⟩ | ((repeat apply Exists.intro); refine ⟨?_, rfl⟩; exact ⟨1, by omega, rfl, Below.drew (Below.drew hB)⟩)
          case measure => simp [intOf]
        · have hte : ¬ tx.toList = [] := by
            intro h
            have h2 : (⟨#[]⟩ : ByteArray).toList = [] := by rw [ByteArray.toList_eq]
            rw [h, h2] at s1
            simp at s1
          have s1' : ([] == tx.toList) = false := by
            rw [beq_eq_false_iff_ne]
            exact fun h => hte h.symm
          have s2' : tx.toList.isEmpty = false := by simpa using hte
          clear s1
          go_wp2_with fail
          go_quiet (fail)
          go_wp2_with fail
          go_roundw
          case rel => first | exact ⟨1, by omega, rfl, hB.trans (Below.drewN _)⟩ | ((repeat apply Exists.intro); refine ⟨?_, rfl⟩; exact ⟨1, by omega, rfl, hB.trans (Below.drewN _)⟩)
          case measure => simp [intOf]
        · have n0od : ¬ od.toList = [] := fun h => by have := congrArg List.length h; rw [ByteArray.toList_eq, size_list, List.length_nil] at this; omega
          have n1od : (od.toList != []) = true := by simpa using n0od
          have n2od : od.toList.isEmpty = false := by simpa using n0od
          have n3od : (od.toList == []) = false := by simpa using n0od
          go_wp2_with fail
          go_quiet (fail)
          go_wp2_with fail
          go_roundw
          case rel => first | exact ⟨1, by omega, rfl, hB.trans (Below.drewN _)⟩ | ((repeat apply Exists.intro); refine ⟨?_, rfl⟩; exact ⟨1, by omega, rfl, hB.trans (Below.drewN _)⟩)
          case measure => simp [intOf]
    · go_wp2
      go_ret
      exact ⟨rfl, Below.step hb1 hB⟩

set_option maxRecDepth 100000 in
set_option maxHeartbeats 4000000 in
theorem editDiff_walk (s1 s2 : ByteArray) (a2 : Option Addr) (c2 : Nat) (xs : List Int) (w : World) (hs1 : s1.size ≤ 9223372036854775807) (hs2 : s2.size ≤ 9223372036854775807) (hn : SliceAt w a2 c2 (xs.map intV)) (hnb : ∀ n ∈ xs, -9223372036854775808 ≤ n ∧ n ≤ 9223372036854775807) :
    Calls Try.prog 7 #[.string s1, .string s2, .slice a2 xs.length c2] w fun e w' => e = .returned (.bool true) ∧ Below w.heap.size w w' := by
  have K1 := Lib.hid (short_any s1 30 w hs1 (by decide))
  have K2 := Lib.hid (short_any s2 30 w hs2 (by decide))
  have hf1 := size_extract0 s1 30
  have hf2 := size_extract0 s2 30
  have K3 := Lib.hid (raw_any (s1.extract 0 30) a2 c2 xs w (by omega) hn hnb)
  generalize s1.extract 0 30 = x at *
  generalize s2.extract 0 30 = y at *
  clear hn hnb
  go_enter Try.func7, Try.ntmps7
  go_wp2_with fail
  refine K1.out.mono ?_
  rintro e w1 ⟨rfl, rfl⟩
  go_wp2_with fail
  refine K2.out.mono ?_
  rintro e w1 ⟨rfl, rfl⟩
  go_wp2_with fail
  refine K3.out.mono ?_
  rintro e w1 ⟨b1, d1, gs, rfl, hg, hat, hb1⟩
  have hv := valid_of (n := x.size) hg.1 (by have := hg.2.1; omega)
  have hul : (applyX x.data.toList gs).length ≤ 1000 := by
    have := applyX_le (s := x.data.toList) hg.2.2
    rw [size_list] at this
    have := hg.2.1
    omega
  have k4 := Apply_any x b1 d1 gs w1 (by omega) hat (by omega)
  rw [hv] at k4
  have K4 := Lib.hid k4
  have hzs : (strB (applyX x.data.toList gs)).size ≤ 1000 := hul
  generalize strB (applyX x.data.toList gs) = z at *
  have hdd : diffL x.data.toList x.data.toList = [] := by unfold diffL; rw [if_pos rfl]
  have K5 := Lib.hid fun W => differs_any x y W (by omega) (by omega)
  have K6 := Lib.hid fun W => differs_any x z W (by omega) hzs
  have k7 := fun W => Diff_any x x W (by omega) (by omega)
  rw [hdd] at k7
  have K7 := Lib.hid k7
  clear k4 k7 hdd hul hv hg hat K1 K2 K3
  go_wp2_with fail
  refine K4.out.mono ?_
  rintro e w2 ⟨rfl, hb2⟩
  go_wp2_with fail
  refine (K5.out w2).mono ?_
  rintro e w3 ⟨rfl, hb3⟩
  go_wp2_with fail
  refine (K6.out w3).mono ?_
  rintro e w4 ⟨rfl, hb4⟩
  go_wp2_with fail
  refine (K7.out w4).mono ?_
  rintro e w5 ⟨v5, rfl, ho5, hb5⟩
  obtain ⟨a5, c5, rfl, _⟩ := ho5.at
  clear ho5
  go_wp2_with fail
  refine (lives_any w5).mono ?_
  rintro e w6 ⟨rfl, hb6⟩
  go_wp2_with fail
  go_ret
  exact ⟨rfl, Below.step (Below.step (Below.step (Below.step (Below.step hb1 hb2) hb3) hb4) hb5) hb6⟩
end Go.Proofs.Ytpncjgcdiomloaa
