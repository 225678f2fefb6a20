/-
  The walk of the law PositionParts.
-/
import Derived.Test.YtclamcaanoieiaaPosK
import Derived.Test.YtclamcaanoieiaaLab
namespace Go.Proofs.Ytclamcaanoieiaa
open Go Go.Proofs
open Go.RowKit
set_option linter.unusedVariables false
set_option linter.unusedSimpArgs false

theorem append_list (a b : ByteArray) : (a ++ b).data.toList = a.data.toList ++ b.data.toList := by simp [ByteArray.data_append]
/-- Labels: what the value owns bears 1, all else 0. -/
def ownLab (v : Value) : Nat → Nat := fun k => if v.ownBlock = some k then 1 else 0
theorem RowL.own {w : World} {base : Nat} {e : TypeId} {size : Nat} {v : Value} {n : Nat} {xs : List Value} (h : w.ownsRow base e size v n xs) : RowL w (ownLab v) 1 e size v n xs := by
  refine ⟨⟨h.1, ?_⟩, fun k hk => by unfold ownLab; rw [if_pos hk]⟩
  rcases h.2 with hn | ⟨g, cap, cur, rfl, hg, rest⟩
  · exact .inl hn
  · exact .inr ⟨g, cap, cur, rfl, Nat.zero_le _, rest⟩

theorem want_step (La Lb : List Nat) (d : Nat) {i : Nat} (h1 : 1 ≤ i) (h : i < Lb.length) : (La ++ ((Lb.drop 1).take (i - 1)).map (· + d)) ++ [d + Lb[i]] = La ++ ((Lb.drop 1).take i).map (· + d) := by
  obtain ⟨j, rfl⟩ : ∃ j, i = j + 1 := ⟨i - 1, by omega⟩
  have hj : j < (Lb.drop 1).length := by rw [List.length_drop]; omega
  have e : (Lb.drop 1)[j] = Lb[j + 1] := by rw [List.getElem_drop]; congr 1; omega
  rw [Nat.add_sub_cancel, List.take_succ_eq_append_getElem hj, e, List.map_append, List.append_assoc, List.map_singleton, Nat.add_comm d]
theorem lines_le {l : List UInt8} {x : Nat} (h : x ∈ linesL l) : x ≤ l.length := by
  unfold linesL at h
  rcases List.mem_cons.1 h with rfl | h
  · omega
  · have := linesFrom_gt h; omega
set_option maxRecDepth 100000 in
set_option maxHeartbeats 8000000 in
theorem positionParts_walk (a : Option Addr) (c : Nat) (xs : List Int) (a' : Option Addr) (c' : Nat) (ys : List Int) (at1 : Int) (w : World) (hx : SliceAt w a c (xs.map intV)) (hxb : ∀ n ∈ xs, -9223372036854775808 ≤ n ∧ n ≤ 9223372036854775807) (hy : SliceAt w a' c' (ys.map intV)) (hyb : ∀ n ∈ ys, -9223372036854775808 ≤ n ∧ n ≤ 9223372036854775807) (hat : -9223372036854775808 ≤ at1 ∧ at1 ≤ 9223372036854775807) :
    Calls Try.prog 8 #[.slice a xs.length c, .slice a' ys.length c', .int .i64 at1] w fun e w' => e = .returned (.bool true) ∧ Below w.heap.size w w' := by
  have hsa := textB_size xs
  have hsb := textB_size ys
  have hwa := text_whole xs
  have hla := textB_list xs
  have hlb := textB_list ys
  have kx := fun W h => text_b a c xs W h hxb
  have ky := fun W h => text_b a' c' ys W h hyb
  generalize textB xs = A at *
  generalize textB ys = B at *
  generalize textL xs = la at *
  generalize textL ys = lb at *
  have hab : (A ++ B).data.toList = la ++ lb := by rw [append_list, hla, hlb]
  have hsab : (A ++ B).size = A.size + B.size := ByteArray.size_append
  have hal : la.length = A.size := by rw [← hla]; rfl
  have hbl : lb.length = B.size := by rw [← hlb]; rfl
  have u1 := fun W => units_eq (A ++ B) W (by omega) (n := unitsL la + unitsL lb) (by rw [hab]; exact units_app hwa lb)
  have u2 := fun W => units_eq A W (by omega) (n := unitsL la) (by rw [hla])
  have u3 := fun W => units_eq B W (by omega) (n := unitsL lb) (by rw [hlb])
  have l1 := fun W => lines_any A W (by omega)
  have l2 := fun W => lines_any B W (by omega)
  have l3 := fun W => lines_any (A ++ B) W (by omega)
  have l4 := fun W => rborders_any B W (by omega)
  rw [hla] at l1
  rw [hlb] at l2 l4
  rw [hab, linesL_app] at l3
  simp only [hal] at l3
  have hlbd : ∀ x ∈ linesL lb, x ≤ 96 := fun x hx => by have := lines_le hx; omega
  have hna := linesL_len la
  have hnb := linesL_len lb
  have hnb0 : 1 ≤ (linesL lb).length := by unfold linesL; simp
  have hBd : ∀ x ∈ bordL lb 0, x ≤ B.size := fun x hx => by have := bord_ge hx; omega
  have hbb := bord_len lb 0
  have hua := unitsL_le la
  have hub := unitsL_le lb
  have s1 : ∀ k ∈ bordL lb 0, ∃ p1 p2 e1 e2 : Nat, atC lb (k : Int) = ((p1, p2), 0) ∧ atC la (la.length : Int) = ((e1, e2), 0) ∧ p1 ≤ 200 ∧ p2 ≤ 200 ∧ e1 ≤ 200 ∧ e2 ≤ 200 ∧
      (p1 = 0 → atC (la ++ lb) ((la.length + k : Nat) : Int) = ((e1, e2 + p2), 0)) ∧ (p1 ≠ 0 → atC (la ++ lb) ((la.length + k : Nat) : Int) = ((e1 + p1, p2), 0)) := by
    intro k hk
    have h1 := at_app hwa hk
    have hka : la.length ∈ bordL la 0 := by have := bord_end la 0; rwa [Nat.zero_add] at this
    have h2 := atC_border hk
    have h3 := atC_border hka
    have b1 := lineIx_lt lb k
    have b2 := lineIx_lt la la.length
    have b3 := unitsL_le ((lb.take k).drop ((linesL lb).getD (lineIx lb k) 0))
    have b4 := unitsL_le ((la.take la.length).drop ((linesL la).getD (lineIx la la.length) 0))
    simp only [List.length_drop, List.length_take] at b3 b4
    refine ⟨_, _, _, _, h2, h3, by omega, by omega, by omega, by omega, fun h => ?_, fun h => ?_⟩
    · rw [h1, h2, h3]; simp only; rw [if_pos h]
    · rw [h1, h2, h3]; simp only; rw [if_neg h]
  generalize linesL la = La at *
  generalize linesL lb = Lb at *
  generalize bordL lb 0 = Bo at *
  have k0 := aroundI_lo at1 (Bo.length : Int) (by omega)
  have k1 := aroundI_hi at1 (Bo.length : Int) (by omega)
  have r1 := fun W => around_any at1 (Bo.length : Int) W (by omega) (by omega) hat.1 hat.2
  generalize aroundI at1 (Bo.length : Int) = m1 at *
  obtain ⟨n1, rfl⟩ : ∃ n : Nat, m1 = n := ⟨m1.toNat, by omega⟩
  have hn1 : n1 < Bo.length := by omega
  obtain ⟨k, hk⟩ : ∃ k, Bo[n1] = k := ⟨_, rfl⟩
  have hkm : k ∈ Bo := by rw [← hk]; exact List.getElem_mem _
  obtain ⟨p1, p2, e1, e2, f1, f2, b1, b2, b3, b4, f3, f4⟩ := s1 k hkm
  have hkB := hBd k hkm
  have a1 := fun W => at_eq B (k : Int) W (by omega) (by omega) (by omega) (p := (p1, p2)) (e0 := 0) (by rw [hlb]; exact f1)
  have a2 := fun W => at_eq A (A.size : Int) W (by omega) (by omega) (by omega) (p := (e1, e2)) (e0 := 0) (by rw [hla, ← hal]; exact f2)
  have a3 : ∀ q, atC (la ++ lb) ((la.length + k : Nat) : Int) = (q, 0) → ∀ W, Calls Try.prog 22 #[.string (A ++ B), .int .i64 ((A.size : Int) + (k : Int))] W fun e w' => e = .returned (.tuple #[posV q, .int .i64 0]) ∧ Below W.heap.size W w' :=
    fun q hq W => at_eq (A ++ B) _ W (by omega) (by omega) (by omega) (p := q) (e0 := 0) (by
      rw [hab, ← hal, show ((la.length : Int) + (k : Int)) = ((la.length + k : Nat) : Int) by omega]; exact hq)
  unfold posV at a1 a2 a3
  simp only at a1 a2 a3
  have KX := Lib.hid kx
  have KY := Lib.hid ky
  have U1 := Lib.hid u1
  have U2 := Lib.hid u2
  have U3 := Lib.hid u3
  have L1 := Lib.hid l1
  have L2 := Lib.hid l2
  have L3 := Lib.hid l3
  have L4 := Lib.hid l4
  have R1 := Lib.hid r1
  have A1 := Lib.hid a1
  have A2 := Lib.hid a2
  have A3 := Lib.hid a3
  have F3 := Lib.hid f3
  have F4 := Lib.hid f4
  have HK := Lib.hid hk
  have HLB := Lib.hid hlbd
  have hA1 : La.length ≤ 97 := by omega
  have hua1 : unitsL la ≤ 96 := by omega
  have hub1 : unitsL lb ≤ 96 := by omega
  have hB1 : Lb.length ≤ 97 := by omega
  clear hlbd kx ky u1 u2 u3 l1 l2 l3 l4 r1 a1 a2 a3 f1 f2 f3 f4 s1 hk hkm hBd hwa hla hlb hab hbb hna hnb hal hbl k0 k1 hsab
  generalize unitsL la = ua at *
  generalize unitsL lb = ub at *
  go_enter Try.func8, Try.ntmps8
  go_wp2_with fail
  refine (KX.out w hx).mono ?_
  rintro e w1 ⟨rfl, hb1⟩
  go_wp2_with fail
  refine (KY.out w1 (hy.below hb1)).mono ?_
  rintro e w2 ⟨rfl, hb2⟩
  have hB2 := Below.step hb1 hb2
  clear hb1 hb2 KX KY hx hy
  go_wp2_with fail
  refine (U1.out w2).mono ?_
  rintro e w3 ⟨rfl, hb3⟩
  go_wp2_with fail
  refine (U2.out w3).mono ?_
  rintro e w4 ⟨rfl, hb4⟩
  go_wp2_with fail
  refine (U3.out w4).mono ?_
  rintro e w5 ⟨rfl, hb5⟩
  have hB5 := Below.step (Below.step (Below.step hB2 hb3) hb4) hb5
  have x1 : ((ua : Int) + (ub : Int) != (ua : Int) + (ub : Int)) = false := by simp
  clear hb3 hb4 hb5 hB2
  go_wp2_with fail
  refine (L1.out w5).mono ?_
  rintro e w6 ⟨v, rfl, hown6, hb6⟩
  obtain ⟨ga, gc, hv6⟩ : ∃ ga gc, v = .slice ga La.length gc := by
    obtain ⟨a', c', h1, h2, _⟩ := ownsRow_slice hown6
    rw [← h2] at h1
    exact ⟨a', c', h1⟩
  subst hv6
  go_wp2_with fail
  refine (L2.out w6).mono ?_
  rintro e w7 ⟨v7, rfl, hown7, hb7⟩
  obtain ⟨xa, xc, hv7, hs7⟩ := ownsRow_sliceMap hown7
  subst hv7
  have hown6' := RowL.own (ownsRow_below hown6 hb7)
  have hdx : Dat w7 (ownLab (.slice ga La.length gc)) 0 xa xc (Lb.map natV) := by
    refine ⟨hs7, fun hp b off he => ?_⟩
    subst he
    have h1 := (hown7.lt b rfl).1
    unfold ownLab
    rw [if_neg]
    intro h2
    have h3 := (hown6.lt b h2).2
    omega
  have hB7 := Below.step (Below.step hB5 hb6) hb7
  have ho7 : ∀ k, k < w.heap.size → ¬ ownLab (.slice ga La.length gc) k = 1 := by
    intro k hk h
    unfold ownLab at h
    split at h
    · rename_i h2
      have h3 := (hown6.lt k h2).1
      have := hB5.size
      omega
    · omega
  have HO7 := Lib.hid ho7
  have HR := Lib.hid hown6'
  have HD := Lib.hid hdx
  generalize ownLab (.slice ga La.length gc) = o7 at *
  clear ho7 hown6 hown6' hown7 hb6 hb7 hdx hs7 hB5
  go_wp2_with fail
  go_loopw [9, 11] (fun vv iv wr => ∃ (i : Nat) (o : Nat → Nat) (acc : List Nat), 1 ≤ i ∧ i ≤ Lb.length ∧ iv = .int .i64 i ∧ acc.length ≤ 97 + i ∧ Hid (acc = La ++ ((Lb.drop 1).take (i - 1)).map (· + A.size)) ∧ Hid (Step (· = 1) w7 o7 wr o) ∧ Hid (RowL wr o 1 3 1 vv acc.length (acc.map natV))) (fun _ iv _ => Lb.length - (intOf iv).toNat)
  case atStart => exact ⟨1, o7, La, by omega, by omega, rfl, by omega, by unfold Hid; simp, Step.refl _ _ _, HR.out⟩
  case round =>
    clear HR
    obtain ⟨i, o, acc, hi1, hi, rfl, hal, HA, HS, HR⟩ := hrel
    by_cases hlt : i < Lb.length
    · obtain ⟨d1, d2⟩ := dec_nat hlt
      have hdx := HD.out.step HS.out (by omega)
      obtain ⟨xb, xo, rfl⟩ := hdx.slice.addr (by simp; omega)
      have f1 := hdx.slice.natV hlt
      have hnext : Hid (acc ++ [A.size + Lb[i]] = La ++ ((Lb.drop 1).take i).map (· + A.size)) := by
        unfold Hid
        rw [HA.out]
        exact want_step La Lb A.size hi1 hlt
      have hsml : Lb[i] ≤ 96 := HLB.out _ (List.getElem_mem _)
      generalize Lb[i] = z at *
      have hsum : (A.size : Int) + (z : Int) = ((A.size + z : Nat) : Int) := by omega
      obtain ⟨q, hq⟩ : ∃ q, A.size + z = q := ⟨_, rfl⟩
      rw [hq] at hnext hsum
      have hql : q ≤ 1001000 := by omega
      clear hq hdx HA
      go_wp2_with (at_builtin; refine wpList_append_row rfl (.tmp 44) (.tmp 52) 22 rfl elemI rfl HR.out ((Below.refl _ wr).alloc (Nat.le_refl _) _) (some ⟨wr.heap.size, 0, none⟩) 1 1 [.int .i64 (q : Int)] rfl (row_new (cs := [.int .i64 (q : Int)]) (by simp) (by omega)) (by simp [Value.oneCell']) (by omega) (by omega) ?_)
      intro v5 w5 hrow5 hs5
      have HS5 := Lib.hid (HS.out.trans hs5)
      have HR5 : Hid (RowL w5 (newLab wr o 1) 1 3 1 v5 (acc ++ [q]).length ((acc ++ [q]).map natV)) := by unfold Hid; rw [List.length_append, List.map_append]; exact hrow5
      clear hrow5 hs5 HS HR f1
      go_wp2_with fail
      go_roundw
      case rel => exact ⟨i + 1, _, acc ++ [q], by omega, by omega, by go_num, by simp; omega, hnext, HS5.out, HR5.out⟩
      case measure => simp [intOf]; omega
    · obtain ⟨d1, d2⟩ := dec_nat' hlt
      obtain rfl : i = Lb.length := by omega
      have hacc : acc = La ++ (Lb.drop 1).map (· + A.size) := by
        rw [HA.out, List.take_of_length_le (by rw [List.length_drop]; exact Nat.le_refl _)]
      obtain ⟨wa, wc, hwv⟩ := HR.out.form
      subst hwv
      have hsw := HR.out.slice
      rw [natV_int] at hsw
      have hBr := hB7.trans ((HS.out.toBelow (n := w.heap.size) (by have := hB7.size; omega) HO7.out))
      rw [← hacc] at L3
      have L3' := Lib.hid (L3.out wr)
      have HSW := Lib.hid hsw
      clear L3 HA HS HR hacc hsw HLB HO7 HD hB7
      go_wp2_with fail
      refine L3'.out.mono ?_
      rintro e w8 ⟨v8, rfl, hown8, hb8⟩
      rw [natV_int] at hown8
      obtain ⟨a8, c8, hv8, hs8⟩ := ownsRow_sliceMap hown8
      subst hv8
      have hsi := sameInts_any a8 wa c8 wc (acc.map Int.ofNat) (acc.map Int.ofNat) w8 hs8 (HSW.out.below hb8)
      rw [List.length_map] at hsi ⊢
      have HSI : Hid (Calls Try.prog 16 #[.slice a8 acc.length c8, .slice wa acc.length wc] w8 fun e w' => e = .returned (.bool true) ∧ Below w8.heap.size w8 w') := hsi.mono fun e w' ⟨h1, h2⟩ => ⟨by rw [h1]; simp, h2⟩
      have hB8 := Below.step hBr hb8
      clear hsi hown8 hs8 hb8 HSW L3' hBr
      go_wp2_with fail
      refine HSI.out.mono ?_
      rintro e w9 ⟨rfl, hb9⟩
      have hB9 := Below.step hB8 hb9
      clear hb9 hB8 HSI
      go_wp2_with fail
      refine (L4.out w9).mono ?_
      rintro e w10 ⟨v10, rfl, hown10, hb10⟩
      obtain ⟨a10, c10, hv10, hs10⟩ := ownsRow_sliceMap hown10
      subst hv10
      obtain ⟨bb, boff, rfl⟩ := hs10.addr (by simp; omega)
      have g1 := hs10.natV hn1
      rw [HK.out] at g1
      have hB10 := Below.step hB9 hb10
      clear hb10 hB9 hown10 hs10
      go_wp2_with fail
      refine (R1.out w10).mono ?_
      rintro e w11 ⟨rfl, rfl⟩
      go_wp2_with fail
      refine (A1.out w10).mono ?_
      rintro e w11 ⟨rfl, hb11⟩
      go_wp2_with fail
      obtain ⟨v11, hv11⟩ : ∃ x, x = w11.alloc (.cells #[.int .i64 p1, .int .i64 p2] 32) := ⟨_, rfl⟩
      obtain ⟨q0, q1, qb⟩ := pos_new hv11
      have hB11 := Below.step (Below.step hB10 hb11) qb
      rw [← hv11]
      clear hv11 qb hb11 hB10 g1
      refine (A2.out v11).mono ?_
      rintro e w12 ⟨rfl, hb12⟩
      have q0 := Below.kept hb12 (Nat.le_refl _) q0
      have q1 := Below.kept hb12 (Nat.le_refl _) q1
      go_wp2_with fail
      obtain ⟨v12, hv12⟩ : ∃ x, x = w12.alloc (.cells #[.int .i64 e1, .int .i64 e2] 32) := ⟨_, rfl⟩
      obtain ⟨r0, r1, qb⟩ := pos_new hv12
      have q0 := Below.kept qb (Nat.le_refl _) q0
      have q1 := Below.kept qb (Nat.le_refl _) q1
      have hB12 := Below.step (Below.step hB11 hb12) qb
      rw [← hv12]
      clear hv12 qb hb12 hB11 A1 A2 R1 L4 HK
      by_cases hp : p1 = 0
      · have h3 := A3.out _ (F3.out hp) v12
        simp only at h3
        obtain ⟨z, hz⟩ : ∃ z, e2 + p2 = z := ⟨_, rfl⟩
        rw [hz] at h3
        have x2 : (e2 : Int) + (p2 : Int) = (z : Int) := by omega
        have x3 : ((p1 : Int) == 0) = true := by simp; omega
        have x4 := eq_nat (a := e1) (b := e1) rfl
        have x5 := eq_nat (a := z) (b := z) rfl
        have H3 := Lib.hid h3
        clear h3 hz A3 F3 F4 hp
        refine H3.out.mono ?_
        rintro e w13 ⟨rfl, hb13⟩
        have q0 := kept_alloc (Below.kept hb13 (Nat.le_refl _) q0)
        have q1 := kept_alloc (Below.kept hb13 (Nat.le_refl _) q1)
        have r0 := kept_alloc (Below.kept hb13 (Nat.le_refl _) r0)
        have r1 := kept_alloc (Below.kept hb13 (Nat.le_refl _) r1)
        obtain ⟨v13, hv13⟩ : ∃ x, x = w13.alloc (.cells #[.int .i64 e1, .int .i64 z] 32) := ⟨_, rfl⟩
        obtain ⟨t0, t1, qb⟩ := pos_new hv13
        have hB13 := Below.step (Below.step hB12 hb13) qb
        rw [hv13] at t0 t1 hB13
        clear hv13 qb hb13 hB12
        go_wp2_with fail
        refine (lives_any _).mono ?_
        rintro e w14 ⟨rfl, hb14⟩
        go_wp2_with fail
        go_ret
        exact ⟨rfl, Below.step hB13 hb14⟩
      · have h3 := A3.out _ (F4.out hp) v12
        simp only at h3
        obtain ⟨z, hz⟩ : ∃ z, e1 + p1 = z := ⟨_, rfl⟩
        rw [hz] at h3
        have x2 : (e1 : Int) + (p1 : Int) = (z : Int) := by omega
        have x3 : ((p1 : Int) == 0) = false := by simp; omega
        have x4 := eq_nat (a := p2) (b := p2) rfl
        have x5 := eq_nat (a := z) (b := z) rfl
        have H3 := Lib.hid h3
        clear h3 hz A3 F3 F4 hp
        refine H3.out.mono ?_
        rintro e w13 ⟨rfl, hb13⟩
        have q0 := kept_alloc (Below.kept hb13 (Nat.le_refl _) q0)
        have q1 := kept_alloc (Below.kept hb13 (Nat.le_refl _) q1)
        have r0 := kept_alloc (Below.kept hb13 (Nat.le_refl _) r0)
        have r1 := kept_alloc (Below.kept hb13 (Nat.le_refl _) r1)
        obtain ⟨v13, hv13⟩ : ∃ x, x = w13.alloc (.cells #[.int .i64 z, .int .i64 p2] 32) := ⟨_, rfl⟩
        obtain ⟨t0, t1, qb⟩ := pos_new hv13
        have hB13 := Below.step (Below.step hB12 hb13) qb
        rw [hv13] at t0 t1 hB13
        clear hv13 qb hb13 hB12
        go_wp2_with fail
        refine (lives_any _).mono ?_
        rintro e w14 ⟨rfl, hb14⟩
        go_wp2_with fail
        go_ret
        exact ⟨rfl, Below.step hB13 hb14⟩
end Go.Proofs.Ytclamcaanoieiaa
