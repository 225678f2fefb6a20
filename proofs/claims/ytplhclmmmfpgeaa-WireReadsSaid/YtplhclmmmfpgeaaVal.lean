/-
  Values of all kinds in memory; write and encode of the law.
-/
import Derived.Test.YtplhclmmmfpgeaaWireG
namespace Go.Proofs.Ytplhclmmmfpgeaa
open Go Go.Proofs
open Go.RowKit
set_option linter.unusedVariables false
set_option linter.unusedSimpArgs false

structure ValS where
  kind : Nat
  u : Nat
  n : Int
  b : List UInt8
  l : List Int
/-- Its bounds. -/
structure ValS.Ok (v : ValS) : Prop where
  k : v.kind ≤ 5
  u : v.u < 18446744073709551616
  n : -9223372036854775808 ≤ v.n ∧ v.n ≤ 9223372036854775807
  b : v.b.length ≤ 1000000
  l : v.l.length ≤ 1000000
  lb : ∀ x ∈ v.l, -9223372036854775808 ≤ x ∧ x ≤ 9223372036854775807
/-- The encoding of a value. -/
def encV (v : ValS) : List UInt8 :=
  if v.kind = 0 then encU v.u else if v.kind = 1 then encI v.n else if v.kind = 2 then encU (boolN (decide (v.n = 1))) else if v.kind = 3 ∨ v.kind = 4 then encR v.b else encIs v.l
theorem encV_len {v : ValS} (h : v.Ok) : (encV v).length ≤ 10000010 := by
  have h1 := encU_len10 h.u
  have h2 := encI_len v.n h.n.1 h.n.2
  have h3 := encU_len10 (n := v.b.length) (by have := h.b; omega)
  have h4 := encU_len10 (n := v.l.length) (by have := h.l; omega)
  have h5 := encIs_len v.l h.lb
  have h6 := h.b
  have h7 := h.l
  unfold encV
  split
  · omega
  split
  · omega
  split
  · rw [encU_small (by unfold boolN; split <;> omega)]; simp
  split
  · unfold encR; simp only [List.length_append]; omega
  · unfold encIs; simp only [List.length_append]; omega
/-- The five cells of a value. -/
def ValC (w : World) (o : Nat → Nat) (v : ValS) (x y : Value) : Prop := ∃ ba bc la lc, x = .slice ba v.b.length bc ∧ y = .slice la v.l.length lc ∧ Dat w o 0 ba bc (v.b.map byteV) ∧ Dat w o 0 la lc (v.l.map intV)
theorem ValC.step {L : Nat → Prop} {w w' : World} {o o' : Nat → Nat} {v : ValS} {x y : Value} (h : ValC w o v x y) (hs : Step L w o w' o') (h0 : ¬ L 0) : ValC w' o' v x y := by
  obtain ⟨ba, bc, la, lc, rfl, rfl, h1, h2⟩ := h
  exact ⟨ba, bc, la, lc, rfl, rfl, h1.step hs h0, h2.step hs h0⟩

set_option maxHeartbeats 2000000 in
theorem write_any (i b : Nat) (v : ValS) (x y : Value) (bs : List UInt8) (w : World) (o : Nat → Nat) (hi : 1 ≤ i) (hv : v.Ok) (hW : WrAt w o i b bs) (hV : ValC w o v x y) (hl : bs.length ≤ 1000000000) :
    Calls Try.prog 34 #[.pointer (some ⟨b, 0, none⟩), .agg #[.int .i64 v.kind, .int .u64 v.u, .int .i64 v.n, x, y]] w fun e w' => e = .returned (.tuple #[]) ∧ ∃ o', Step (Own i) w o w' o' ∧ WrAt w' o' i b (bs ++ encV v) := by
  obtain ⟨ba, bc, la, lc, rfl, rfl, hb, hlst⟩ := hV
  have hbb := hv.b
  have hll := hv.l
  obtain ⟨kd, hkd⟩ : ∃ kd, v.kind = kd := ⟨_, rfl⟩
  have hk5 : kd ≤ 5 := by rw [← hkd]; exact hv.k
  obtain ⟨w1, hw1⟩ : ∃ w1, w1 = w.alloc (.cells #[.int .i64 kd, .int .u64 v.u, .int .i64 v.n, .slice ba v.b.length bc, .slice la v.l.length lc] 47) := ⟨_, rfl⟩
  have hs1 : Step (fun _ => False) w o w1 o := by rw [hw1]; exact (Step.refl _ _ _).alloc _
  have HS1 := Lib.hid hs1
  have HW1 := Lib.hid (hW.step hs1 fun _ _ h => h)
  have HB := Lib.hid (hb.step hs1 (fun h => h))
  have HL := Lib.hid (hlst.step hs1 (fun h => h))
  have HV := Lib.hid hv
  have HKD := Lib.hid hkd
  have HE := Lib.hid hw1
  rw [hkd]
  clear hs1 hb hlst hv hW hkd hw1
  have hc : kd = 0 ∨ kd = 1 ∨ kd = 2 ∨ kd = 3 ∨ kd = 4 ∨ kd = 5 := by omega
  rcases hc with hc | hc | hc | hc | hc | hc
  · have k0 : ((kd : Int) == 0) = true := by simp; omega
    have e1 : encV v = encU v.u := by unfold encV; rw [HKD.out, if_pos hc]
    rw [e1]
    have HC := Lib.hid hc
    clear hc e1
    go_enter Try.func34, Try.ntmps34
    go_wp2_with fail
    rw [← HE.out]
    refine (uint_any i b v.u bs w1 o hi HW1.out HV.out.u (by omega)).mono ?_
    rintro e w2 ⟨rfl, o2, hs2, hw2⟩
    have HS2 := Lib.hid ((HS1.out.mono fun _ h => h.elim).trans hs2)
    have HW2 := Lib.hid hw2
    clear hs2 hw2
    go_wp2_with fail
    go_end0
    exact ⟨rfl, o2, HS2.out, HW2.out⟩
  · have k0 : ((kd : Int) == 0) = false := by simp; omega
    have k1 : ((kd : Int) == 1) = true := by simp; omega
    have e1 : encV v = encI v.n := by unfold encV; rw [HKD.out, if_neg (by omega), if_pos hc]
    rw [e1]
    have HC := Lib.hid hc
    clear hc e1
    go_enter Try.func34, Try.ntmps34
    go_wp2_with fail
    rw [← HE.out]
    refine (int_any i b v.n bs w1 o hi HW1.out HV.out.n.1 HV.out.n.2 (by omega)).mono ?_
    rintro e w2 ⟨rfl, o2, hs2, hw2⟩
    have HS2 := Lib.hid ((HS1.out.mono fun _ h => h.elim).trans hs2)
    have HW2 := Lib.hid hw2
    clear hs2 hw2
    go_wp2_with fail
    go_end0
    exact ⟨rfl, o2, HS2.out, HW2.out⟩
  · have k0 : ((kd : Int) == 0) = false := by simp; omega
    have k1 : ((kd : Int) == 1) = false := by simp; omega
    have k2 : ((kd : Int) == 2) = true := by simp; omega
    have e1 : encV v = encU (boolN (decide (v.n = 1))) := by unfold encV; rw [HKD.out, if_neg (by omega), if_neg (by omega), if_pos hc]
    rw [e1]
    have HC := Lib.hid hc
    clear hc e1
    go_enter Try.func34, Try.ntmps34
    go_wp2_with fail
    rw [← HE.out]
    refine (bool_any i b (v.n == 1) bs w1 o hi HW1.out (by omega)).mono ?_
    rintro e w2 ⟨rfl, o2, hs2, hw2⟩
    have HS2 := Lib.hid ((HS1.out.mono fun _ h => h.elim).trans hs2)
    have HW2 := Lib.hid hw2
    clear hs2 hw2
    go_wp2_with fail
    go_end0
    rw [show decide (v.n = 1) = (v.n == 1) from by rw [Bool.eq_iff_iff]; simp]
    exact ⟨rfl, o2, HS2.out, HW2.out⟩
  · have k0 : ((kd : Int) == 0) = false := by simp; omega
    have k1 : ((kd : Int) == 1) = false := by simp; omega
    have k2 : ((kd : Int) == 2) = false := by simp; omega
    have k3 : ((kd : Int) == 3) = true := by simp; omega
    have e1 : encV v = encR v.b := by unfold encV; rw [HKD.out, if_neg (by omega), if_neg (by omega), if_neg (by omega), if_pos (by omega)]
    rw [e1]
    have HC := Lib.hid hc
    clear hc e1
    rw [HE.out] at HB HW1 HL HS1
    have hcv := run_string_of (P := Try.prog) _ Try.underlying24 Try.underlying5 Try.underlying9 ba bc v.b HB.out.slice
    go_enter Try.func34, Try.ntmps34
    go_wp2_with fail
    refine (text_any i b ⟨v.b.toArray⟩ bs _ o hi HW1.out (by omega) (by show v.b.toArray.size ≤ _; rw [List.size_toArray]; omega)).mono ?_
    rintro e w2 ⟨rfl, o2, hs2, hw2⟩
    have HS2 := Lib.hid ((HS1.out.mono fun _ h => h.elim).trans hs2)
    have HW2 := Lib.hid hw2
    clear hs2 hw2
    go_wp2_with fail
    go_end0
    exact ⟨rfl, o2, HS2.out, by simpa using HW2.out⟩
  · have k0 : ((kd : Int) == 0) = false := by simp; omega
    have k1 : ((kd : Int) == 1) = false := by simp; omega
    have k2 : ((kd : Int) == 2) = false := by simp; omega
    have k3 : ((kd : Int) == 3) = false := by simp; omega
    have k4 : ((kd : Int) == 4) = true := by simp; omega
    have e1 : encV v = encR v.b := by unfold encV; rw [HKD.out, if_neg (by omega), if_neg (by omega), if_neg (by omega), if_pos (by omega)]
    rw [e1]
    have HC := Lib.hid hc
    clear hc e1
    go_enter Try.func34, Try.ntmps34
    go_wp2_with fail
    rw [← HE.out]
    refine (raw_any i b ba bc v.b bs w1 o hi HW1.out (by omega) HB.out.slice (by omega)).mono ?_
    rintro e w2 ⟨rfl, o2, hs2, hw2⟩
    have HS2 := Lib.hid ((HS1.out.mono fun _ h => h.elim).trans hs2)
    have HW2 := Lib.hid hw2
    clear hs2 hw2
    go_wp2_with fail
    go_end0
    exact ⟨rfl, o2, HS2.out, HW2.out⟩
  · have k0 : ((kd : Int) == 0) = false := by simp; omega
    have k1 : ((kd : Int) == 1) = false := by simp; omega
    have k2 : ((kd : Int) == 2) = false := by simp; omega
    have k3 : ((kd : Int) == 3) = false := by simp; omega
    have k4 : ((kd : Int) == 4) = false := by simp; omega
    have e1 : encV v = encIs v.l := by unfold encV; rw [HKD.out, if_neg (by omega), if_neg (by omega), if_neg (by omega), if_neg (by omega)]
    rw [e1]
    have HC := Lib.hid hc
    clear hc e1
    go_enter Try.func34, Try.ntmps34
    go_wp2_with fail
    rw [← HE.out]
    refine (wints_any i b la lc v.l bs w1 o hi HW1.out (by omega) HL.out.slice (fun h b' off he => by rw [HL.out.2 (by simpa using h) b' off he]; exact Own.not0 hi) HV.out.lb (by omega)).mono ?_
    rintro e w2 ⟨rfl, o2, hs2, hw2⟩
    have HS2 := Lib.hid ((HS1.out.mono fun _ h => h.elim).trans hs2)
    have HW2 := Lib.hid hw2
    clear hs2 hw2
    go_wp2_with fail
    go_end0
    exact ⟨rfl, o2, HS2.out, HW2.out⟩
/-- A row of values that bears label l. -/
def vcells (ps : List (ValS × Value × Value)) : List Value := ps.flatMap fun p => [.int .i64 p.1.kind, .int .u64 p.1.u, .int .i64 p.1.n, p.2.1, p.2.2]
def VRow (w : World) (o : Nat → Nat) (l : Nat) (x : Value) (vs : List ValS) : Prop :=
  ∃ ps : List (ValS × Value × Value), RowL w o l 47 5 x vs.length (vcells ps) ∧ ps.map (·.1) = vs ∧ ∀ p ∈ ps, ValC w o p.1 p.2.1 p.2.2
theorem VRow.step {L : Nat → Prop} {w w' : World} {o o' : Nat → Nat} {l : Nat} {x : Value} {vs : List ValS} (h : VRow w o l x vs) (hs : Step L w o w' o') (h0 : ¬ L 0) (hl : ¬ L l) : VRow w' o' l x vs := by
  obtain ⟨ps, h1, h2, h3⟩ := h
  exact ⟨ps, h1.step hs hl, h2, fun p hp => (h3 p hp).step hs h0⟩
theorem vcells_get : ∀ (ps : List (ValS × Value × Value)) (j : Nat) (p : ValS × Value × Value), ps[j]? = some p →
    (vcells ps)[j * 5]? = some (.int .i64 p.1.kind) ∧ (vcells ps)[j * 5 + 1]? = some (.int .u64 p.1.u) ∧ (vcells ps)[j * 5 + 2]? = some (.int .i64 p.1.n) ∧ (vcells ps)[j * 5 + 3]? = some p.2.1 ∧ (vcells ps)[j * 5 + 4]? = some p.2.2
  | [], j, p, h => by simp at h
  | q :: ps, 0, p, h => by simp at h; subst h; exact ⟨rfl, rfl, rfl, rfl, rfl⟩
  | q :: ps, j + 1, p, h => by
    have := vcells_get ps j p (by simpa using h)
    have e : vcells (q :: ps) = .int .i64 q.1.kind :: .int .u64 q.1.u :: .int .i64 q.1.n :: q.2.1 :: q.2.2 :: vcells ps := rfl
    rw [e, show (j + 1) * 5 = j * 5 + 5 by omega]
    exact this
theorem VRow.at {w : World} {o : Nat → Nat} {l n c : Nat} {a : Option Addr} {vs : List ValS} (h : VRow w o l (.slice a n c) vs) {j : Nat} {v : ValS} (hv : vs[j]? = some v) :
    ∃ g x y, a = some ⟨g, 0, none⟩ ∧ n = vs.length ∧ n ≤ c ∧ w.cell? ⟨g, j * 5, none⟩ = some (.int .i64 v.kind) ∧ w.cell? ⟨g, j * 5 + 1, none⟩ = some (.int .u64 v.u) ∧ w.cell? ⟨g, j * 5 + 2, none⟩ = some (.int .i64 v.n) ∧
      w.cell? ⟨g, j * 5 + 3, none⟩ = some x ∧ w.cell? ⟨g, j * 5 + 4, none⟩ = some y ∧ ValC w o v x y := by
  obtain ⟨ps, h1, h2, h3⟩ := h
  obtain ⟨a', c', he, hnc, hcm, hxl, hg⟩ := h1.cells
  simp only [Value.slice.injEq] at he
  obtain ⟨rfl, rfl, rfl⟩ := he
  have hj := (List.getElem?_eq_some_iff.1 hv).1
  obtain ⟨g, rfl, _, _, hc, _⟩ := hg (by omega)
  rw [← h2, List.getElem?_map] at hv
  obtain ⟨p, hp, rfl⟩ := Option.map_eq_some_iff.1 hv
  obtain ⟨e0, e1, e2, e3, e4⟩ := vcells_get ps j p hp
  exact ⟨g, p.2.1, p.2.2, rfl, rfl, hnc, hc _ _ e0, hc _ _ e1, hc _ _ e2, hc _ _ e3, hc _ _ e4, h3 p (List.mem_of_getElem? hp)⟩
theorem encVs_len (vs : List ValS) (h : ∀ v ∈ vs, v.Ok) : (vs.flatMap encV).length ≤ 10000010 * vs.length := by
  induction vs with
  | nil => simp
  | cons v vs ih =>
    have h1 := encV_len (h v (by simp))
    have h2 := ih fun x hx => h x (by simp [hx])
    simp only [List.flatMap_cons, List.length_append, List.length_cons]
    omega
theorem fresh_obj (w : World) (o : Nat → Nat) (l : Nat) : ∃ i, 1 ≤ i ∧ ¬ Own i l ∧ ∀ k, k < w.heap.size → ¬ Own i (o k) := by
  obtain ⟨m, hm⟩ := label_bound o w.heap.size
  refine ⟨max m l + 1, by omega, by unfold Own; omega, fun k hk => ?_⟩
  have := hm k hk
  unfold Own
  omega
theorem ownsRow_base {w : World} {base base' : Nat} {e : TypeId} {size : Nat} {v : Value} {n : Nat} {xs : List Value} (h : w.ownsRow base' e size v n xs) (hb : base ≤ base') : w.ownsRow base e size v n xs := by
  refine ⟨h.1, ?_⟩
  rcases h.2 with hn | ⟨g, cap, cur, rfl, hg, rest⟩
  · exact .inl hn
  · exact .inr ⟨g, cap, cur, rfl, Nat.le_trans hb hg, rest⟩
set_option maxHeartbeats 2000000 in
theorem encode_any (a : Option Addr) (c l : Nat) (vs : List ValS) (w : World) (o : Nat → Nat) (hV : VRow w o l (.slice a vs.length c) vs) (hok : ∀ v ∈ vs, v.Ok) (hlen : vs.length ≤ 90) :
    Calls Try.prog 35 #[.slice a vs.length c] w fun e w' => ∃ v, e = .returned v ∧ w'.ownsRow w.heap.size 5 1 v (vs.flatMap encV).length ((vs.flatMap encV).map byteV) ∧ Below w.heap.size w w' := by
  obtain ⟨i, hi, hil, hfr⟩ := fresh_obj w o l
  have HFR := Lib.hid hfr
  have HOK := Lib.hid hok
  have s1 := step_new w o (10 * i) (.cells #[.slice none 0 0] 26)
  have S1 := Lib.hid s1
  have HV1 := Lib.hid (hV.step s1 (fun h => h) (fun h => h))
  have W1 := Lib.hid (wr_new w o i 26)
  obtain ⟨n, hn⟩ : ∃ n, vs.length = n := ⟨_, rfl⟩
  rw [hn] at HV1 hlen ⊢
  have HN := Lib.hid hn
  clear hfr hok s1 hV hn
  go_enter Try.func35, Try.ntmps35
  go_wp2_with fail
  obtain ⟨b, hb⟩ : ∃ b, b = w.heap.size := ⟨_, rfl⟩
  rw [← hb] at W1 ⊢
  have HB := Lib.hid hb
  clear hb
  go_loopw [4] (fun jv wr => ∃ (j : Nat) (o' : Nat → Nat), j ≤ n ∧ jv = .int .i64 j ∧ Hid (Step (Own i) (w.alloc (.cells #[.slice none 0 0] 26)) (newLab w o (10 * i)) wr o') ∧ Hid (WrAt wr o' i b ((vs.take j).flatMap encV))) (fun jv _ => n - (intOf jv).toNat)
  case atStart => exact ⟨0, _, by omega, rfl, Step.refl _ _ _, W1.out⟩
  case round =>
    clear W1
    obtain ⟨j, o1, hj, rfl, HS, HW⟩ := hrel
    by_cases hjn : j < n
    · have hjv : j < vs.length := by rw [HN.out]; exact hjn
      obtain ⟨v, hv⟩ : ∃ v, vs[j]? = some v := ⟨vs[j], List.getElem?_eq_getElem hjv⟩
      have htk : vs.take (j + 1) = vs.take j ++ [v] := by
        rw [List.take_succ_eq_append_getElem hjv]
        rw [List.getElem?_eq_getElem hjv] at hv
        rw [Option.some.inj hv]
      have hvr := HV1.out.step HS.out (Own.not0 hi) hil
      obtain ⟨g, x, y, rfl, -, hnc, e0, e1, e2, e3, e4, hvc⟩ := hvr.at hv
      have hvo := HOK.out v (List.mem_of_getElem? hv)
      have hln : ((vs.take j).flatMap encV).length ≤ 1000000000 := by
        have h1 := encVs_len (vs.take j) fun x hx => HOK.out x (List.mem_of_mem_take hx)
        have h2 : (vs.take j).length ≤ 90 := by rw [List.length_take]; omega
        have h3 : 10000010 * (vs.take j).length ≤ 10000010 * 90 := Nat.mul_le_mul_left _ h2
        omega
      obtain ⟨ba, bc, la, lc, rfl, rfl, hd1, hd2⟩ := hvc
      have HVC : Hid (ValC wr o1 v (.slice ba v.b.length bc) (.slice la v.l.length lc)) := ⟨ba, bc, la, lc, rfl, rfl, hd1, hd2⟩
      have HVO := Lib.hid hvo
      have HLN := Lib.hid hln
      have HTK := Lib.hid htk
      clear hv htk hvr hvo hln hd1 hd2 hjv
      go_wp2_with fail
      refine (write_any i b v _ _ _ wr o1 hi HVO.out HW.out HVC.out HLN.out).mono ?_
      rintro e w5 ⟨rfl, o5, hs5, hw5⟩
      have HS5 := Lib.hid (HS.out.trans hs5)
      have HW5 : Hid (WrAt w5 o5 i b ((vs.take (j + 1)).flatMap encV)) := by unfold Hid; rw [HTK.out, List.flatMap_append]; simpa using hw5
      clear hs5 hw5
      go_wp2_with fail
      go_roundw
      case rel => exact ⟨j + 1, o5, by omega, by go_num, HS5.out, HW5.out⟩
      case measure => simp [intOf]; omega
    · obtain rfl : n = j := by omega
      have hall : vs.take n = vs := List.take_of_length_le (by rw [HN.out]; omega)
      rw [hall] at HW
      have hln : (vs.flatMap encV).length ≤ 1000000000 := by
        have h1 := encVs_len vs HOK.out
        have h3 : 10000010 * vs.length ≤ 10000010 * 90 := Nat.mul_le_mul_left _ (by rw [HN.out]; exact hlen)
        omega
      have HLN := Lib.hid hln
      clear hall hln
      go_wp2_with fail
      refine (done_any i b _ wr o1 HW.out (by have := HLN.out; omega)).mono ?_
      rintro e w6 ⟨v, rfl, hown6, hb6⟩
      go_wp2_with fail
      go_ret
      have hS := (S1.out.mono (L' := Own i) fun _ h => h.elim).trans HS.out
      have hB := (hS.sub (L' := fun _ => False) fun k hk h => HFR.out k hk h).toBelow (Nat.le_refl _) fun _ _ h => h
      exact ⟨v, rfl, ownsRow_base hown6 hS.size, hB.trans (hb6.mono hS.size)⟩
end Go.Proofs.Ytplhclmmmfpgeaa
