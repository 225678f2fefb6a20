/-
  The other methods of a reader.
-/
import Derived.Test.YtaonhmdifinadaaWireB
import Derived.Deep.DeepCutAuto
namespace Go.Proofs.Ytaonhmdifinadaa
open Go Go.Proofs
open Go.RowKit
set_option linter.unusedVariables false
set_option linter.unusedSimpArgs false

theorem i64_xor_any (s t : Int) : bits BinOp.xor IntKind.i64 s t = IntKind.i64.wrap ((BitVec.ofInt 64 s ^^^ BitVec.ofInt 64 t).toNat : Int) := rfl
theorem unzig_walk (z : Nat) (h : z < 18446744073709551616) : bits BinOp.xor IntKind.i64 ((z : Int) / 2) (wrap64 (-wrap64 (bits BinOp.and IntKind.u64 (z : Int) 1))) = unzN z := by
  have ha : bits BinOp.and IntKind.u64 (z : Int) 1 = ((z % 2 : Nat) : Int) := by
    rw [show (1 : Int) = ((1 : Nat) : Int) from rfl, u64_and_nat _ _ (by omega) (by omega), Nat.and_one_is_mod]
  have hw : ∀ m : Int, IntKind.i64.wrap m = if m % 18446744073709551616 ≥ 9223372036854775808 then m % 18446744073709551616 - 18446744073709551616 else m % 18446744073709551616 := by
    intro m; simp [IntKind.wrap, IntKind.bits, IntKind.signed]
  rw [ha, i64_xor_any, hw]
  unfold unzN
  by_cases hz : z % 2 = 1
  · rw [if_pos hz, hz, show wrap64 (-wrap64 ((1 : Nat) : Int)) = -1 from by unfold wrap64; omega, show BitVec.ofInt 64 (-1) = BitVec.allOnes 64 from by decide, BitVec.xor_allOnes, BitVec.toNat_not, BitVec.toNat_ofInt]
    split <;> omega
  · have hz0 : z % 2 = 0 := by omega
    rw [if_neg hz, hz0, show wrap64 (-wrap64 ((0 : Nat) : Int)) = 0 from by unfold wrap64; omega, show BitVec.ofInt 64 0 = 0#64 from by decide, BitVec.xor_zero, BitVec.toNat_ofInt]
    split <;> omega
theorem unzig_any (z : Nat) (w : World) (h : z < 18446744073709551616) :
    Calls Try.prog 88 #[.int .u64 z] w fun e w' => e = .returned (.int .i64 (unzN z)) ∧ w = w' := by
  go_enter Try.func88, Try.ntmps88
  go_wp2_with fail
  go_ret
  exact ⟨ret_int (unzig_walk z h), rfl⟩
theorem read_any (i : Nat) (a : Option Addr) (c : Nat) (bs : List UInt8) (w : World) (o : Nat → Nat) (hi : 1 ≤ i) (hx : SliceAt w a c (bs.map byteV)) (hl : bs.length ≤ 70368744177664) :
    Calls Try.prog 46 #[.slice a bs.length c] w fun e w' => ∃ b, e = .returned (.pointer (some ⟨b, 0, none⟩)) ∧ ∃ o', Step (Own i) w o w' o' ∧ RdAt w' o' i b ⟨bs, 0⟩ := by
  have HX := Lib.hid hx
  clear hx
  go_enter Try.func46, Try.ntmps46
  go_wp2_with fail
  refine (clone_any a c bs w HX.out hl).mono ?_
  rintro e w1 ⟨v, rfl, hown, hb⟩
  obtain ⟨a1, c1, rfl, hd⟩ := Dat.ofRow (l := 0) (o := o) (f := byteV) hown
  have hs1 : Step (fun _ => False) w o w1 (newLab w o 0) := Step.below hb fun k hk => newLab_old _ _ _ hk
  have HD := Lib.hid hd
  have HS1 := Lib.hid hs1
  clear hown hb hd hs1
  go_wp2_with fail
  go_ret
  have hs2 : Step (fun _ => False) w1 (newLab w o 0) (w1.alloc (.cells #[.slice a1 bs.length c1, .int .i64 0] 160)) (newLab w1 (newLab w o 0) (10 * i)) := Step.below ((Below.refl _ _).alloc (Nat.le_refl _) _) fun k hk => newLab_old _ _ _ hk
  exact ⟨_, rfl, _, (HS1.out.trans hs2).mono fun _ h => h.elim, a1, c1, ⟨_, heap_alloc_new _ _, newLab_new _ _ _ (Nat.le_refl _)⟩, HD.out.step hs2 (fun h => h)⟩
theorem rint_any (i b : Nat) (R : RdS) (w : World) (o : Nat → Nat) (hi : 1 ≤ i) (hR : RdAt w o i b R) :
    Calls Try.prog 47 #[.pointer (some ⟨b, 0, none⟩)] w fun e w' => e = .returned (.int .i64 (intR R).1) ∧ Step (Own i) w o w' o ∧ RdAt w' o i b (intR R).2 := by
  have HR := Lib.hid hR
  clear hR
  go_enter Try.func47, Try.ntmps47
  go_wp2_with fail
  refine (ruint_any i b R w o hi HR.out).mono ?_
  rintro e w1 ⟨rfl, hs1, hR1⟩
  have HS1 := Lib.hid hs1
  have HR1 := Lib.hid hR1
  clear hs1 hR1
  go_wp2_with fail
  refine (unzig_any _ w1 (uintR_lt R)).mono ?_
  rintro e w2 ⟨rfl, rfl⟩
  go_wp2_with fail
  go_ret
  exact ⟨rfl, HS1.out, HR1.out⟩
theorem rend_any (i b : Nat) (R : RdS) (w : World) (o : Nat → Nat) (hR : RdAt w o i b R) :
    Calls Try.prog 49 #[.pointer (some ⟨b, 0, none⟩)] w fun e w' => e = .returned (.int .i64 (endR R)) ∧ w = w' := by
  obtain ⟨a, c, h1, h2⟩ := hR
  have c0 := h1.cell (j := 0) rfl
  have c1 := h1.cell (j := 1) rfl
  have hln := h2.slice.len
  simp only [List.length_map] at hln
  clear h1 h2
  by_cases he : R.e = 0
  · have hz : ((R.e : Int) == 0) = true := by simpa using he
    by_cases hl : 0 < R.bs.length
    · have hr : endR R = 2 := if_pos ⟨he, hl⟩
      rw [hr]
      have hl' : decide ((0 : Int) < (R.bs.length : Int)) = true := decide_eq_true (by omega)
      clear he hr
      go_enter Try.func49, Try.ntmps49
      go_wp2_with fail
      go_ret
      exact ⟨rfl, rfl⟩
    · have hr : endR R = R.e := if_neg (fun h => hl h.2)
      rw [hr]
      have hl' : decide ((0 : Int) < (R.bs.length : Int)) = false := decide_eq_false (by omega)
      have hl'' : decide (0 < R.bs.length) = false := decide_eq_false (by omega)
      clear he hr
      go_enter Try.func49, Try.ntmps49
      go_wp2_with fail
      go_ret
      exact ⟨rfl, rfl⟩
  · have hz : ((R.e : Int) == 0) = false := by simpa using he
    have hr : endR R = R.e := if_neg (fun h => he h.1)
    rw [hr]
    clear he hr
    go_enter Try.func49, Try.ntmps49
    go_wp2_with fail
    go_ret
    exact ⟨rfl, rfl⟩

/-- The length of a list, as the code reads it: what is left in the first slots. -/
theorem lenR_ok {R : RdS} (h : (lenR R).2.e = 0) : (lenR R).1 ≤ (lenR R).2.bs.length ∧ (lenR R).2 = (uintR R).2 := by
  unfold lenR at *
  simp only at *
  split at h
  · unfold failR at h
    split at h
    · simp at h
    · rename_i h1 h2; exact absurd h h2
  · rename_i h1
    rw [if_neg h1]
    exact ⟨by omega, rfl⟩
theorem lenR_len (R : RdS) : (lenR R).2.bs.length ≤ R.bs.length := by
  have := uintR_len R
  unfold lenR
  simp only
  split
  · rw [failR_bs]; exact this
  · exact this
def rdL (lr i : Nat) : Nat → Prop := fun x => Own i x ∨ x = lr
set_option maxHeartbeats 4000000 in
theorem listb_any (i b lr : Nat) (R : RdS) (w : World) (o : Nat → Nat) (hi : 1 ≤ i) (hR : RdAt w o i b R) (hl : R.bs.length ≤ 70368744177664) (hlr : ¬ Own i lr) (hlr0 : lr ≠ 0) :
    Calls Try.prog 114 #[.pointer (some ⟨b, 0, none⟩), .func (.func 112) #[.pointer (some ⟨b, 0, none⟩)] #[]] w fun e w' => ∃ v, e = .returned v ∧ ∃ o', Step (rdL lr i) w o w' o' ∧ RdAt w' o' i b (rawR R).2 ∧ RowL w' o' lr 5 1 v (rawR R).1.length ((rawR R).1.map byteV) := by
  have HR := Lib.hid hR
  have hLO := @lenR_ok R
  have hLL := lenR_len R
  have hul := uintR_lt R
  have hub := uintR_len R
  have HLO := Lib.hid hLO
  obtain ⟨n, hn⟩ : ∃ n, (uintR R).1 = n := ⟨_, rfl⟩
  obtain ⟨R1, hR1⟩ : ∃ R1, (uintR R).2 = R1 := ⟨_, rfl⟩
  have hlen : lenR R = (n, if R1.bs.length < n then failR R1 3 else R1) := by unfold lenR; rw [hn, hR1]
  rw [hn] at hul
  rw [hR1] at hub
  have HN := Lib.hid hn
  have HR1 := Lib.hid hR1
  have HLEN := Lib.hid hlen
  clear hR hLO hn hR1 hlen
  go_enter Try.func114, Try.ntmps114
  go_wp2_with fail
  refine (ruint_any i b R w o hi HR.out).mono ?_
  rw [HN.out, HR1.out]
  rintro e w1 ⟨rfl, hs1, hr1⟩
  have c0 : ∃ a c, w1.cell? ⟨b, 0, none⟩ = some (.slice a R1.bs.length c) := by obtain ⟨a, c, h, _⟩ := hr1; exact ⟨a, c, h.cell rfl⟩
  obtain ⟨a0, k0, c0⟩ := c0
  have HS1 := Lib.hid hs1
  have HRA := Lib.hid hr1
  clear hs1 hr1
  have key : ∀ (R2 : RdS) (w2 : World), Hid (lenR R = (n, R2)) → Hid (Step (Own i) w o w2 o) → Hid (RdAt w2 o i b R2) → True := fun _ _ _ _ _ => trivial
  clear key
  go_upto_if 17 with fail
  go_cut [] (fun wx => ∃ R2, Hid (lenR R = (n, R2)) ∧ Hid (Step (Own i) w o wx o) ∧ Hid (RdAt wx o i b R2))
  case first =>
    by_cases hbig : R1.bs.length < n
    · have d1 : decide ((R1.bs.length : Int) < (n : Int)) = true := decide_eq_true (by omega)
      have d2 : decide (R1.bs.length < n) = true := decide_eq_true hbig
      go_wp2_with fail
      refine (fail_any i b R1 3 w1 o hi HRA.out).mono ?_
      rintro e w2 ⟨rfl, hs2, hr2⟩
      have HS2 := Lib.hid (HS1.out.trans hs2)
      have HR2 := Lib.hid hr2
      clear hs2 hr2
      go_wp2_with fail
      go_meet
      exact ⟨_, by have h := HLEN.out; rw [if_pos (by omega)] at h; exact h, HS2.out, HR2.out⟩
    · have d1 : decide ((R1.bs.length : Int) < (n : Int)) = false := decide_eq_false (by omega)
      have d2 : decide (R1.bs.length < n) = false := decide_eq_false hbig
      go_wp2_with fail
      go_meet
      exact ⟨_, by have h := HLEN.out; rw [if_neg (by omega)] at h; exact h, HS1.out, HRA.out⟩
  case rest =>
    clear HLEN HRA c0 HS1
    obtain ⟨R2, HLEN, HS2, HR2⟩ := hcut
    obtain ⟨w2, hw2⟩ : ∃ x, x = wc := ⟨_, rfl⟩
    subst hw2
    have c1 : w2.cell? ⟨b, 1, none⟩ = some (.int .i64 R2.e) := by obtain ⟨_, _, h, _⟩ := HR2.out; exact h.cell rfl
    have hraw : rawR R = if R2.e = 0 then (R2.bs.take n, ⟨R2.bs.drop n, 0⟩) else ([], R2) := by unfold rawR; rw [HLEN.out]
    have HRAW := Lib.hid hraw
    have hLO := HLO.out
    rw [HLEN.out] at hLO hLL
    simp only at hLO hLL
    by_cases he : R2.e = 0
    · have hz : ((R2.e : Int) == 0) = true := by simpa using he
      have hz' : ((R2.e : Int) != 0) = false := by simpa using he
      have hnl := (hLO he).1
      have HE := Lib.hid he
      clear hraw hLO he
      go_wp2_with fail
      go_loopw [6, 7] (fun vv kv wr => ∃ (k : Nat) (o' : Nat → Nat), k ≤ n ∧ kv = .int .u64 k ∧ Hid (Step (rdL lr i) w o wr o') ∧ Hid (RdAt wr o' i b ⟨R2.bs.drop k, 0⟩) ∧ Hid (RowL wr o' lr 5 1 vv k ((R2.bs.take k).map byteV))) (fun _ kv _ => n - (intOf kv).toNat)
      case atStart => exact ⟨0, o, by omega, rfl, HS2.out.mono fun _ h => .inl h, by have h := HR2.out; unfold Hid; rw [List.drop_zero, show (⟨R2.bs, 0⟩ : RdS) = R2 from by rw [← HE.out]]; exact h, RowL.nil _ _ _ _ _⟩
      case round =>
        clear HR2 HS2 c1
        obtain ⟨k, o1, hk, rfl, HS, HR, HV⟩ := hrel
        have c1 : wr.cell? ⟨b, 1, none⟩ = some (.int .i64 0) := by obtain ⟨_, _, h, _⟩ := HR.out; exact h.cell rfl
        by_cases hkn : k < n
        · have d1 : decide ((k : Int) < (n : Int)) = true := decide_eq_true (by omega)
          have d2 : decide (k < n) = true := decide_eq_true hkn
          have hkb : k < R2.bs.length := by omega
          have hdr : R2.bs.drop k = R2.bs[k] :: R2.bs.drop (k + 1) := List.drop_eq_getElem_cons hkb
          have hnx : nextR ⟨R2.bs.drop k, 0⟩ = (R2.bs[k], ⟨R2.bs.drop (k + 1), 0⟩) := by unfold nextR; rw [if_neg (fun h => h rfl)]; simp only [hdr]
          have htk : R2.bs.take (k + 1) = R2.bs.take k ++ [R2.bs[k]] := List.take_succ_eq_append_getElem hkb
          obtain ⟨c, hc⟩ : ∃ c, R2.bs[k] = c := ⟨_, rfl⟩
          rw [hc] at hnx htk
          have HNX := Lib.hid hnx
          have HTK := Lib.hid htk
          have hc8 := c.toNat_lt
          clear hdr hnx htk hc
          go_wp2_with fail
          refine (wnext_any i b _ wr o1 hi HR.out).mono ?_
          rw [HNX.out]
          rintro e w4 ⟨rfl, hs4, hr4⟩
          have HS4 := Lib.hid (HS.out.trans (hs4.mono fun _ h => .inl h))
          have HR4 := Lib.hid hr4
          have hv4 := HV.out.step hs4 hlr
          obtain ⟨va, vc, rfl⟩ := hv4.form
          have HV4 := Lib.hid hv4
          have hk7 : k ≤ 70368744177664 := by omega
          clear hs4 hr4 hv4 c1
          go_wp2_with (at_builtin; refine wpList_append_row rfl (.tmp 32) (.tmp 35) 78 rfl elemB rfl HV4.out ((Below.refl _ w4).alloc (Nat.le_refl _) _) (some ⟨w4.heap.size, 0, none⟩) 1 1 [.int .u8 (c.toNat : Int)] rfl (row_new (cs := [.int .u8 (c.toNat : Int)]) (by simp) (by omega)) (by simp [Value.oneCell']) (by omega) (by omega) ?_)
          intro v5 w5 hrow5 hs5
          have HS5 := Lib.hid (HS4.out.trans (hs5.mono fun _ h => .inr h))
          have HR5 := Lib.hid (HR4.out.step hs5 (fun e => hlr0 e.symm) (fun l h e => hlr (by rw [← e]; exact h)))
          have HV5 : Hid (RowL w5 (newLab w4 o1 lr) lr 5 1 v5 (k + 1) ((R2.bs.take (k + 1)).map byteV)) := by rw [HTK.out, List.map_append, List.map_take]; exact hrow5
          clear hrow5 hs5
          go_wp2_with fail
          go_roundw
          case rel => exact ⟨k + 1, _, by omega, by go_num, HS5.out, HR5.out, HV5.out⟩
          case measure => simp [intOf]; omega
        · have d1 : decide ((k : Int) < (n : Int)) = false := decide_eq_false (by omega)
          have d2 : decide (k < n) = false := decide_eq_false hkn
          obtain rfl : k = n := by omega
          have e1 : rawR R = (R2.bs.take k, ⟨R2.bs.drop k, 0⟩) := by rw [HRAW.out, if_pos HE.out]
          have hrl : (R2.bs.take k).length = k := by rw [List.length_take]; omega
          have E1 := Lib.hid e1
          have HRL := Lib.hid hrl
          clear e1 hrl
          go_wp2_with fail
          go_ret
          rw [E1.out]
          simp only
          rw [HRL.out]
          exact ⟨_, rfl, o1, HS.out, HR.out, HV.out⟩
    · have hz : ((R2.e : Int) == 0) = false := by simpa using he
      have hz' : ((R2.e : Int) != 0) = true := by simpa using he
      have HE := Lib.hid he
      have e1 : rawR R = ([], R2) := by rw [HRAW.out, if_neg he]
      have E1 := Lib.hid e1
      clear hraw hLO he e1
      go_wp2_with fail
      go_loopw [6, 7] (fun vv kv wr => vv = .slice none 0 0 ∧ kv = .int .u64 0 ∧ wr = w2) (fun _ kv _ => 0)
      case atStart => exact ⟨rfl, rfl, rfl⟩
      case round =>
        obtain ⟨rfl, rfl, rfl⟩ := hrel
        by_cases hn0 : 0 < n
        · have d1 : decide ((0 : Int) < (n : Int)) = true := decide_eq_true (by omega)
          have d2 : decide (0 < n) = true := decide_eq_true hn0
          go_wp2_with fail
          go_ret
          rw [E1.out]
          exact ⟨_, rfl, o, HS2.out.mono fun _ h => .inl h, HR2.out, RowL.nil _ _ _ _ _⟩
        · have d1 : decide ((0 : Int) < (n : Int)) = false := decide_eq_false (by omega)
          have d2 : decide (0 < n) = false := decide_eq_false hn0
          go_wp2_with fail
          go_ret
          rw [E1.out]
          exact ⟨_, rfl, o, HS2.out.mono fun _ h => .inl h, HR2.out, RowL.nil _ _ _ _ _⟩

theorem rraw_any (i b lr : Nat) (R : RdS) (w : World) (o : Nat → Nat) (hi : 1 ≤ i) (hR : RdAt w o i b R) (hl : R.bs.length ≤ 70368744177664) (hlr : ¬ Own i lr) (hlr0 : lr ≠ 0) :
    Calls Try.prog 90 #[.pointer (some ⟨b, 0, none⟩)] w fun e w' => ∃ v, e = .returned v ∧ ∃ o', Step (rdL lr i) w o w' o' ∧ RdAt w' o' i b (rawR R).2 ∧ RowL w' o' lr 5 1 v (rawR R).1.length ((rawR R).1.map byteV) := by
  have HR := Lib.hid hR
  clear hR
  go_enter Try.func90, Try.ntmps90
  go_wp2_with fail
  refine (listb_any i b lr R w o hi HR.out hl hlr hlr0).mono ?_
  rintro e w1 ⟨v, rfl, o1, hs, hr, hv⟩
  go_wp2_with fail
  go_ret
  exact ⟨v, rfl, o1, hs, hr, hv⟩
theorem label_bound (o : Nat → Nat) : ∀ n : Nat, ∃ m, ∀ k, k < n → o k < m
  | 0 => ⟨0, fun k h => by omega⟩
  | n + 1 => by
    obtain ⟨m, hm⟩ := label_bound o n
    refine ⟨max m (o n + 1), fun k hk => ?_⟩
    by_cases h : k = n
    · subst h; omega
    · have := hm k (by omega); omega
theorem Step.sub {L L' : Nat → Prop} {w w' : World} {o o' : Nat → Nat} (h : Step L w o w' o') (hL : ∀ k, k < w.heap.size → L (o k) → L' (o k)) : Step L' w o w' o' :=
  ⟨h.os, h.tape, h.output, h.size, fun k hk hl => h.block k hk (fun e => hl (hL k hk e)), h.lab⟩
/-- A label that no block bears. -/
theorem fresh_label (w : World) (o : Nat → Nat) (i : Nat) : ∃ lr, 10 * i + 10 ≤ lr ∧ ∀ k, k < w.heap.size → o k ≠ lr := by
  obtain ⟨m, hm⟩ := label_bound o w.heap.size
  exact ⟨max m (10 * i + 10), by omega, fun k hk => by have := hm k hk; omega⟩
theorem rtext_any (i b : Nat) (R : RdS) (w : World) (o : Nat → Nat) (hi : 1 ≤ i) (hR : RdAt w o i b R) (hl : R.bs.length ≤ 70368744177664) :
    Calls Try.prog 48 #[.pointer (some ⟨b, 0, none⟩)] w fun e w' => e = .returned (.string ⟨(rawR R).1.toArray⟩) ∧ ∃ o', Step (Own i) w o w' o' ∧ RdAt w' o' i b (rawR R).2 := by
  have HR := Lib.hid hR
  clear hR
  obtain ⟨lr, hlr, hfr⟩ := fresh_label w o i
  have HFR := Lib.hid hfr
  clear hfr
  go_enter Try.func48, Try.ntmps48
  go_wp2_with fail
  refine (rraw_any i b lr R w o hi HR.out hl (by unfold Own; omega) (by omega)).mono ?_
  rintro e w1 ⟨v, rfl, o1, hs, hr, hv⟩
  obtain ⟨va, vc, rfl⟩ := hv.form
  have hcv := run_string_of (P := Try.prog) w1 Try.underlying78 Try.underlying5 Try.underlying9 va vc _ hv.slice
  have HS := Lib.hid (hs.sub (L' := Own i) fun k hk h => by
    rcases h with h | h
    · exact h
    · exact absurd h (HFR.out k hk))
  have HR1 := Lib.hid hr
  clear hs hr hv
  go_wp2_with fail
  go_ret
  exact ⟨rfl, o1, HS.out, HR1.out⟩
end Go.Proofs.Ytaonhmdifinadaa
