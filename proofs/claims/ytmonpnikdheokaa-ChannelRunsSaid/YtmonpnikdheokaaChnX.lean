/-
  The reference's code of a packet: Valid, core, Whole, Encode; plain and Same.
-/
import Derived.Test.YtmonpnikdheokaaChnV
import Derived.Test.YtmonpnikdheokaaRefW
import Derived.Test.YtmonpnikdheokaaHashRef
import Derived.Test.YtmonpnikdheokaaOwnB
namespace Go.Proofs.Ytmonpnikdheokaa
open Go Go.Proofs
open Go.RowKit
set_option linter.unusedVariables false
set_option linter.unusedSimpArgs false

theorem rvalidP (q k : Int) (a : Option Addr) (c : Nat) (m : List UInt8) (w : World) (hl : m.length ≤ 9223372036854775807) :
    Calls Try.prog 55 #[.agg #[.int .i64 q, .int .i64 k, .slice a m.length c]] w fun e w' => e = .returned (.bool (pvalid ⟨q, k, m⟩)) ∧ Below w.heap.size w w' := by
  obtain ⟨n, hn⟩ : ∃ n, m.length = n := ⟨_, rfl⟩
  have e : pvalid ⟨q, k, m⟩ = (decide (0 ≤ q) && (decide (0 ≤ k) && (decide (n ≤ 65536) && (decide (0 < q) || decide (n = 0))))) := by rw [← hn]; rfl
  have E := Lib.hid e
  clear e
  rw [hn]
  rw [hn] at hl
  clear hn
  go_enter Try.func55, Try.ntmps55
  go_wp2
  all_goals
    go_ret
    refine ⟨ret_bool ?_, (Below.refl _ _).alloc (Nat.le_refl _) _⟩
    rw [E.out, Bool.eq_iff_iff]
    simp
    omega
theorem rbytesP (a : Option Addr) (c n : Nat) (bs : List UInt8) (w : World) (hx : SliceAt w a c (bs.map byteV)) (hn : bs.length = n) (hl : n ≤ 1000000000) :
    Calls Try.prog 72 #[.string ⟨#[112, 97, 99, 107, 101, 116]⟩, .slice a n c] w fun e w' => e = .returned (.int .u64 ((sumP bs : Nat) : Int)) ∧ Below w.heap.size w w' := by
  subst hn
  have h := rbytes_any ⟨#[112, 97, 99, 107, 101, 116]⟩ a c bs w (by decide) hx hl
  rw [← sumP_eq]
  exact h

set_option maxRecDepth 100000 in
set_option maxHeartbeats 4000000 in
theorem rwhole_any (a : Option Addr) (c : Nat) (C : List UInt8) (w : World) (hx : SliceAt w a c (C.map byteV)) (hl : C.length ≤ 1000000) :
    Calls Try.prog 43 #[.slice a C.length c] w fun e w' => ∃ v, e = .returned v ∧ w'.ownsRow w.heap.size 5 1 v (wholeP C).length ((wholeP C).map byteV) ∧ Below w.heap.size w w' := by
  obtain ⟨W, hW⟩ : ∃ W, wholeP C = W := ⟨_, rfl⟩
  rw [hW]
  unfold wholeP at hW
  rw [List.nil_append] at hW
  have kr := fun W => fun (h : SliceAt W a c (C.map byteV)) => refRaw_any a c C W h (by omega)
  have kb := fun W => fun (h : SliceAt W a c (C.map byteV)) => rbytesP a c C.length C W h rfl (by omega)
  have ku := fun W => refUint_any (sumP C) W (sumP_lt C)
  have l1 := encR_len C hl
  have l2 := encU_len10 (sumP_lt C)
  obtain ⟨n, hn⟩ : ∃ n, C.length = n := ⟨_, rfl⟩
  rw [hn] at kr kb hl l1 ⊢
  obtain ⟨h, hh⟩ : ∃ h, sumP C = h := ⟨_, rfl⟩
  rw [hh] at kb ku l2 hW
  obtain ⟨A, hA⟩ : ∃ A, encR C = A := ⟨_, rfl⟩
  obtain ⟨B, hB⟩ : ∃ A, encU h = A := ⟨_, rfl⟩
  rw [hA] at kr hW l1
  rw [hB] at ku hW l2
  have KR := Lib.hid kr
  have KB := Lib.hid kb
  have KU := Lib.hid ku
  have HX := Lib.hid hx
  have HW := Lib.hid hW
  clear hn hh hA hB kr kb ku hx hW
  go_enter Try.func43, Try.ntmps43
  go_wp2_with fail
  refine (KR.out w HX.out).mono ?_
  rintro e w1 ⟨v, rfl, hown, hb⟩
  obtain ⟨ra, rc, rfl, -⟩ := own_slice hown
  have HO1 := Lib.hid hown
  have HB1 := Lib.hid hb
  clear hown hb KR
  go_wp2_with fail
  refine (KB.out w1 (HX.out.below HB1.out)).mono ?_
  rintro e w2 ⟨rfl, hb⟩
  have HO2 := Lib.hid (ownsRow_below HO1.out hb)
  have HB2 := Lib.hid (Below.step HB1.out hb)
  clear hb HO1 HB1 KB
  go_wp2_with fail
  refine (KU.out w2).mono ?_
  rintro e w3 ⟨v, rfl, hown, hb⟩
  obtain ⟨sa, sc, rfl, hsd⟩ := own_slice hown
  have HO3 := Lib.hid (ownsRow_below HO2.out hb)
  have HB3 := Lib.hid (Below.step HB2.out hb)
  have HSD := Lib.hid (show RowAt w3 sa B.length sc 1 (B.map byteV) from sliceRowB hsd)
  clear hown hb HO2 HB2 KU hsd
  go_wp2_with (at_builtin; refine wpList_append_src _ rfl (.tmp 6) (.tmp 9) 31 rfl elemB w.heap.size _ A.length _ rfl HO3.out sa B.length sc _ rfl HSD.out (byteV_one _) (by omega) (by omega) HB3.out.size ?_)
  intro v4 w4 hown4 hb4 _
  have ho4 := own_app hown4
  rw [HW.out] at ho4
  have HO4 := Lib.hid ho4
  have HB4 := Lib.hid (HB3.out.trans hb4)
  clear hown4 hb4 ho4
  go_wp2_with fail
  go_ret
  exact ⟨_, rfl, HO4.out, HB4.out⟩

set_option maxRecDepth 100000 in
set_option maxHeartbeats 4000000 in
theorem rcore_any (p : Pkt) (a : Option Addr) (c : Nat) (w : World) (h1 : -9223372036854775808 ≤ p.seq ∧ p.seq ≤ 9223372036854775807) (h2 : -9223372036854775808 ≤ p.ack ∧ p.ack ≤ 9223372036854775807) (hx : SliceAt w a c (p.b.map byteV)) (hl : p.b.length ≤ 1000000) :
    Calls Try.prog 69 #[.agg #[.int .i64 p.seq, .int .i64 p.ack, .slice a p.b.length c]] w fun e w' => ∃ v, e = .returned v ∧ w'.ownsRow w.heap.size 5 1 v (coreP p).length ((coreP p).map byteV) ∧ Below w.heap.size w w' := by
  obtain ⟨W, hW⟩ : ∃ W, coreP p = W := ⟨_, rfl⟩
  rw [hW]
  unfold coreP at hW
  rw [List.nil_append] at hW
  obtain ⟨q, k, b⟩ := p
  simp only at h1 h2 hx hl hW ⊢
  have kr := fun W => fun (h : SliceAt W a c (b.map byteV)) => refRaw_any a c b W h (by omega)
  have k1 := fun W => refInt_any q W h1.1 h1.2
  have k2 := fun W => refInt_any k W h2.1 h2.2
  have l1 := encI_len q h1.1 h1.2
  have l2 := encI_len k h2.1 h2.2
  have l3 := encR_len b hl
  obtain ⟨n, hn⟩ : ∃ n, b.length = n := ⟨_, rfl⟩
  rw [hn] at kr hl l3 ⊢
  obtain ⟨A, hA⟩ : ∃ A, encI q = A := ⟨_, rfl⟩
  obtain ⟨B, hB⟩ : ∃ A, encI k = A := ⟨_, rfl⟩
  obtain ⟨D, hD⟩ : ∃ A, encR b = A := ⟨_, rfl⟩
  rw [hA] at k1 hW l1
  rw [hB] at k2 hW l2
  rw [hD] at kr hW l3
  obtain ⟨w1, hw1⟩ : ∃ x, x = w.alloc (.cells #[.int .i64 q, .int .i64 k, .slice a n c] 40) := ⟨_, rfl⟩
  have hb1 : Blk w1 (fun _ => 0) 0 w.heap.size [.int .i64 q, .int .i64 k, .slice a n c] := by rw [hw1]; exact ⟨_, heap_alloc_new _ _, rfl⟩
  have hB1 : Below w.heap.size w w1 := by rw [hw1]; exact (Below.refl _ w).alloc (Nat.le_refl _) _
  have HX := Lib.hid (hx.below hB1)
  have KR := Lib.hid kr
  have K1 := Lib.hid k1
  have K2 := Lib.hid k2
  have HW := Lib.hid hW
  have HB1 := Lib.hid hB1
  have HX1 := Lib.hid hb1
  have HW1 := Lib.hid hw1
  have hle := hB1.size
  obtain ⟨gb, hgb⟩ : ∃ g, w.heap.size = g := ⟨_, rfl⟩
  rw [hgb] at HX1
  have x0 := HX1.out.cell (j := 0) rfl
  rw [hw1] at x0
  clear hn hA hB hD kr k1 k2 hx hW hb1 hB1 hw1
  go_enter Try.func69, Try.ntmps69
  go_wp2_with fail
  rw [← HW1.out]
  clear x0
  refine (K1.out w1).mono ?_
  rintro e w2 ⟨v, rfl, hown, hb⟩
  obtain ⟨ra, rc, rfl, -⟩ := own_slice hown
  have HO2 := Lib.hid hown
  have HB2 := Lib.hid hb
  clear hown hb K1
  have x1 := Below.kept HB2.out (Nat.le_refl _) (HX1.out.cell (j := 1) rfl)
  go_wp2_with fail
  refine (K2.out w2).mono ?_
  rintro e w3 ⟨v, rfl, hown, hb⟩
  obtain ⟨sa, sc, rfl, hsd⟩ := own_slice hown
  have HO3 := Lib.hid (ownsRow_below HO2.out hb)
  have HB3 := Lib.hid (Below.step HB2.out hb)
  have HSD := Lib.hid (show RowAt w3 sa B.length sc 1 (B.map byteV) from sliceRowB hsd)
  clear hown hb K2 HB2 HO2 hsd x1
  go_wp2_with (at_builtin; refine wpList_append_src _ rfl (.tmp 7) (.tmp 10) 31 rfl elemB w1.heap.size _ A.length _ rfl HO3.out sa B.length sc _ rfl HSD.out (byteV_one _) (by omega) (by omega) HB3.out.size ?_)
  intro v4 w4 hown4 hb4 _
  obtain ⟨AB, hAB⟩ : ∃ x, A ++ B = x := ⟨_, rfl⟩
  have lAB : AB.length ≤ 20 := by rw [← hAB, List.length_append]; omega
  have hW := HW.out
  have ho4 := own_app hown4
  rw [hAB] at ho4 hW
  obtain ⟨ta, tc, rfl, -⟩ := own_slice ho4
  have HO4 := Lib.hid ho4
  have HB4 := Lib.hid (HB3.out.trans hb4)
  have HW' := Lib.hid hW
  clear hown4 hb4 ho4 HO3 HB3 HSD hAB hW HW
  have x2 := Below.kept HB4.out (Nat.le_refl _) (HX1.out.cell (j := 2) rfl)
  go_wp2_with fail
  refine (KR.out w4 (HX.out.below HB4.out)).mono ?_
  rintro e w5 ⟨v, rfl, hown, hb⟩
  obtain ⟨ua, uc, rfl, hsd⟩ := own_slice hown
  have HO5 := Lib.hid (ownsRow_below HO4.out hb)
  have HB5 := Lib.hid (Below.step HB4.out hb)
  have HSD := Lib.hid (show RowAt w5 ua D.length uc 1 (D.map byteV) from sliceRowB hsd)
  clear hown hb KR HB4 HO4 hsd x2
  go_wp2_with (at_builtin; refine wpList_append_src _ rfl (.tmp 12) (.tmp 15) 31 rfl elemB w1.heap.size _ AB.length _ rfl HO5.out ua D.length uc _ rfl HSD.out (byteV_one _) (by omega) (by omega) HB5.out.size ?_)
  intro v6 w6 hown6 hb6 _
  have ho6 := own_app hown6
  rw [HW'.out] at ho6
  have HO6 := Lib.hid ho6
  have HB6 := Lib.hid (HB5.out.trans hb6)
  clear hown6 hb6 ho6
  go_wp2_with fail
  go_ret
  exact ⟨_, rfl, ownsRow_lower HO6.out hle, Below.step HB1.out HB6.out⟩

set_option maxRecDepth 100000 in
set_option maxHeartbeats 4000000 in
theorem rchenc_any (p : Pkt) (a : Option Addr) (c : Nat) (w : World) (h1 : -9223372036854775808 ≤ p.seq ∧ p.seq ≤ 9223372036854775807) (h2 : -9223372036854775808 ≤ p.ack ∧ p.ack ≤ 9223372036854775807) (hx : SliceAt w a c (p.b.map byteV)) (hl : p.b.length ≤ 900000) :
    Calls Try.prog 41 #[.agg #[.int .i64 p.seq, .int .i64 p.ack, .slice a p.b.length c]] w fun e w' => ∃ v, e = .returned (.tuple #[v, .int .i64 (errP (pvalid p))]) ∧ w'.ownsRow w.heap.size 5 1 v (codeP p).length ((codeP p).map byteV) ∧ Below w.heap.size w w' := by
  have kv := fun W => rvalidP p.seq p.ack a c p.b W (by omega)
  have kc := fun W (h : SliceAt W a c (p.b.map byteV)) => rcore_any p a c W h1 h2 h (by omega)
  have hlc := coreP_len p h1 h2 (by omega)
  have kw := fun ra rc W (h : SliceAt W ra rc ((coreP p).map byteV)) => rwhole_any ra rc (coreP p) W h (by omega)
  obtain ⟨X, hX⟩ : ∃ C, codeP p = C := ⟨_, rfl⟩
  rw [hX]
  unfold codeP at hX
  obtain ⟨C, hC⟩ : ∃ C, coreP p = C := ⟨_, rfl⟩
  rw [hC] at hX kc kw hlc
  obtain ⟨q, k, b⟩ := p
  simp only at kv kc h1 h2 hx hl
  obtain ⟨ok, hokk⟩ : ∃ x, pvalid ⟨q, k, b⟩ = x := ⟨_, rfl⟩
  rw [hokk] at hX ⊢
  simp only [hokk] at kv
  obtain ⟨n, hn⟩ : ∃ n, b.length = n := ⟨_, rfl⟩
  simp only [hn] at kv kc hl hlc ⊢
  obtain ⟨w1, hw1⟩ : ∃ x, x = w.alloc (.cells #[.int .i64 q, .int .i64 k, .slice a n c] 40) := ⟨_, rfl⟩
  have hb1 : Blk w1 (fun _ => 0) 0 w.heap.size [.int .i64 q, .int .i64 k, .slice a n c] := by rw [hw1]; exact ⟨_, heap_alloc_new _ _, rfl⟩
  have hB1 : Below w.heap.size w w1 := by rw [hw1]; exact (Below.refl _ w).alloc (Nat.le_refl _) _
  have HP1 := Lib.hid (hx.below hB1)
  have HC := Lib.hid hX
  have KV := Lib.hid kv
  have KC := Lib.hid kc
  have KW := Lib.hid kw
  have HW1 := Lib.hid hw1
  have HB1 := Lib.hid hB1
  have HX1 := Lib.hid hb1
  obtain ⟨gb, hgb⟩ : ∃ g, w.heap.size = g := ⟨_, rfl⟩
  rw [hgb] at HX1
  have x0 := HX1.out.cell (j := 0) rfl
  have x1 := HX1.out.cell (j := 1) rfl
  have x2 := HX1.out.cell (j := 2) rfl
  rw [hw1] at x0 x1 x2
  clear hX kv hw1 hB1 hb1 hokk hx hn kc kw hC
  go_enter Try.func41, Try.ntmps41
  go_wp2_with fail
  rw [← HW1.out]
  clear x0 x1 x2
  refine (KV.out w1).mono ?_
  rintro e w2 ⟨rfl, hb2⟩
  have HX2 := Lib.hid (HX1.out.step (Step.same (L := fun _ => False) hb2) fun h => h)
  have HP2 := Lib.hid (HP1.out.below hb2)
  have HB2 := Lib.hid (Below.step HB1.out hb2)
  clear hb2 HX1 HB1 HW1 KV HP1
  cases ok with
  | false =>
    have hC := HC.out
    rw [if_neg (by decide)] at hC
    subst hC
    go_wp2_with fail
    go_ret2
    rw [← hgb]
    exact ⟨_, rfl, World.ownsRow_nil _ _ _ _, HB2.out⟩
  | true =>
    have hC := HC.out
    rw [if_pos rfl] at hC
    have HC2 := Lib.hid hC
    have x0 := HX2.out.cell (j := 0) rfl
    have x1 := HX2.out.cell (j := 1) rfl
    have x2 := HX2.out.cell (j := 2) rfl
    clear hC HC
    go_wp2_with fail
    refine (KC.out w2 HP2.out).mono ?_
    rintro e w3 ⟨v, rfl, hown, hb⟩
    obtain ⟨ra, rc, rfl, hr⟩ := own_slice hown
    have HB3 := Lib.hid (Below.step HB2.out hb)
    have HR := Lib.hid hr
    clear hown hb hr HB2 HX2 HP2 KC x0 x1 x2
    go_wp2_with fail
    refine (KW.out ra rc w3 HR.out).mono ?_
    rintro e w4 ⟨v, rfl, hown, hb⟩
    rw [HC2.out] at hown
    have hle := HB3.out.size
    have HO := Lib.hid (ownsRow_lower hown hle)
    have HB4 := Lib.hid (Below.step HB3.out hb)
    clear hown hb
    go_wp2_with fail
    go_ret2
    rw [← hgb]
    refine ⟨v, rfl, ?_, HB4.out⟩
    exact HO.out

set_option maxRecDepth 100000 in
theorem plainP_any (q k : Int) (a : Option Addr) (n c : Nat) (w : World) :
    Calls Try.prog 42 #[.agg #[.int .i64 q, .int .i64 k, .slice a n c]] w fun e w' => e = .returned (.agg #[.int .i64 q, .int .i64 k, .slice a n c]) ∧ Below w.heap.size w w' := by
  go_enter Try.func42, Try.ntmps42
  go_wp2
  have hz := heap_alloc_new (w.alloc (.cells #[.int .i64 q, .int .i64 k, .slice a n c] 44)) (.cells #[.int .i64 q, .int .i64 k, .slice a n c] 40)
  rw [World.size_alloc] at hz
  exact bodyPost_ret (v := .agg #[.int .i64 q, .int .i64 k, .slice a n c]) (results_cell_row rfl _ _ _ 40 _ _ _ rfl hz rfl rfl rfl) rfl ⟨rfl, ((Below.refl _ w).alloc (Nat.le_refl _) _).alloc (by rw [World.size_alloc]; omega) _⟩

set_option maxRecDepth 100000 in
set_option maxHeartbeats 2000000 in
theorem sameP_any (q k q' k' : Int) (m m' : List UInt8) (a a' : Option Addr) (c c' : Nat) (w : World) (hx : SliceAt w a c (m.map byteV)) (hy : SliceAt w a' c' (m'.map byteV)) :
    Calls Try.prog 46 #[.agg #[.int .i64 q, .int .i64 k, .slice a m.length c], .agg #[.int .i64 q', .int .i64 k', .slice a' m'.length c']] w fun e w' => e = .returned (.bool (decide (q = q') && (decide (k = k') && decide (m = m')))) ∧ Below w.heap.size w w' := by
  have hB : Below w.heap.size w ((w.alloc (.cells #[.int .i64 q, .int .i64 k, .slice a m.length c] 40)).alloc (.cells #[.int .i64 q', .int .i64 k', .slice a' m'.length c'] 40)) := ((Below.refl _ w).alloc (Nat.le_refl _) _).alloc (by rw [World.size_alloc]; omega) _
  have HB := Lib.hid hB
  have HX := Lib.hid (hx.below hB)
  have HY := Lib.hid (hy.below hB)
  have ks := fun W h1 h2 => sameBytes_any a a' c c' m m' W h1 h2
  obtain ⟨D, hD⟩ : ∃ D, decide (m = m') = D := ⟨_, rfl⟩
  obtain ⟨n, hn⟩ : ∃ n, m.length = n := ⟨_, rfl⟩
  obtain ⟨n', hn'⟩ : ∃ n, m'.length = n := ⟨_, rfl⟩
  rw [hD] at ks ⊢
  rw [hn, hn'] at ks ⊢
  rw [hn, hn'] at HB HX HY
  have KS := Lib.hid ks
  clear hx hy hB hD hn hn' ks
  by_cases h1 : q = q'
  · subst h1
    by_cases h2 : k = k'
    · subst h2
      rw [decide_eq_true rfl, decide_eq_true rfl, Bool.true_and, Bool.true_and]
      go_enter Try.func46, Try.ntmps46
      go_wp2_with fail
      refine (KS.out _ HX.out HY.out).mono ?_
      rintro e w1 ⟨rfl, hb⟩
      go_wp2_with fail
      go_ret
      exact ⟨rfl, Below.step HB.out hb⟩
    · have e1 : (k == k') = false := beq_eq_false_iff_ne.2 h2
      rw [decide_eq_false h2, Bool.false_and, Bool.and_false]
      go_enter Try.func46, Try.ntmps46
      go_wp2_with fail
      go_ret
      exact ⟨rfl, HB.out⟩
  · have e1 : (q == q') = false := beq_eq_false_iff_ne.2 h1
    rw [decide_eq_false h1, Bool.false_and]
    go_enter Try.func46, Try.ntmps46
    go_wp2_with fail
    go_ret
    exact ⟨rfl, HB.out⟩
end Go.Proofs.Ytmonpnikdheokaa
