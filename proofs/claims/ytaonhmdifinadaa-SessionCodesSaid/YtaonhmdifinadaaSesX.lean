/-
  The reference's codes of requests and answers: EncodeRequest, EncodeAnswer.
-/
import Derived.Test.YtaonhmdifinadaaSesV
import Derived.Test.YtaonhmdifinadaaSesR
import Derived.Test.YtaonhmdifinadaaRefW
namespace Go.Proofs.Ytaonhmdifinadaa
open Go Go.Proofs
open Go.RowKit
set_option linter.unusedVariables false
set_option linter.unusedSimpArgs false

set_option maxHeartbeats 1000000 in
theorem raok_any (a : An) (w : World) (ht : a.txt.size ≤ 9223372036854775807) :
    Calls Try.prog 86 #[.agg #[.int .i64 a.id, .int .i64 a.err, .int .i64 a.ver, .string a.txt]] w fun e w' => e = .returned (.bool (okA a)) ∧ Below w.heap.size w w' := by
  obtain ⟨x, hx⟩ : ∃ x, okA a = x := ⟨_, rfl⟩
  rw [hx]
  unfold okA at hx
  obtain ⟨id, err, ver, txt⟩ := a
  simp only at hx ht
  have HX := Lib.hid hx
  clear hx
  have hb := (Below.refl _ w).alloc (Nat.le_refl _) (.cells #[.int .i64 id, .int .i64 err, .int .i64 ver, .string txt] 84)
  go_enter Try.func86, Try.ntmps86
  go_wp2_with (go_at_call 107; refine (most_any _ _).mono ?_; rintro e w1 ⟨rfl, rfl⟩)
  all_goals
    go_ret
    refine ⟨ret_bool ?_, hb⟩
    rw [← HX.out, Bool.eq_iff_iff]
    simp
    omega
theorem own_slice {w : World} {base : Nat} {v : Value} {l : List UInt8} (h : w.ownsRow base 5 1 v l.length (l.map byteV)) : ∃ a c, v = .slice a l.length c ∧ SliceAt w a c (l.map byteV) := ownsRow_sliceMap h

set_option maxRecDepth 100000 in
set_option maxHeartbeats 4000000 in
theorem renq_any (r : Rq) (w : World) (hd : r.doc.size ≤ 9223372036854775807) (ht : r.txt.size ≤ 9223372036854775807) :
    Calls Try.prog 42 #[.agg #[.int .i64 r.id, .int .i64 r.kind, .string r.doc, .int .i64 r.ver, .int .i64 r.off, .string r.txt]] w fun e w' => ∃ v, e = .returned (.tuple #[v, .int .i64 (errOf (okR r))]) ∧ w'.ownsRow w.heap.size 5 1 v (codeRq r).length ((codeRq r).map byteV) ∧ Below w.heap.size w w' := by
  have kv := fun W => rok_any r W hd ht
  have hok := okR_iff (r := r)
  obtain ⟨C, hC⟩ : ∃ C, codeRq r = C := ⟨_, rfl⟩
  rw [hC]
  unfold codeRq at hC
  obtain ⟨ok, hokk⟩ : ∃ x, okR r = x := ⟨_, rfl⟩
  rw [hokk] at hC hok ⊢
  simp only [hokk] at kv
  obtain ⟨ri, rk, rd, rv, ro, rt⟩ := r
  simp only at kv hok
  obtain ⟨w1, hw1⟩ : ∃ x, x = w.alloc (.cells #[.int .i64 ri, .int .i64 rk, .string rd, .int .i64 rv, .int .i64 ro, .string rt] 60) := ⟨_, rfl⟩
  have hb1 : Blk w1 (fun _ => 0) 0 w.heap.size [.int .i64 ri, .int .i64 rk, .string rd, .int .i64 rv, .int .i64 ro, .string rt] := by rw [hw1]; exact ⟨_, heap_alloc_new _ _, rfl⟩
  have hB1 : Below w.heap.size w w1 := by rw [hw1]; exact (Below.refl _ w).alloc (Nat.le_refl _) _
  have HC := Lib.hid hC
  have HOK := Lib.hid hok
  have KV := Lib.hid kv
  have HW1 := Lib.hid hw1
  have HB1 := Lib.hid hB1
  have HX1 := Lib.hid hb1
  obtain ⟨gb, hgb⟩ : ∃ g, w.heap.size = g := ⟨_, rfl⟩
  rw [hgb] at HX1
  clear hC hok kv hw1 hB1 hb1 hokk
  go_enter Try.func42, Try.ntmps42
  go_wp2_with fail
  rw [← HW1.out]
  refine (KV.out w1).mono ?_
  rintro e w2 ⟨rfl, hb2⟩
  have HX2 := Lib.hid (HX1.out.step (Step.same (L := fun _ => False) hb2) fun h => h)
  have HB2 := Lib.hid (Below.step HB1.out hb2)
  clear hb2 HX1 HB1 HW1 KV
  cases ok with
  | false =>
    have hC := HC.out
    rw [if_neg (by decide)] at hC
    subst hC
    go_wp2_with fail
    go_ret2
    rw [← hgb]
    exact ⟨_, rfl, World.ownsRow_nil _ _ _ _, HB2.out⟩
  | true =>
    have hC := HC.out
    rw [if_pos rfl] at hC
    have HC2 := Lib.hid hC
    have ho := HOK.out.1 rfl
    clear hC HC HOK
    have HBb2 : Hid (Below w2.heap.size w2 w2) := Below.refl _ _
    have HO2 : Hid (w2.ownsRow w2.heap.size 5 1 (.slice none 0 0) 0 (([] : List UInt8).map byteV)) := World.ownsRow_nil _ _ _ _
    obtain ⟨a2, ha2⟩ : ∃ x : List UInt8, [] = x := ⟨_, rfl⟩
    have HA2 := Lib.hid ha2
    clear ha2
    have x0 := Below.kept HBb2.out (Nat.le_refl _) (HX2.out.cell (j := 0) rfl)
    go_wp2_with fail
    refine (refInt_any ri w2 (by omega) (by omega)).mono ?_
    rintro e w3 ⟨vd0, rfl, hod0, hbd0⟩
    obtain ⟨a3, ha3⟩ : ∃ x : List UInt8, encI ri = x := ⟨_, rfl⟩
    rw [ha3] at hod0
    have hl3 : a3.length ≤ 10 := by rw [← ha3]; exact encI_len ri (by omega) (by omega)
    obtain ⟨ar3, cr3, rfl, -⟩ := own_slice hod0
    have HO3 := Lib.hid hod0
    have HBb3 := Lib.hid (Below.step HBb2.out hbd0)
    have HA3 : Hid (a2 ++ encI ri = a3) := by unfold Hid; rw [← HA2.out, List.nil_append]; exact ha3
    clear hod0 hbd0 ha3 HBb2 HO2 x0
    have x1 := Below.kept HBb3.out (Nat.le_refl _) (HX2.out.cell (j := 1) rfl)
    go_wp2_with fail
    refine (refInt_any rk w3 (by omega) (by omega)).mono ?_
    rintro e wd1 ⟨vd1, rfl, hod1, hbd1⟩
    obtain ⟨ds1, hds1⟩ : ∃ x : List UInt8, encI rk = x := ⟨_, rfl⟩
    rw [hds1] at hod1
    obtain ⟨aq1, cq1, rfl, hsd1⟩ := own_slice hod1
    have HBd1 := Lib.hid (Below.step HBb3.out hbd1)
    have hdl1 : ds1.length ≤ 10 := by rw [← hds1]; exact encI_len rk (by omega) (by omega)
    have HOd1 := Lib.hid (ownsRow_below HO3.out hbd1)
    obtain ⟨a4, ha4⟩ : ∃ x : List UInt8, a3 ++ ds1 = x := ⟨_, rfl⟩
    have hl4 : a4.length ≤ 20 := by rw [← ha4, List.length_append]; omega
    have HA4 : Hid (a3 ++ encI rk = a4) := by unfold Hid; rw [hds1]; exact ha4
    have HAA4 := Lib.hid ha4
    have HSD1 := Lib.hid (show RowAt wd1 aq1 ds1.length cq1 1 (ds1.map byteV) from sliceRowB hsd1)
    clear hds1 ha4 hod1 hbd1 hsd1 HBb3 HO3 x1
    go_wp2_with (at_builtin; refine wpList_append_src _ rfl (.tmp 13) (.tmp 16) 78 rfl elemB w2.heap.size _ a3.length _ rfl HOd1.out aq1 ds1.length cq1 _ rfl HSD1.out (byteV_one _) (by omega) (by omega) HBd1.out.size ?_)
    intro v4 w4 hown4 hb4 _
    have HBb4 := Lib.hid (HBd1.out.trans hb4)
    have ho4 := own_app hown4
    rw [HAA4.out] at ho4
    obtain ⟨ar4, cr4, rfl, -⟩ := own_slice ho4
    have HO4 := Lib.hid ho4
    clear hown4 hb4 HBd1 HOd1 HSD1 ho4 hdl1
    have x2 := Below.kept HBb4.out (Nat.le_refl _) (HX2.out.cell (j := 2) rfl)
    go_wp2_with (with_reducible refine wpList_bytes_of _ rfl _ rfl Try.underlying9 Try.underlying78 Try.underlying5 rd rfl (by omega) ?_; intro ad2 cc2 wc2 hsl2 hbc2)
    obtain ⟨L2, hL2⟩ : ∃ L : List UInt8, rd.data.toList = L := ⟨_, rfl⟩
    have hLs2 : rd.size = L2.length := by rw [← hL2, size_list]
    rw [hL2] at hsl2
    rw [hLs2]
    have HBc2 := Lib.hid (Below.step HBb4.out hbc2)
    have HOc2 := Lib.hid (ownsRow_below HO4.out hbc2)
    have HLL2 := Lib.hid hL2
    have HSL2 := Lib.hid hsl2
    have hLb2 : L2.length ≤ 16 := by rw [← hLs2]; omega
    clear hbc2 hL2 hsl2 x2 hLs2 HO4 HBb4
    go_wp2_with fail
    refine (refRaw_any ad2 cc2 L2 wc2 HSL2.out (by omega)).mono ?_
    rintro e wd2 ⟨vd2, rfl, hod2, hbd2⟩
    obtain ⟨ds2, hds2⟩ : ∃ x : List UInt8, encR L2 = x := ⟨_, rfl⟩
    rw [hds2] at hod2
    obtain ⟨aq2, cq2, rfl, hsd2⟩ := own_slice hod2
    have HBd2 := Lib.hid (Below.step HBc2.out hbd2)
    have hdl2 : ds2.length ≤ 26 := by rw [← hds2]; have := encR_len L2 (by omega); omega
    have HOd2 := Lib.hid (ownsRow_below HOc2.out hbd2)
    obtain ⟨a5, ha5⟩ : ∃ x : List UInt8, a4 ++ ds2 = x := ⟨_, rfl⟩
    have hl5 : a5.length ≤ 46 := by rw [← ha5, List.length_append]; omega
    have HA5 : Hid (a4 ++ encR L2 = a5) := by unfold Hid; rw [hds2]; exact ha5
    have HAA5 := Lib.hid ha5
    have HSD2 := Lib.hid (show RowAt wd2 aq2 ds2.length cq2 1 (ds2.map byteV) from sliceRowB hsd2)
    clear hds2 ha5 hod2 hbd2 hsd2 HBc2 HOc2 
    go_wp2_with (at_builtin; refine wpList_append_src _ rfl (.tmp 18) (.tmp 22) 78 rfl elemB w2.heap.size _ a4.length _ rfl HOd2.out aq2 ds2.length cq2 _ rfl HSD2.out (byteV_one _) (by omega) (by omega) HBd2.out.size ?_)
    intro v5 w5 hown5 hb5 _
    have HBb5 := Lib.hid (HBd2.out.trans hb5)
    have ho5 := own_app hown5
    rw [HAA5.out] at ho5
    obtain ⟨ar5, cr5, rfl, -⟩ := own_slice ho5
    have HO5 := Lib.hid ho5
    clear hown5 hb5 HBd2 HOd2 HSD2 ho5 hdl2
    have x3 := Below.kept HBb5.out (Nat.le_refl _) (HX2.out.cell (j := 3) rfl)
    go_wp2_with fail
    refine (refInt_any rv w5 (by omega) (by omega)).mono ?_
    rintro e wd3 ⟨vd3, rfl, hod3, hbd3⟩
    obtain ⟨ds3, hds3⟩ : ∃ x : List UInt8, encI rv = x := ⟨_, rfl⟩
    rw [hds3] at hod3
    obtain ⟨aq3, cq3, rfl, hsd3⟩ := own_slice hod3
    have HBd3 := Lib.hid (Below.step HBb5.out hbd3)
    have hdl3 : ds3.length ≤ 10 := by rw [← hds3]; exact encI_len rv (by omega) (by omega)
    have HOd3 := Lib.hid (ownsRow_below HO5.out hbd3)
    obtain ⟨a6, ha6⟩ : ∃ x : List UInt8, a5 ++ ds3 = x := ⟨_, rfl⟩
    have hl6 : a6.length ≤ 56 := by rw [← ha6, List.length_append]; omega
    have HA6 : Hid (a5 ++ encI rv = a6) := by unfold Hid; rw [hds3]; exact ha6
    have HAA6 := Lib.hid ha6
    have HSD3 := Lib.hid (show RowAt wd3 aq3 ds3.length cq3 1 (ds3.map byteV) from sliceRowB hsd3)
    clear hds3 ha6 hod3 hbd3 hsd3 HBb5 HO5 x3
    go_wp2_with (at_builtin; refine wpList_append_src _ rfl (.tmp 24) (.tmp 27) 78 rfl elemB w2.heap.size _ a5.length _ rfl HOd3.out aq3 ds3.length cq3 _ rfl HSD3.out (byteV_one _) (by omega) (by omega) HBd3.out.size ?_)
    intro v6 w6 hown6 hb6 _
    have HBb6 := Lib.hid (HBd3.out.trans hb6)
    have ho6 := own_app hown6
    rw [HAA6.out] at ho6
    obtain ⟨ar6, cr6, rfl, -⟩ := own_slice ho6
    have HO6 := Lib.hid ho6
    clear hown6 hb6 HBd3 HOd3 HSD3 ho6 hdl3
    have x4 := Below.kept HBb6.out (Nat.le_refl _) (HX2.out.cell (j := 4) rfl)
    go_wp2_with fail
    refine (refInt_any ro w6 (by omega) (by omega)).mono ?_
    rintro e wd4 ⟨vd4, rfl, hod4, hbd4⟩
    obtain ⟨ds4, hds4⟩ : ∃ x : List UInt8, encI ro = x := ⟨_, rfl⟩
    rw [hds4] at hod4
    obtain ⟨aq4, cq4, rfl, hsd4⟩ := own_slice hod4
    have HBd4 := Lib.hid (Below.step HBb6.out hbd4)
    have hdl4 : ds4.length ≤ 10 := by rw [← hds4]; exact encI_len ro (by omega) (by omega)
    have HOd4 := Lib.hid (ownsRow_below HO6.out hbd4)
    obtain ⟨a7, ha7⟩ : ∃ x : List UInt8, a6 ++ ds4 = x := ⟨_, rfl⟩
    have hl7 : a7.length ≤ 66 := by rw [← ha7, List.length_append]; omega
    have HA7 : Hid (a6 ++ encI ro = a7) := by unfold Hid; rw [hds4]; exact ha7
    have HAA7 := Lib.hid ha7
    have HSD4 := Lib.hid (show RowAt wd4 aq4 ds4.length cq4 1 (ds4.map byteV) from sliceRowB hsd4)
    clear hds4 ha7 hod4 hbd4 hsd4 HBb6 HO6 x4
    go_wp2_with (at_builtin; refine wpList_append_src _ rfl (.tmp 29) (.tmp 32) 78 rfl elemB w2.heap.size _ a6.length _ rfl HOd4.out aq4 ds4.length cq4 _ rfl HSD4.out (byteV_one _) (by omega) (by omega) HBd4.out.size ?_)
    intro v7 w7 hown7 hb7 _
    have HBb7 := Lib.hid (HBd4.out.trans hb7)
    have ho7 := own_app hown7
    rw [HAA7.out] at ho7
    obtain ⟨ar7, cr7, rfl, -⟩ := own_slice ho7
    have HO7 := Lib.hid ho7
    clear hown7 hb7 HBd4 HOd4 HSD4 ho7 hdl4
    have x5 := Below.kept HBb7.out (Nat.le_refl _) (HX2.out.cell (j := 5) rfl)
    go_wp2_with (with_reducible refine wpList_bytes_of _ rfl _ rfl Try.underlying9 Try.underlying78 Try.underlying5 rt rfl (by omega) ?_; intro ad5 cc5 wc5 hsl5 hbc5)
    obtain ⟨L5, hL5⟩ : ∃ L : List UInt8, rt.data.toList = L := ⟨_, rfl⟩
    have hLs5 : rt.size = L5.length := by rw [← hL5, size_list]
    rw [hL5] at hsl5
    rw [hLs5]
    have HBc5 := Lib.hid (Below.step HBb7.out hbc5)
    have HOc5 := Lib.hid (ownsRow_below HO7.out hbc5)
    have HLL5 := Lib.hid hL5
    have HSL5 := Lib.hid hsl5
    have hLb5 : L5.length ≤ 4096 := by rw [← hLs5]; omega
    clear hbc5 hL5 hsl5 x5 hLs5 HO7 HBb7
    go_wp2_with fail
    refine (refRaw_any ad5 cc5 L5 wc5 HSL5.out (by omega)).mono ?_
    rintro e wd5 ⟨vd5, rfl, hod5, hbd5⟩
    obtain ⟨ds5, hds5⟩ : ∃ x : List UInt8, encR L5 = x := ⟨_, rfl⟩
    rw [hds5] at hod5
    obtain ⟨aq5, cq5, rfl, hsd5⟩ := own_slice hod5
    have HBd5 := Lib.hid (Below.step HBc5.out hbd5)
    have hdl5 : ds5.length ≤ 4106 := by rw [← hds5]; have := encR_len L5 (by omega); omega
    have HOd5 := Lib.hid (ownsRow_below HOc5.out hbd5)
    obtain ⟨a8, ha8⟩ : ∃ x : List UInt8, a7 ++ ds5 = x := ⟨_, rfl⟩
    have hl8 : a8.length ≤ 4172 := by rw [← ha8, List.length_append]; omega
    have HA8 : Hid (a7 ++ encR L5 = a8) := by unfold Hid; rw [hds5]; exact ha8
    have HAA8 := Lib.hid ha8
    have HSD5 := Lib.hid (show RowAt wd5 aq5 ds5.length cq5 1 (ds5.map byteV) from sliceRowB hsd5)
    clear hds5 ha8 hod5 hbd5 hsd5 HBc5 HOc5 
    go_wp2_with (at_builtin; refine wpList_append_src _ rfl (.tmp 34) (.tmp 38) 78 rfl elemB w2.heap.size _ a7.length _ rfl HOd5.out aq5 ds5.length cq5 _ rfl HSD5.out (byteV_one _) (by omega) (by omega) HBd5.out.size ?_)
    intro v8 w8 hown8 hb8 _
    have HBb8 := Lib.hid (HBd5.out.trans hb8)
    have ho8 := own_app hown8
    rw [HAA8.out] at ho8
    obtain ⟨ar8, cr8, rfl, -⟩ := own_slice ho8
    have HO8 := Lib.hid ho8
    clear hown8 hb8 HBd5 HOd5 HSD5 ho8 hdl5
    go_wp2_with fail
    go_ret2
    have hC : C = a8 := by
      rw [← HC2.out]
      unfold encRq
      simp only
      rw [HLL2.out, HLL5.out, HA2.out, HA3.out, HA4.out, HA5.out, HA6.out, HA7.out, HA8.out]
    have hle : w.heap.size ≤ w2.heap.size := HB2.out.size
    rw [hC]
    exact ⟨_, rfl, ownsRow_lower HO8.out hle, HB2.out.trans (HBb8.out.mono hle)⟩

set_option maxRecDepth 100000 in
set_option maxHeartbeats 4000000 in
theorem rena_any (r : An) (w : World) (ht : r.txt.size ≤ 9223372036854775807) :
    Calls Try.prog 43 #[.agg #[.int .i64 r.id, .int .i64 r.err, .int .i64 r.ver, .string r.txt]] w fun e w' => ∃ v, e = .returned (.tuple #[v, .int .i64 (errOf (okA r))]) ∧ w'.ownsRow w.heap.size 5 1 v (codeAn r).length ((codeAn r).map byteV) ∧ Below w.heap.size w w' := by
  have kv := fun W => raok_any r W ht
  have hok := okA_iff (a := r)
  obtain ⟨C, hC⟩ : ∃ C, codeAn r = C := ⟨_, rfl⟩
  rw [hC]
  unfold codeAn at hC
  obtain ⟨ok, hokk⟩ : ∃ x, okA r = x := ⟨_, rfl⟩
  rw [hokk] at hC hok ⊢
  simp only [hokk] at kv
  obtain ⟨ri, re, rv, rt⟩ := r
  simp only at kv hok
  obtain ⟨w1, hw1⟩ : ∃ x, x = w.alloc (.cells #[.int .i64 ri, .int .i64 re, .int .i64 rv, .string rt] 84) := ⟨_, rfl⟩
  have hb1 : Blk w1 (fun _ => 0) 0 w.heap.size [.int .i64 ri, .int .i64 re, .int .i64 rv, .string rt] := by rw [hw1]; exact ⟨_, heap_alloc_new _ _, rfl⟩
  have hB1 : Below w.heap.size w w1 := by rw [hw1]; exact (Below.refl _ w).alloc (Nat.le_refl _) _
  have HC := Lib.hid hC
  have HOK := Lib.hid hok
  have KV := Lib.hid kv
  have HW1 := Lib.hid hw1
  have HB1 := Lib.hid hB1
  have HX1 := Lib.hid hb1
  obtain ⟨gb, hgb⟩ : ∃ g, w.heap.size = g := ⟨_, rfl⟩
  rw [hgb] at HX1
  clear hC hok kv hw1 hB1 hb1 hokk
  go_enter Try.func43, Try.ntmps43
  go_wp2_with fail
  rw [← HW1.out]
  refine (KV.out w1).mono ?_
  rintro e w2 ⟨rfl, hb2⟩
  have HX2 := Lib.hid (HX1.out.step (Step.same (L := fun _ => False) hb2) fun h => h)
  have HB2 := Lib.hid (Below.step HB1.out hb2)
  clear hb2 HX1 HB1 HW1 KV
  cases ok with
  | false =>
    have hC := HC.out
    rw [if_neg (by decide)] at hC
    subst hC
    go_wp2_with fail
    go_ret2
    rw [← hgb]
    exact ⟨_, rfl, World.ownsRow_nil _ _ _ _, HB2.out⟩
  | true =>
    have hC := HC.out
    rw [if_pos rfl] at hC
    have HC2 := Lib.hid hC
    have ho := HOK.out.1 rfl
    clear hC HC HOK
    have HBb2 : Hid (Below w2.heap.size w2 w2) := Below.refl _ _
    have HO2 : Hid (w2.ownsRow w2.heap.size 5 1 (.slice none 0 0) 0 (([] : List UInt8).map byteV)) := World.ownsRow_nil _ _ _ _
    obtain ⟨a2, ha2⟩ : ∃ x : List UInt8, [] = x := ⟨_, rfl⟩
    have HA2 := Lib.hid ha2
    clear ha2
    have x0 := Below.kept HBb2.out (Nat.le_refl _) (HX2.out.cell (j := 0) rfl)
    go_wp2_with fail
    refine (refInt_any ri w2 (by omega) (by omega)).mono ?_
    rintro e w3 ⟨vd0, rfl, hod0, hbd0⟩
    obtain ⟨a3, ha3⟩ : ∃ x : List UInt8, encI ri = x := ⟨_, rfl⟩
    rw [ha3] at hod0
    have hl3 : a3.length ≤ 10 := by rw [← ha3]; exact encI_len ri (by omega) (by omega)
    obtain ⟨ar3, cr3, rfl, -⟩ := own_slice hod0
    have HO3 := Lib.hid hod0
    have HBb3 := Lib.hid (Below.step HBb2.out hbd0)
    have HA3 : Hid (a2 ++ encI ri = a3) := by unfold Hid; rw [← HA2.out, List.nil_append]; exact ha3
    clear hod0 hbd0 ha3 HBb2 HO2 x0
    have x1 := Below.kept HBb3.out (Nat.le_refl _) (HX2.out.cell (j := 1) rfl)
    go_wp2_with fail
    refine (refInt_any re w3 (by omega) (by omega)).mono ?_
    rintro e wd1 ⟨vd1, rfl, hod1, hbd1⟩
    obtain ⟨ds1, hds1⟩ : ∃ x : List UInt8, encI re = x := ⟨_, rfl⟩
    rw [hds1] at hod1
    obtain ⟨aq1, cq1, rfl, hsd1⟩ := own_slice hod1
    have HBd1 := Lib.hid (Below.step HBb3.out hbd1)
    have hdl1 : ds1.length ≤ 10 := by rw [← hds1]; exact encI_len re (by omega) (by omega)
    have HOd1 := Lib.hid (ownsRow_below HO3.out hbd1)
    obtain ⟨a4, ha4⟩ : ∃ x : List UInt8, a3 ++ ds1 = x := ⟨_, rfl⟩
    have hl4 : a4.length ≤ 20 := by rw [← ha4, List.length_append]; omega
    have HA4 : Hid (a3 ++ encI re = a4) := by unfold Hid; rw [hds1]; exact ha4
    have HAA4 := Lib.hid ha4
    have HSD1 := Lib.hid (show RowAt wd1 aq1 ds1.length cq1 1 (ds1.map byteV) from sliceRowB hsd1)
    clear hds1 ha4 hod1 hbd1 hsd1 HBb3 HO3 x1
    go_wp2_with (at_builtin; refine wpList_append_src _ rfl (.tmp 13) (.tmp 16) 78 rfl elemB w2.heap.size _ a3.length _ rfl HOd1.out aq1 ds1.length cq1 _ rfl HSD1.out (byteV_one _) (by omega) (by omega) HBd1.out.size ?_)
    intro v4 w4 hown4 hb4 _
    have HBb4 := Lib.hid (HBd1.out.trans hb4)
    have ho4 := own_app hown4
    rw [HAA4.out] at ho4
    obtain ⟨ar4, cr4, rfl, -⟩ := own_slice ho4
    have HO4 := Lib.hid ho4
    clear hown4 hb4 HBd1 HOd1 HSD1 ho4 hdl1
    have x2 := Below.kept HBb4.out (Nat.le_refl _) (HX2.out.cell (j := 2) rfl)
    go_wp2_with fail
    refine (refInt_any rv w4 (by omega) (by omega)).mono ?_
    rintro e wd2 ⟨vd2, rfl, hod2, hbd2⟩
    obtain ⟨ds2, hds2⟩ : ∃ x : List UInt8, encI rv = x := ⟨_, rfl⟩
    rw [hds2] at hod2
    obtain ⟨aq2, cq2, rfl, hsd2⟩ := own_slice hod2
    have HBd2 := Lib.hid (Below.step HBb4.out hbd2)
    have hdl2 : ds2.length ≤ 10 := by rw [← hds2]; exact encI_len rv (by omega) (by omega)
    have HOd2 := Lib.hid (ownsRow_below HO4.out hbd2)
    obtain ⟨a5, ha5⟩ : ∃ x : List UInt8, a4 ++ ds2 = x := ⟨_, rfl⟩
    have hl5 : a5.length ≤ 30 := by rw [← ha5, List.length_append]; omega
    have HA5 : Hid (a4 ++ encI rv = a5) := by unfold Hid; rw [hds2]; exact ha5
    have HAA5 := Lib.hid ha5
    have HSD2 := Lib.hid (show RowAt wd2 aq2 ds2.length cq2 1 (ds2.map byteV) from sliceRowB hsd2)
    clear hds2 ha5 hod2 hbd2 hsd2 HBb4 HO4 x2
    go_wp2_with (at_builtin; refine wpList_append_src _ rfl (.tmp 18) (.tmp 21) 78 rfl elemB w2.heap.size _ a4.length _ rfl HOd2.out aq2 ds2.length cq2 _ rfl HSD2.out (byteV_one _) (by omega) (by omega) HBd2.out.size ?_)
    intro v5 w5 hown5 hb5 _
    have HBb5 := Lib.hid (HBd2.out.trans hb5)
    have ho5 := own_app hown5
    rw [HAA5.out] at ho5
    obtain ⟨ar5, cr5, rfl, -⟩ := own_slice ho5
    have HO5 := Lib.hid ho5
    clear hown5 hb5 HBd2 HOd2 HSD2 ho5 hdl2
    have x3 := Below.kept HBb5.out (Nat.le_refl _) (HX2.out.cell (j := 3) rfl)
    go_wp2_with (with_reducible refine wpList_bytes_of _ rfl _ rfl Try.underlying9 Try.underlying78 Try.underlying5 rt rfl (by omega) ?_; intro ad3 cc3 wc3 hsl3 hbc3)
    obtain ⟨L3, hL3⟩ : ∃ L : List UInt8, rt.data.toList = L := ⟨_, rfl⟩
    have hLs3 : rt.size = L3.length := by rw [← hL3, size_list]
    rw [hL3] at hsl3
    rw [hLs3]
    have HBc3 := Lib.hid (Below.step HBb5.out hbc3)
    have HOc3 := Lib.hid (ownsRow_below HO5.out hbc3)
    have HLL3 := Lib.hid hL3
    have HSL3 := Lib.hid hsl3
    have hLb3 : L3.length ≤ 65536 := by rw [← hLs3]; omega
    clear hbc3 hL3 hsl3 x3 hLs3 HO5 HBb5
    go_wp2_with fail
    refine (refRaw_any ad3 cc3 L3 wc3 HSL3.out (by omega)).mono ?_
    rintro e wd3 ⟨vd3, rfl, hod3, hbd3⟩
    obtain ⟨ds3, hds3⟩ : ∃ x : List UInt8, encR L3 = x := ⟨_, rfl⟩
    rw [hds3] at hod3
    obtain ⟨aq3, cq3, rfl, hsd3⟩ := own_slice hod3
    have HBd3 := Lib.hid (Below.step HBc3.out hbd3)
    have hdl3 : ds3.length ≤ 65546 := by rw [← hds3]; have := encR_len L3 (by omega); omega
    have HOd3 := Lib.hid (ownsRow_below HOc3.out hbd3)
    obtain ⟨a6, ha6⟩ : ∃ x : List UInt8, a5 ++ ds3 = x := ⟨_, rfl⟩
    have hl6 : a6.length ≤ 65576 := by rw [← ha6, List.length_append]; omega
    have HA6 : Hid (a5 ++ encR L3 = a6) := by unfold Hid; rw [hds3]; exact ha6
    have HAA6 := Lib.hid ha6
    have HSD3 := Lib.hid (show RowAt wd3 aq3 ds3.length cq3 1 (ds3.map byteV) from sliceRowB hsd3)
    clear hds3 ha6 hod3 hbd3 hsd3 HBc3 HOc3 
    go_wp2_with (at_builtin; refine wpList_append_src _ rfl (.tmp 23) (.tmp 27) 78 rfl elemB w2.heap.size _ a5.length _ rfl HOd3.out aq3 ds3.length cq3 _ rfl HSD3.out (byteV_one _) (by omega) (by omega) HBd3.out.size ?_)
    intro v6 w6 hown6 hb6 _
    have HBb6 := Lib.hid (HBd3.out.trans hb6)
    have ho6 := own_app hown6
    rw [HAA6.out] at ho6
    obtain ⟨ar6, cr6, rfl, -⟩ := own_slice ho6
    have HO6 := Lib.hid ho6
    clear hown6 hb6 HBd3 HOd3 HSD3 ho6 hdl3
    go_wp2_with fail
    go_ret2
    have hC : C = a6 := by
      rw [← HC2.out]
      unfold encAn
      simp only
      rw [HLL3.out, HA2.out, HA3.out, HA4.out, HA5.out, HA6.out]
    have hle : w.heap.size ≤ w2.heap.size := HB2.out.size
    rw [hC]
    exact ⟨_, rfl, ownsRow_lower HO6.out hle, HB2.out.trans (HBb6.out.mono hle)⟩

end Go.Proofs.Ytaonhmdifinadaa
