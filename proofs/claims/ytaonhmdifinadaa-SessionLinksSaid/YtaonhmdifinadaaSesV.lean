/-
  The codes of package session: EncodeRequest, EncodeAnswer.
-/
import Derived.Test.YtaonhmdifinadaaSesH
import Derived.Test.YtaonhmdifinadaaRdEnc
import Derived.Test.YtaonhmdifinadaaWireA
namespace Go.Proofs.Ytaonhmdifinadaa
open Go Go.Proofs
open Go.RowKit
set_option linter.unusedVariables false
set_option linter.unusedSimpArgs false

def encRq (r : Rq) : List UInt8 := ((((([] ++ encI r.id) ++ encI r.kind) ++ encR r.doc.data.toList) ++ encI r.ver) ++ encI r.off) ++ encR r.txt.data.toList
def encAn (a : An) : List UInt8 := ((([] ++ encI a.id) ++ encI a.err) ++ encI a.ver) ++ encR a.txt.data.toList
def okA (a : An) : Bool := decide (1 ≤ a.id ∧ a.id ≤ 1099511627776 ∧ 0 ≤ a.err ∧ a.err ≤ 23 ∧ 0 ≤ a.ver ∧ a.ver ≤ 1099511627776 ∧ a.txt.size ≤ 65536)
theorem okA_iff {a : An} : okA a = true ↔ (1 ≤ a.id ∧ a.id ≤ 1099511627776 ∧ 0 ≤ a.err ∧ a.err ≤ 23 ∧ 0 ≤ a.ver ∧ a.ver ≤ 1099511627776 ∧ a.txt.size ≤ 65536) := by unfold okA; rw [decide_eq_true_eq]
def codeRq (r : Rq) : List UInt8 := if okR r = true then encRq r else []
def codeAn (a : An) : List UInt8 := if okA a = true then encAn a else []
def errOf (ok : Bool) : Int := if ok = true then 0 else 1
theorem encR_len (l : List UInt8) (h : l.length ≤ 1000000) : (encR l).length ≤ 10 + l.length := by
  unfold encR
  rw [List.length_append]
  have := encU_len10 (n := l.length) (by omega)
  omega
theorem size_list (s : ByteArray) : s.data.toList.length = s.size := by rw [Array.length_toList]; rfl

set_option maxHeartbeats 1000000 in
theorem avalid_any (a : An) (w : World) (ht : a.txt.size ≤ 9223372036854775807) :
    Calls Try.prog 83 #[.agg #[.int .i64 a.id, .int .i64 a.err, .int .i64 a.ver, .string a.txt]] w fun e w' => e = .returned (.bool (okA a)) ∧ Below w.heap.size w w' := by
  obtain ⟨x, hx⟩ : ∃ x, okA a = x := ⟨_, rfl⟩
  rw [hx]
  unfold okA at hx
  obtain ⟨id, err, ver, txt⟩ := a
  simp only at hx ht
  have HX := Lib.hid hx
  clear hx
  have hb := (Below.refl _ w).alloc (Nat.le_refl _) (.cells #[.int .i64 id, .int .i64 err, .int .i64 ver, .string txt] 53)
  go_enter Try.func83, Try.ntmps83
  go_wp2_with (go_at_call 101; refine (within_any _ _ _ _).mono ?_; rintro e w1 ⟨rfl, rfl⟩)
  all_goals
    go_ret
    refine ⟨ret_bool ?_, hb⟩
    rw [← HX.out, Bool.eq_iff_iff]
    simp
    omega

theorem ownsRow_lower {w : World} {b b' : Nat} {e : TypeId} {size : Nat} {v : Value} {n : Nat} {xs : List Value} (h : w.ownsRow b e size v n xs) (hb : b' ≤ b) : w.ownsRow b' e size v n xs := by
  refine ⟨h.1, ?_⟩
  rcases h.2 with hn | ⟨g, cap, cur, rfl, hg, rest⟩
  · exact .inl hn
  · exact .inr ⟨g, cap, cur, rfl, Nat.le_trans hb hg, rest⟩

set_option maxRecDepth 100000 in
set_option maxHeartbeats 4000000 in
theorem enq_any (r : Rq) (w : World) (hd : r.doc.size ≤ 9223372036854775807) (ht : r.txt.size ≤ 9223372036854775807) :
    Calls Try.prog 40 #[.agg #[.int .i64 r.id, .int .i64 r.kind, .string r.doc, .int .i64 r.ver, .int .i64 r.off, .string r.txt]] w fun e w' => ∃ v, e = .returned (.tuple #[v, .int .i64 (errOf (okR r))]) ∧ w'.ownsRow w.heap.size 5 1 v (codeRq r).length ((codeRq r).map byteV) ∧ Below w.heap.size w w' := by
  have kv := fun W => rvalid_any r W hd ht
  have hok := okR_iff (r := r)
  obtain ⟨C, hC⟩ : ∃ C, codeRq r = C := ⟨_, rfl⟩
  rw [hC]
  unfold codeRq at hC
  obtain ⟨ok, hokk⟩ : ∃ x, okR r = x := ⟨_, rfl⟩
  rw [hokk] at hC hok ⊢
  simp only [hokk] at kv
  obtain ⟨ri, rk, rd, rv, ro, rt⟩ := r
  simp only at kv hok
  obtain ⟨w1, hw1⟩ : ∃ x, x = w.alloc (.cells #[.int .i64 ri, .int .i64 rk, .string rd, .int .i64 rv, .int .i64 ro, .string rt] 44) := ⟨_, rfl⟩
  have hb1 : Blk w1 (fun _ => 0) 0 w.heap.size [.int .i64 ri, .int .i64 rk, .string rd, .int .i64 rv, .int .i64 ro, .string rt] := by rw [hw1]; exact ⟨_, heap_alloc_new _ _, rfl⟩
  have hB1 : Below w.heap.size w w1 := by rw [hw1]; exact (Below.refl _ w).alloc (Nat.le_refl _) _
  have HC := Lib.hid hC
  have HOK := Lib.hid hok
  have KV := Lib.hid kv
  have HW1 := Lib.hid hw1
  have HB1 := Lib.hid hB1
  have HX1 := Lib.hid hb1
  obtain ⟨gb, hgb⟩ : ∃ g, w.heap.size = g := ⟨_, rfl⟩
  rw [hgb] at HX1
  clear hC hok kv hw1 hB1 hb1 hokk
  go_enter Try.func40, Try.ntmps40
  go_wp2_with fail
  rw [← HW1.out]
  refine (KV.out w1).mono ?_
  rintro e w2 ⟨rfl, hb2⟩
  have HX2 := Lib.hid (HX1.out.step (Step.same (L := fun _ => False) hb2) fun h => h)
  have HB2 := Lib.hid (Below.step HB1.out hb2)
  clear hb2 HX1 HB1 HW1 KV
  cases ok with
  | false =>
    have hC := HC.out
    rw [if_neg (by decide)] at hC
    subst hC
    go_wp2_with fail
    go_ret2
    rw [← hgb]
    exact ⟨_, rfl, World.ownsRow_nil _ _ _ _, HB2.out⟩
  | true =>
    have hC := HC.out
    rw [if_pos rfl] at hC
    have HC2 := Lib.hid hC
    have ho := HOK.out.1 rfl
    clear hC HC HOK
    obtain ⟨w3, hw3⟩ : ∃ x, x = w2.alloc (.cells #[.slice none 0 0] 152) := ⟨_, rfl⟩
    obtain ⟨o3, ho3⟩ : ∃ x, newLab w2 (fun _ => 0) (10 * 1) = x := ⟨_, rfl⟩
    have hs3 : Step (fun _ => False) w2 (fun _ => 0) w3 o3 := by rw [hw3, ← ho3]; exact Step.newBlk _ _ _
    have hW3 : WrAt w3 o3 1 w2.heap.size [] := ⟨.slice none 0 0, by rw [hw3, ← ho3]; exact ⟨_, heap_alloc_new _ _, newLab_new _ _ _ (Nat.le_refl _)⟩, RowL.nil _ _ _ _ _⟩
    obtain ⟨b, hbb⟩ : ∃ b, w2.heap.size = b := ⟨_, rfl⟩
    rw [hbb] at hW3
    have HX3 := Lib.hid (HX2.out.step hs3 fun h => h)
    have HT3 := Lib.hid (hs3.mono (L' := Own 1) fun _ h => h.elim)
    have HW3 := Lib.hid hW3
    have HE3 := Lib.hid hw3
    have x0 := HX3.out.cell (j := 0) rfl
    rw [hw3] at x0
    have x1 := HX3.out.cell (j := 1) rfl
    rw [hw3] at x1
    have x2 := HX3.out.cell (j := 2) rfl
    rw [hw3] at x2
    have x3 := HX3.out.cell (j := 3) rfl
    rw [hw3] at x3
    have x4 := HX3.out.cell (j := 4) rfl
    rw [hw3] at x4
    have x5 := HX3.out.cell (j := 5) rfl
    rw [hw3] at x5
    clear hw3 hs3 ho3 hW3
    obtain ⟨a3, ha3⟩ : ∃ x : List UInt8, [] = x := ⟨_, rfl⟩
    have hl3 : a3.length ≤ 0 := by rw [← ha3]; exact Nat.le_refl _
    rw [ha3] at HW3
    have HA3 := Lib.hid ha3
    go_wp2_with fail
    rw [← HE3.out]
    refine (int_any 1 b ri a3 w3 o3 (by omega) HW3.out (by omega) (by omega) (by omega)).mono ?_
    rintro e w4 ⟨rfl, o4, hs4, hW4⟩
    have HX4 := Lib.hid (HX3.out.step hs4 (by unfold Own; omega))
    have HT4 := Lib.hid (HT3.out.trans hs4)
    obtain ⟨a4, ha4⟩ : ∃ x : List UInt8, a3 ++ encI ri = x := ⟨_, rfl⟩
    have hl4 : a4.length ≤ 10 := by rw [← ha4, List.length_append]; have := encI_len ri (by omega) (by omega); omega
    rw [ha4] at hW4
    have HW4 := Lib.hid hW4
    have HA4 := Lib.hid ha4
    clear hs4 hW4 ha4 HW3 HX3 HT3 ha3 HX2 x0 x1 x2 x3 x4 x5
    have x0 := HX4.out.cell (j := 0) rfl
    have x1 := HX4.out.cell (j := 1) rfl
    have x2 := HX4.out.cell (j := 2) rfl
    have x3 := HX4.out.cell (j := 3) rfl
    have x4 := HX4.out.cell (j := 4) rfl
    have x5 := HX4.out.cell (j := 5) rfl
    go_wp2_with fail
    refine (int_any 1 b rk a4 w4 o4 (by omega) HW4.out (by omega) (by omega) (by omega)).mono ?_
    rintro e w5 ⟨rfl, o5, hs5, hW5⟩
    have HX5 := Lib.hid (HX4.out.step hs5 (by unfold Own; omega))
    have HT5 := Lib.hid (HT4.out.trans hs5)
    obtain ⟨a5, ha5⟩ : ∃ x : List UInt8, a4 ++ encI rk = x := ⟨_, rfl⟩
    have hl5 : a5.length ≤ 20 := by rw [← ha5, List.length_append]; have := encI_len rk (by omega) (by omega); omega
    rw [ha5] at hW5
    have HW5 := Lib.hid hW5
    have HA5 := Lib.hid ha5
    clear hs5 hW5 ha5 HW4 HX4 HT4 x0 x1 x2 x3 x4 x5
    have x0 := HX5.out.cell (j := 0) rfl
    have x1 := HX5.out.cell (j := 1) rfl
    have x2 := HX5.out.cell (j := 2) rfl
    have x3 := HX5.out.cell (j := 3) rfl
    have x4 := HX5.out.cell (j := 4) rfl
    have x5 := HX5.out.cell (j := 5) rfl
    go_wp2_with fail
    refine (wtext_any 1 b rd a5 w5 o5 (by omega) HW5.out (by omega) (by omega)).mono ?_
    rintro e w6 ⟨rfl, o6, hs6, hW6⟩
    have HX6 := Lib.hid (HX5.out.step hs6 (by unfold Own; omega))
    have HT6 := Lib.hid (HT5.out.trans hs6)
    obtain ⟨a6, ha6⟩ : ∃ x : List UInt8, a5 ++ encR rd.data.toList = x := ⟨_, rfl⟩
    have hl6 : a6.length ≤ 46 := by rw [← ha6, List.length_append]; have := encR_len rd.data.toList (by rw [size_list]; omega); rw [size_list] at this; omega
    rw [ha6] at hW6
    have HW6 := Lib.hid hW6
    have HA6 := Lib.hid ha6
    clear hs6 hW6 ha6 HW5 HX5 HT5 x0 x1 x2 x3 x4 x5
    have x0 := HX6.out.cell (j := 0) rfl
    have x1 := HX6.out.cell (j := 1) rfl
    have x2 := HX6.out.cell (j := 2) rfl
    have x3 := HX6.out.cell (j := 3) rfl
    have x4 := HX6.out.cell (j := 4) rfl
    have x5 := HX6.out.cell (j := 5) rfl
    go_wp2_with fail
    refine (int_any 1 b rv a6 w6 o6 (by omega) HW6.out (by omega) (by omega) (by omega)).mono ?_
    rintro e w7 ⟨rfl, o7, hs7, hW7⟩
    have HX7 := Lib.hid (HX6.out.step hs7 (by unfold Own; omega))
    have HT7 := Lib.hid (HT6.out.trans hs7)
    obtain ⟨a7, ha7⟩ : ∃ x : List UInt8, a6 ++ encI rv = x := ⟨_, rfl⟩
    have hl7 : a7.length ≤ 56 := by rw [← ha7, List.length_append]; have := encI_len rv (by omega) (by omega); omega
    rw [ha7] at hW7
    have HW7 := Lib.hid hW7
    have HA7 := Lib.hid ha7
    clear hs7 hW7 ha7 HW6 HX6 HT6 x0 x1 x2 x3 x4 x5
    have x0 := HX7.out.cell (j := 0) rfl
    have x1 := HX7.out.cell (j := 1) rfl
    have x2 := HX7.out.cell (j := 2) rfl
    have x3 := HX7.out.cell (j := 3) rfl
    have x4 := HX7.out.cell (j := 4) rfl
    have x5 := HX7.out.cell (j := 5) rfl
    go_wp2_with fail
    refine (int_any 1 b ro a7 w7 o7 (by omega) HW7.out (by omega) (by omega) (by omega)).mono ?_
    rintro e w8 ⟨rfl, o8, hs8, hW8⟩
    have HX8 := Lib.hid (HX7.out.step hs8 (by unfold Own; omega))
    have HT8 := Lib.hid (HT7.out.trans hs8)
    obtain ⟨a8, ha8⟩ : ∃ x : List UInt8, a7 ++ encI ro = x := ⟨_, rfl⟩
    have hl8 : a8.length ≤ 66 := by rw [← ha8, List.length_append]; have := encI_len ro (by omega) (by omega); omega
    rw [ha8] at hW8
    have HW8 := Lib.hid hW8
    have HA8 := Lib.hid ha8
    clear hs8 hW8 ha8 HW7 HX7 HT7 x0 x1 x2 x3 x4 x5
    have x0 := HX8.out.cell (j := 0) rfl
    have x1 := HX8.out.cell (j := 1) rfl
    have x2 := HX8.out.cell (j := 2) rfl
    have x3 := HX8.out.cell (j := 3) rfl
    have x4 := HX8.out.cell (j := 4) rfl
    have x5 := HX8.out.cell (j := 5) rfl
    go_wp2_with fail
    refine (wtext_any 1 b rt a8 w8 o8 (by omega) HW8.out (by omega) (by omega)).mono ?_
    rintro e w9 ⟨rfl, o9, hs9, hW9⟩
    have HX9 := Lib.hid (HX8.out.step hs9 (by unfold Own; omega))
    have HT9 := Lib.hid (HT8.out.trans hs9)
    obtain ⟨a9, ha9⟩ : ∃ x : List UInt8, a8 ++ encR rt.data.toList = x := ⟨_, rfl⟩
    have hl9 : a9.length ≤ 4172 := by rw [← ha9, List.length_append]; have := encR_len rt.data.toList (by rw [size_list]; omega); rw [size_list] at this; omega
    rw [ha9] at hW9
    have HW9 := Lib.hid hW9
    have HA9 := Lib.hid ha9
    clear hs9 hW9 ha9 HW8 HX8 HT8 x0 x1 x2 x3 x4 x5
    go_wp2_with fail
    refine (done_any 1 b a9 w9 o9 HW9.out (by omega)).mono ?_
    rintro e w' ⟨v, rfl, hown, hbd⟩
    have HO := Lib.hid hown
    have HD := Lib.hid hbd
    clear hown hbd
    go_wp2_with fail
    go_ret2
    have hC : C = a9 := by
      rw [← HC2.out]
      unfold encRq
      simp only
      rw [HA3.out, HA4.out, HA5.out, HA6.out, HA7.out, HA8.out, HA9.out]
    have hbel : Below w2.heap.size w2 w9 := HT9.out.toBelow (Nat.le_refl _) fun k _ => by unfold Own; omega
    have hown := HO.out
    have hle : w.heap.size ≤ w9.heap.size := by have := HB2.out.size; have := hbel.size; omega
    rw [hC]
    refine ⟨v, rfl, ?_, (Below.step HB2.out hbel).trans (HD.out.mono hle)⟩
    exact ownsRow_lower hown hle

set_option maxRecDepth 100000 in
set_option maxHeartbeats 4000000 in
theorem ena_any (r : An) (w : World) (ht : r.txt.size ≤ 9223372036854775807) :
    Calls Try.prog 41 #[.agg #[.int .i64 r.id, .int .i64 r.err, .int .i64 r.ver, .string r.txt]] w fun e w' => ∃ v, e = .returned (.tuple #[v, .int .i64 (errOf (okA r))]) ∧ w'.ownsRow w.heap.size 5 1 v (codeAn r).length ((codeAn r).map byteV) ∧ Below w.heap.size w w' := by
  have kv := fun W => avalid_any r W ht
  have hok := okA_iff (a := r)
  obtain ⟨C, hC⟩ : ∃ C, codeAn r = C := ⟨_, rfl⟩
  rw [hC]
  unfold codeAn at hC
  obtain ⟨ok, hokk⟩ : ∃ x, okA r = x := ⟨_, rfl⟩
  rw [hokk] at hC hok ⊢
  simp only [hokk] at kv
  obtain ⟨ri, re, rv, rt⟩ := r
  simp only at kv hok
  obtain ⟨w1, hw1⟩ : ∃ x, x = w.alloc (.cells #[.int .i64 ri, .int .i64 re, .int .i64 rv, .string rt] 53) := ⟨_, rfl⟩
  have hb1 : Blk w1 (fun _ => 0) 0 w.heap.size [.int .i64 ri, .int .i64 re, .int .i64 rv, .string rt] := by rw [hw1]; exact ⟨_, heap_alloc_new _ _, rfl⟩
  have hB1 : Below w.heap.size w w1 := by rw [hw1]; exact (Below.refl _ w).alloc (Nat.le_refl _) _
  have HC := Lib.hid hC
  have HOK := Lib.hid hok
  have KV := Lib.hid kv
  have HW1 := Lib.hid hw1
  have HB1 := Lib.hid hB1
  have HX1 := Lib.hid hb1
  obtain ⟨gb, hgb⟩ : ∃ g, w.heap.size = g := ⟨_, rfl⟩
  rw [hgb] at HX1
  clear hC hok kv hw1 hB1 hb1 hokk
  go_enter Try.func41, Try.ntmps41
  go_wp2_with fail
  rw [← HW1.out]
  refine (KV.out w1).mono ?_
  rintro e w2 ⟨rfl, hb2⟩
  have HX2 := Lib.hid (HX1.out.step (Step.same (L := fun _ => False) hb2) fun h => h)
  have HB2 := Lib.hid (Below.step HB1.out hb2)
  clear hb2 HX1 HB1 HW1 KV
  cases ok with
  | false =>
    have hC := HC.out
    rw [if_neg (by decide)] at hC
    subst hC
    go_wp2_with fail
    go_ret2
    rw [← hgb]
    exact ⟨_, rfl, World.ownsRow_nil _ _ _ _, HB2.out⟩
  | true =>
    have hC := HC.out
    rw [if_pos rfl] at hC
    have HC2 := Lib.hid hC
    have ho := HOK.out.1 rfl
    clear hC HC HOK
    obtain ⟨w3, hw3⟩ : ∃ x, x = w2.alloc (.cells #[.slice none 0 0] 152) := ⟨_, rfl⟩
    obtain ⟨o3, ho3⟩ : ∃ x, newLab w2 (fun _ => 0) (10 * 1) = x := ⟨_, rfl⟩
    have hs3 : Step (fun _ => False) w2 (fun _ => 0) w3 o3 := by rw [hw3, ← ho3]; exact Step.newBlk _ _ _
    have hW3 : WrAt w3 o3 1 w2.heap.size [] := ⟨.slice none 0 0, by rw [hw3, ← ho3]; exact ⟨_, heap_alloc_new _ _, newLab_new _ _ _ (Nat.le_refl _)⟩, RowL.nil _ _ _ _ _⟩
    obtain ⟨b, hbb⟩ : ∃ b, w2.heap.size = b := ⟨_, rfl⟩
    rw [hbb] at hW3
    have HX3 := Lib.hid (HX2.out.step hs3 fun h => h)
    have HT3 := Lib.hid (hs3.mono (L' := Own 1) fun _ h => h.elim)
    have HW3 := Lib.hid hW3
    have HE3 := Lib.hid hw3
    have x0 := HX3.out.cell (j := 0) rfl
    rw [hw3] at x0
    have x1 := HX3.out.cell (j := 1) rfl
    rw [hw3] at x1
    have x2 := HX3.out.cell (j := 2) rfl
    rw [hw3] at x2
    have x3 := HX3.out.cell (j := 3) rfl
    rw [hw3] at x3
    clear hw3 hs3 ho3 hW3
    obtain ⟨a3, ha3⟩ : ∃ x : List UInt8, [] = x := ⟨_, rfl⟩
    have hl3 : a3.length ≤ 0 := by rw [← ha3]; exact Nat.le_refl _
    rw [ha3] at HW3
    have HA3 := Lib.hid ha3
    go_wp2_with fail
    rw [← HE3.out]
    refine (int_any 1 b ri a3 w3 o3 (by omega) HW3.out (by omega) (by omega) (by omega)).mono ?_
    rintro e w4 ⟨rfl, o4, hs4, hW4⟩
    have HX4 := Lib.hid (HX3.out.step hs4 (by unfold Own; omega))
    have HT4 := Lib.hid (HT3.out.trans hs4)
    obtain ⟨a4, ha4⟩ : ∃ x : List UInt8, a3 ++ encI ri = x := ⟨_, rfl⟩
    have hl4 : a4.length ≤ 10 := by rw [← ha4, List.length_append]; have := encI_len ri (by omega) (by omega); omega
    rw [ha4] at hW4
    have HW4 := Lib.hid hW4
    have HA4 := Lib.hid ha4
    clear hs4 hW4 ha4 HW3 HX3 HT3 ha3 HX2 x0 x1 x2 x3
    have x0 := HX4.out.cell (j := 0) rfl
    have x1 := HX4.out.cell (j := 1) rfl
    have x2 := HX4.out.cell (j := 2) rfl
    have x3 := HX4.out.cell (j := 3) rfl
    go_wp2_with fail
    refine (int_any 1 b re a4 w4 o4 (by omega) HW4.out (by omega) (by omega) (by omega)).mono ?_
    rintro e w5 ⟨rfl, o5, hs5, hW5⟩
    have HX5 := Lib.hid (HX4.out.step hs5 (by unfold Own; omega))
    have HT5 := Lib.hid (HT4.out.trans hs5)
    obtain ⟨a5, ha5⟩ : ∃ x : List UInt8, a4 ++ encI re = x := ⟨_, rfl⟩
    have hl5 : a5.length ≤ 20 := by rw [← ha5, List.length_append]; have := encI_len re (by omega) (by omega); omega
    rw [ha5] at hW5
    have HW5 := Lib.hid hW5
    have HA5 := Lib.hid ha5
    clear hs5 hW5 ha5 HW4 HX4 HT4 x0 x1 x2 x3
    have x0 := HX5.out.cell (j := 0) rfl
    have x1 := HX5.out.cell (j := 1) rfl
    have x2 := HX5.out.cell (j := 2) rfl
    have x3 := HX5.out.cell (j := 3) rfl
    go_wp2_with fail
    refine (int_any 1 b rv a5 w5 o5 (by omega) HW5.out (by omega) (by omega) (by omega)).mono ?_
    rintro e w6 ⟨rfl, o6, hs6, hW6⟩
    have HX6 := Lib.hid (HX5.out.step hs6 (by unfold Own; omega))
    have HT6 := Lib.hid (HT5.out.trans hs6)
    obtain ⟨a6, ha6⟩ : ∃ x : List UInt8, a5 ++ encI rv = x := ⟨_, rfl⟩
    have hl6 : a6.length ≤ 30 := by rw [← ha6, List.length_append]; have := encI_len rv (by omega) (by omega); omega
    rw [ha6] at hW6
    have HW6 := Lib.hid hW6
    have HA6 := Lib.hid ha6
    clear hs6 hW6 ha6 HW5 HX5 HT5 x0 x1 x2 x3
    have x0 := HX6.out.cell (j := 0) rfl
    have x1 := HX6.out.cell (j := 1) rfl
    have x2 := HX6.out.cell (j := 2) rfl
    have x3 := HX6.out.cell (j := 3) rfl
    go_wp2_with fail
    refine (wtext_any 1 b rt a6 w6 o6 (by omega) HW6.out (by omega) (by omega)).mono ?_
    rintro e w7 ⟨rfl, o7, hs7, hW7⟩
    have HX7 := Lib.hid (HX6.out.step hs7 (by unfold Own; omega))
    have HT7 := Lib.hid (HT6.out.trans hs7)
    obtain ⟨a7, ha7⟩ : ∃ x : List UInt8, a6 ++ encR rt.data.toList = x := ⟨_, rfl⟩
    have hl7 : a7.length ≤ 65576 := by rw [← ha7, List.length_append]; have := encR_len rt.data.toList (by rw [size_list]; omega); rw [size_list] at this; omega
    rw [ha7] at hW7
    have HW7 := Lib.hid hW7
    have HA7 := Lib.hid ha7
    clear hs7 hW7 ha7 HW6 HX6 HT6 x0 x1 x2 x3
    go_wp2_with fail
    refine (done_any 1 b a7 w7 o7 HW7.out (by omega)).mono ?_
    rintro e w' ⟨v, rfl, hown, hbd⟩
    have HO := Lib.hid hown
    have HD := Lib.hid hbd
    clear hown hbd
    go_wp2_with fail
    go_ret2
    have hC : C = a7 := by
      rw [← HC2.out]
      unfold encAn
      simp only
      rw [HA3.out, HA4.out, HA5.out, HA6.out, HA7.out]
    have hbel : Below w2.heap.size w2 w7 := HT7.out.toBelow (Nat.le_refl _) fun k _ => by unfold Own; omega
    have hown := HO.out
    have hle : w.heap.size ≤ w7.heap.size := by have := HB2.out.size; have := hbel.size; omega
    rw [hC]
    refine ⟨v, rfl, ?_, (Below.step HB2.out hbel).trans (HD.out.mono hle)⟩
    exact ownsRow_lower hown hle

end Go.Proofs.Ytaonhmdifinadaa
