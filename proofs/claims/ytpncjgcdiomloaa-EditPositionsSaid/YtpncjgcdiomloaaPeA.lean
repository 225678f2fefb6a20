/-
  Contracts: the lines of a text, the generator of texts, the search in a sorted row (seat of package edit).
-/
import Derived.Test.YtpncjgcdiomloaaRefA
import Derived.Test.YtpncjgcdiomloaaPosP
namespace Go.Proofs.Ytpncjgcdiomloaa
open Go Go.Proofs
open Go.RowKit
set_option linter.unusedVariables false
set_option linter.unusedSimpArgs false


theorem units1_any (r : Nat) (w : World) (h : r ≤ 2147483647) :
    Calls Try.prog 52 #[.int .i32 r] w fun e w' => e = .returned (.int .i64 ((if 65536 ≤ r then 2 else 1 : Nat) : Int)) ∧ w = w' := by
  by_cases h : 65536 ≤ r
  · have d : decide ((65536 : Int) ≤ (r : Int)) = true := decide_eq_true (by omega)
    rw [if_pos h]
    go_enter Try.func52, Try.ntmps52
    go_wp2_with fail
    go_ret
    exact ⟨rfl, rfl⟩
  · have d : decide ((65536 : Int) ≤ (r : Int)) = false := decide_eq_false (by omega)
    rw [if_neg h]
    go_enter Try.func52, Try.ntmps52
    go_wp2_with fail
    go_ret
    exact ⟨rfl, rfl⟩
/-- What a round of a range over a string knows. -/
theorem next_at (P : Program) (w : World) (s : ByteArray) (pos : Nat) (h : pos < s.size) :
    ∃ r : Nat, r ≤ 2147483647 ∧ (if 65536 ≤ r then 2 else 1) = (chL (s.data.toList.drop pos)).2 ∧ (r = 10 ↔ by8 (s.data.toList.drop pos) 0 = 10) ∧
      ∀ ty, (Instr.next (.pointer (some ⟨w.heap.size, 0, none⟩)) true ty).run P (w.iter s pos) = .ok (.tuple #[.bool true, .int .i64 pos, .int .i32 r]) (w.iter s (pos + (chL (s.data.toList.drop pos)).1)) := by
  obtain ⟨d1, d2, d3⟩ := dec_link s pos h
  exact ⟨(Utf8.decode s pos).1, decode_le s pos, d2, d3, fun ty => by rw [← d1]; exact run_next_any w s pos ty h⟩
theorem drop_ne {l : List UInt8} {p : Nat} (h : p < l.length) : l.drop p ≠ [] := by
  intro e
  have := congrArg List.length e
  simp at this
  omega
theorem below_iter (w : World) (s : ByteArray) (p : Nat) : Below w.heap.size w (w.iter s p) := (Below.refl _ w).alloc (Nat.le_refl _) _
/-- Byte i of a string. -/
theorem get_by (s : ByteArray) {i : Nat} (h : i < s.size) : (s[i]'h).toNat = by8 s.data.toList i := by
  unfold by8
  rw [List.getD_eq_getElem?_getD, Array.getElem?_toList, Array.getElem?_eq_getElem h]
  rfl
def natV (n : Nat) : Value := .int .i64 n
theorem lines_step {l : List UInt8} {k : Nat} (h : k < l.length) : linesFrom (l.drop k) k = if by8 l k = 10 then (k + 1) :: linesFrom (l.drop (k + 1)) (k + 1) else linesFrom (l.drop (k + 1)) (k + 1) := by
  rw [List.drop_eq_getElem_cons h]
  have : l[k].toNat = by8 l k := by unfold by8; rw [List.getD_eq_getElem?_getD, List.getElem?_eq_getElem h]; rfl
  rw [linesFrom, this]
theorem linesL_len (l : List UInt8) : (linesL l).length ≤ l.length + 1 := by
  have : ∀ (l : List UInt8) (i : Nat), (linesFrom l i).length ≤ l.length := by
    intro l
    induction l with
    | nil => intro i; simp [linesFrom]
    | cons c cs ih => intro i; unfold linesFrom; have := ih (i + 1); split <;> simp <;> omega
  have := this l 0
  simp [linesL]
  omega
theorem lines_any (s : ByteArray) (w : World) (hs : s.size ≤ 1099511627776) :
    Calls Try.prog 50 #[.string s] w fun e w' => ∃ v, e = .returned v ∧ w'.ownsRow w.heap.size 3 1 v (linesL s.data.toList).length ((linesL s.data.toList).map natV) ∧ Below w.heap.size w w' := by
  obtain ⟨l, hl⟩ : ∃ l, s.data.toList = l := ⟨_, rfl⟩
  have hsz : l.length = s.size := by rw [← hl]; rfl
  have hby : ∀ i (h : i < s.size), (s[i]'h).toNat = by8 l i := by intro i h; rw [get_by s h, hl]
  have hll := linesL_len l
  rw [hl]
  have HBY := Lib.hid hby
  clear hby
  have hown : (w.alloc (.cells #[.int .i64 0] 3)).ownsRow w.heap.size 3 1 (.slice (some ⟨w.heap.size, 0, none⟩) 1 1) 1 [.int .i64 0] := World.ownsRow_lit w #[.int .i64 0] 1 (Nat.le_refl _) (by decide) rfl
  go_enter Try.func50, Try.ntmps50
  go_wp2_with fail
  go_loopw [3, 8] (fun v i wr => ∃ (k : Nat) (acc : List Nat), k ≤ l.length ∧ i = .int .i64 k ∧ acc.length ≤ k + 1 ∧ wr.ownsRow w.heap.size 3 1 v acc.length (acc.map natV) ∧ Below w.heap.size w wr ∧ Hid (acc ++ linesFrom (l.drop k) k = linesL l)) (fun _ i _ => l.length - (intOf i).toNat)
  case atStart => exact ⟨0, [0], by omega, rfl, by simp, hown, (Below.refl _ w).alloc (Nat.le_refl _) _, by unfold Hid linesL; simp⟩
  case round =>
    obtain ⟨k, acc, hk, rfl, hal, hr, hB, hE⟩ := hrel
    by_cases hkl : k < l.length
    · have hks : k < s.size := by omega
      have hst := lines_step hkl
      have hg := HBY.out k hks
      have hg8 := by8_lt l k
      by_cases hnl : by8 l k = 10
      · rw [if_pos hnl] at hst
        have hq : ((s[k].toNat : Int) == 10) = true := by rw [hg]; simp; omega
        have hE2 : Hid ((acc ++ [k + 1]) ++ linesFrom (l.drop (k + 1)) (k + 1) = linesL l) := by unfold Hid; rw [← hE.out, hst]; simp
        clear hst hE hg hnl
        go_wp2_with (at_builtin; refine wpList_append_src _ rfl _ _ 23 rfl elemI w.heap.size _ acc.length _ rfl (hr.alloc _) (some ⟨wr.heap.size, 0, none⟩) 1 1 [.int .i64 ((k : Int) + 1)] rfl (row_new (cs := [.int .i64 ((k : Int) + 1)]) (by simp) (by omega)) (by simp [Value.oneCell']) (by omega) (by omega) (by have := hB.size; simp; omega) ?_)
        intro v' w1 hown' hbel' hgrow
        clear hgrow
        go_wp2
        go_roundw
        case rel => exact ⟨k + 1, acc ++ [k + 1], by omega, by go_num, by simp; omega, by rw [List.length_append, List.map_append]; exact hown', (hB.alloc hB.size _).trans hbel', hE2⟩
        case measure => simp [intOf]; omega
      · rw [if_neg hnl] at hst
        have hq : ((s[k].toNat : Int) == 10) = false := by rw [hg]; simp; omega
        rw [hst] at hE
        clear hst hg hnl
        go_wp2
        go_roundw
        case rel => exact ⟨k + 1, acc, by omega, by go_num, by omega, hr, hB, hE⟩
        case measure => simp [intOf]; omega
    · have hall : acc = linesL l := by
        have := hE.out
        rw [List.drop_of_length_le (by omega)] at this
        simpa [linesFrom] using this
      have HA := Lib.hid hall
      clear hall hE
      go_wp2
      go_ret
      exact ⟨_, rfl, by rw [← HA.out]; exact hr, hB⟩
def strV (l : List UInt8) : Value := .string ⟨l.toArray⟩
theorem parts_at (m : Nat) (h : m < 15) : (partsL.map strV)[m]? = some (strV (partsL.getD m [])) := by
  have hl : m < partsL.length := h
  rw [List.getElem?_map, List.getElem?_eq_getElem hl, List.getD_eq_getElem?_getD, List.getElem?_eq_getElem hl]
  rfl
theorem around_part (n : Int) : aroundI n 15 = (partAt n : Int) := by
  unfold aroundI partAt
  split <;> omega
theorem text_any (a : Option Addr) (c : Nat) (xs : List Int) (w : World) (hx : SliceAt w a c (xs.map intV)) (hb : ∀ n ∈ xs, -9223372036854775808 ≤ n ∧ n ≤ 9223372036854775807) :
    Calls Try.prog 34 #[.slice a xs.length c] w fun e w' => e = .returned (strV (textL xs)) ∧ Below w.heap.size w w' := by
  have hxl := hx.len
  simp only [List.length_map] at hxl
  obtain ⟨w1, hw1⟩ : ∃ w1, w1 = w.alloc (.cells #[.string ⟨#[97]⟩, .string ⟨#[98]⟩, .string ⟨#[32]⟩, .string ⟨#[10]⟩, .string ⟨#[10]⟩, .string ⟨#[195, 169]⟩, .string ⟨#[195, 159]⟩, .string ⟨#[226, 130, 172]⟩, .string ⟨#[232, 170, 158]⟩, .string ⟨#[240, 159, 152, 128]⟩, .string ⟨#[240, 157, 132, 158]⟩, .string ⟨#[120, 49]⟩, .string ⟨#[13, 10]⟩, .string ⟨#[40]⟩, .string ⟨#[34]⟩] 9) := ⟨_, rfl⟩
  have hcell : ∀ m, m < 15 → w1.cell? ⟨w.heap.size, m, none⟩ = some (strV (partsL.getD m [])) := by
    intro m hm
    rw [hw1, cell_of_row _ w.heap.size m _ _ (0, 0) (heap_alloc_new w _)]
    show ((partsL.map strV).toArray)[m]? = _
    rw [List.getElem?_toArray]
    exact parts_at m hm
  have hB : Below w.heap.size w w1 := by rw [hw1]; exact (Below.refl _ w).alloc (Nat.le_refl _) _
  have hx1 := hx.below hB
  have HW := Lib.hid hw1
  have HC := Lib.hid hcell
  have HB := Lib.hid hb
  clear hw1 hcell hb
  go_enter Try.func34, Try.ntmps34
  go_wp2_with fail
  rw [← HW.out]
  go_loop [4, 5] (fun sv i => ∃ (k : Nat) (t : ByteArray), k ≤ xs.length ∧ k ≤ 24 ∧ i = .int .i64 k ∧ sv = .string t ∧ t.size ≤ 4 * k ∧ Hid (t.data.toList = (xs.take k).flatMap fun n => partsL.getD (partAt n) [])) (fun _ i => xs.length - (intOf i).toNat)
  case atStart => exact ⟨0, ⟨#[]⟩, by omega, by omega, rfl, rfl, by decide, by unfold Hid; simp⟩
  case round =>
    obtain ⟨k, t, hk, hk24, rfl, rfl, htl, hT⟩ := hrel
    by_cases hkn : k < xs.length
    · by_cases h24 : k < 24
      · obtain ⟨b, off, rfl⟩ := hx.addr (by simp; omega)
        have f1 := hx1.intV hkn
        have hbk := HB.out xs[k] (List.getElem_mem _)
        have hpl := partAt_lt xs[k]
        have har := around_any xs[k] 15 w1 (by omega) (by omega) hbk.1 hbk.2
        rw [around_part] at har
        have hcl := HC.out (partAt xs[k]) hpl
        have hpm := (parts_whole _ (part_mem xs[k])).2
        have htk : xs.take (k + 1) = xs.take k ++ [xs[k]] := List.take_succ_eq_append_getElem hkn
        obtain ⟨q, hq⟩ : ∃ q, partsL.getD (partAt xs[k]) [] = q := ⟨_, rfl⟩
        have hT2 : Hid ((xs.take (k + 1)).flatMap (fun n => partsL.getD (partAt n) []) = t.data.toList ++ q) := by
          unfold Hid; rw [htk, List.flatMap_append, hT.out, List.flatMap_singleton, hq]
        rw [hq] at hcl hpm
        unfold strV at hcl
        generalize xs[k] = n at *
        generalize partAt n = m at *
        have HAR := Lib.hid har
        have hqs : (ByteArray.mk q.toArray).size = q.length := by show q.toArray.size = _; simp
        have hs2 : (t ++ ⟨q.toArray⟩).size ≤ 4 * (k + 1) := by rw [ByteArray.size_append]; omega
        have hd2 : Hid ((t ++ ⟨q.toArray⟩).data.toList = (xs.take (k + 1)).flatMap fun n => partsL.getD (partAt n) []) := by unfold Hid; rw [hT2.out]; simp [ByteArray.data_append]
        clear har htk hq hT
        go_wp2_with fail
        refine HAR.out.mono ?_
        rintro e w2 ⟨rfl, rfl⟩
        go_wp2_with fail
        go_round
        case rel => exact ⟨k + 1, t ++ ⟨q.toArray⟩, by omega, by omega, by go_num, rfl, hs2, hd2⟩
        case measure => simp [intOf]; omega
      · obtain rfl : k = 24 := by omega
        have hfin : t = ⟨(textL xs).toArray⟩ := by
          have := hT.out
          ext1
          unfold textL
          rw [← this]
        have HF := Lib.hid hfin
        clear hT hfin
        go_wp2_with fail
        go_ret
        exact ⟨by rw [HF.out]; rfl, hB⟩
    · have hfin : t = ⟨(textL xs).toArray⟩ := by
        have := hT.out
        rw [List.take_of_length_le (by omega)] at this
        ext1
        unfold textL
        rw [List.take_of_length_le (by omega), ← this]
      have d1 : decide ((k : Int) < (xs.length : Int)) = false := decide_eq_false (by omega)
      have d1' : decide (k < xs.length) = false := decide_eq_false hkn
      have HF := Lib.hid hfin
      clear hT hfin
      go_wp2_with fail
      go_ret
      exact ⟨by rw [HF.out]; rfl, hB⟩

theorem linesFrom_sorted (l : List UInt8) (i : Nat) : (linesFrom l i).Pairwise (· < ·) := by
  induction l generalizing i with
  | nil => simp [linesFrom]
  | cons c cs ih =>
    rw [linesFrom_cons]
    split
    · rw [List.pairwise_cons]
      refine ⟨fun x hx => ?_, ih _⟩
      have := linesFrom_gt hx
      omega
    · exact ih _
theorem linesL_sorted (l : List UInt8) : (linesL l).Pairwise (· < ·) := by
  unfold linesL
  rw [List.pairwise_cons]
  refine ⟨fun x hx => ?_, linesFrom_sorted _ _⟩
  have := linesFrom_gt hx
  omega
theorem sorted_at {L : List Nat} (h : L.Pairwise (· < ·)) {i j : Nat} (hij : i < j) (hj : j < L.length) : L[i]'(by omega) < L[j] :=
  List.pairwise_iff_getElem.1 h i j (by omega) hj hij
theorem count_part {L : List Nat} {x p : Nat} (hp : p ≤ L.length) (h1 : ∀ k (h : k < L.length), k < p → L[k] < x) (h2 : ∀ k (h : k < L.length), p ≤ k → x ≤ L[k]) : L.countP (fun y => decide (y < x)) = p := by
  have e : L = L.take p ++ L.drop p := (List.take_append_drop _ _).symm
  rw [e, List.countP_append]
  have c1 : (L.take p).countP (fun y => decide (y < x)) = (L.take p).length := by
    rw [List.countP_eq_length]
    intro y hy
    obtain ⟨k, hk, rfl⟩ := List.getElem_of_mem hy
    rw [List.length_take] at hk
    rw [List.getElem_take]
    exact decide_eq_true (h1 k (by omega) (by omega))
  have c2 : (L.drop p).countP (fun y => decide (y < x)) = 0 := by
    rw [List.countP_eq_zero]
    intro y hy
    obtain ⟨k, hk, rfl⟩ := List.getElem_of_mem hy
    rw [List.length_drop] at hk
    rw [List.getElem_drop]
    have := h2 (p + k) (by omega) (by omega)
    simp
    omega
  rw [c1, c2, List.length_take]
  omega
theorem SliceAt.natV {w : World} {cap b off : Nat} {zs : List Nat} (h : SliceAt w (some ⟨b, off, none⟩) cap (zs.map natV)) {i : Nat} (hi : i < zs.length) : w.cell? ⟨b, off + i, none⟩ = some (.int .i64 zs[i]) :=
  h.cell (by simp [hi]; rfl)
theorem less_any (a : Option Addr) (c : Nat) (L : List Nat) (x i b1 b2 : Nat) (w : World) (hx : SliceAt w a c (L.map natV)) (hi : i < L.length)
    (h1 : w.cell? ⟨b1, 0, none⟩ = some (.slice a L.length c)) (h2 : w.cell? ⟨b2, 0, none⟩ = some (.int .i64 x)) :
    Calls Try.prog 66 #[.int .i64 i, .pointer (some ⟨b1, 0, none⟩), .pointer (some ⟨b2, 0, none⟩)] w fun e w' => e = .returned (.bool (decide (x ≤ L[i]))) ∧ Below w.heap.size w w' := by
  have hl := hx.len
  simp only [List.length_map] at hl
  obtain ⟨b, off, rfl⟩ := hx.addr (by simp; omega)
  have f1 := hx.natV hi
  generalize L[i] = y at *
  go_enter Try.func66, Try.ntmps66
  go_wp2_with fail
  go_quiet (fail)
  go_wp2_with fail
  go_ret
  exact ⟨rfl, Below.drewN _⟩
theorem search_any (a : Option Addr) (c : Nat) (L : List Nat) (x b1 b2 : Nat) (w : World) (hx : SliceAt w a c (L.map natV)) (hs : L.Pairwise (· < ·)) (hlen : L.length ≤ 1099511627777)
    (h1 : w.cell? ⟨b1, 0, none⟩ = some (.slice a L.length c)) (h2 : w.cell? ⟨b2, 0, none⟩ = some (.int .i64 x)) :
    Calls Try.prog 65 #[.int .i64 L.length, .func (.func 66) #[] #[.pointer (some ⟨b1, 0, none⟩), .pointer (some ⟨b2, 0, none⟩)]] w fun e w' => e = .returned (.int .i64 (L.countP (fun y => decide (y < x)))) ∧ Below w.heap.size w w' := by
  have HS := Lib.hid hs
  clear hs
  have hB1 := World.block_lt_of_cell? w _ h1
  have hB2 := World.block_lt_of_cell? w _ h2
  go_enter Try.func65, Try.ntmps65
  go_wp2_with fail
  go_loopw [5, 6] (fun iv jv wr => ∃ p q : Nat, p ≤ q ∧ q ≤ L.length ∧ iv = .int .i64 p ∧ jv = .int .i64 q ∧ Below w.heap.size w wr ∧ Hid (∀ k (h : k < L.length), k < p → L[k] < x) ∧ Hid (∀ k (h : k < L.length), q ≤ k → x ≤ L[k])) (fun iv jv _ => (intOf jv).toNat - (intOf iv).toNat)
  case atStart => exact ⟨0, L.length, by omega, by omega, rfl, rfl, Below.refl _ _, fun k h hk => by omega, fun k h hk => by omega⟩
  case round =>
    obtain ⟨p, q, hpq, hq, rfl, rfl, hB, H1, H2⟩ := hrel
    by_cases hlt : p < q
    · have d1 : decide ((p : Int) < (q : Int)) = true := decide_eq_true (by omega)
      have d1' : decide (p < q) = true := decide_eq_true hlt
      obtain ⟨m, hm⟩ : ∃ m, m = (p + q) / 2 := ⟨_, rfl⟩
      have hm1 : p ≤ m ∧ m < q := by omega
      have hti : ((p : Int) + (q : Int)) / 2 = (m : Int) := by omega
      clear hm
      go_wp2_with fail
      refine (less_any a c L x m b1 b2 wr (hx.below hB) (by omega) ((hB.cell (p := ⟨b1, 0, none⟩) hB1).trans h1) ((hB.cell (p := ⟨b2, 0, none⟩) hB2).trans h2)).mono ?_
      rintro e w1 ⟨rfl, hb1⟩
      have hml : m < L.length := by omega
      by_cases hle : x ≤ L[m]
      · have H3 : Hid (∀ k (h : k < L.length), m ≤ k → x ≤ L[k]) := by
          intro k h hk
          rcases Nat.lt_or_ge m k with h3 | h3
          · have := sorted_at HS.out h3 h; omega
          · obtain rfl : m = k := by omega
            exact hle
        rw [decide_eq_true hle]
        clear hle
        go_wp2_with fail
        go_roundw
        case rel => exact ⟨p, m, by omega, by omega, rfl, rfl, hB.trans (hb1.mono hB.size), H1, H3⟩
        case measure => simp [intOf]; omega
      · have H3 : Hid (∀ k (h : k < L.length), k < m + 1 → L[k] < x) := by
          intro k h hk
          rcases Nat.lt_or_ge k m with h3 | h3
          · have := sorted_at HS.out h3 hml; omega
          · obtain rfl : k = m := by omega
            omega
        rw [decide_eq_false hle]
        clear hle
        go_wp2_with fail
        go_roundw
        case rel => exact ⟨m + 1, q, by omega, by omega, by go_num, rfl, hB.trans (hb1.mono hB.size), H3, H2⟩
        case measure => simp [intOf]; omega
    · obtain rfl : p = q := by omega
      have hfin := count_part hq H1.out H2.out
      have HF := Lib.hid hfin
      clear hfin
      go_wp2_with fail
      go_ret
      exact ⟨ret_int (by rw [HF.out]), hB⟩
theorem searchInts_any (a : Option Addr) (c : Nat) (L : List Nat) (x : Nat) (w : World) (hx : SliceAt w a c (L.map natV)) (hs : L.Pairwise (· < ·)) (hlen : L.length ≤ 1099511627777) :
    Calls Try.prog 51 #[.slice a L.length c, .int .i64 x] w fun e w' => e = .returned (.int .i64 (L.countP (fun y => decide (y < x)))) ∧ Below w.heap.size w w' := by
  have hB : Below w.heap.size w ((w.alloc (.cells #[.slice a L.length c] 23)).alloc (.cells #[.int .i64 x] 3)) := ((Below.refl _ w).alloc (Nat.le_refl _) _).alloc (by simp) _
  go_enter Try.func51, Try.ntmps51
  go_wp2_with fail
  have h1 : ((w.alloc (.cells #[.slice a L.length c] 23)).alloc (.cells #[.int .i64 x] 3)).cell? ⟨w.heap.size, 0, none⟩ = some (.slice a L.length c) :=
    Below.kept ((Below.refl _ _).alloc (Nat.le_refl _) _) (Nat.le_refl _) (by rw [cell_of_row _ w.heap.size 0 _ _ (0, 0) (heap_alloc_new w _)]; rfl)
  have h2 : ((w.alloc (.cells #[.slice a L.length c] 23)).alloc (.cells #[.int .i64 x] 3)).cell? ⟨w.heap.size + 1, 0, none⟩ = some (.int .i64 x) := by
    have e : (w.alloc (.cells #[.slice a L.length c] 23)).heap.size = w.heap.size + 1 := World.size_alloc _ _
    rw [cell_of_row _ (w.heap.size + 1) 0 _ _ (0, 0) (by rw [← e]; exact heap_alloc_new _ _)]
    rfl
  refine (search_any a c L x _ _ _ (hx.below hB) hs hlen h1 h2).mono ?_
  rintro e w1 ⟨rfl, hb1⟩
  go_wp2_with fail
  go_ret
  exact ⟨rfl, Below.step hB hb1⟩
end Go.Proofs.Ytpncjgcdiomloaa
