/-
  Contracts of sort.SearchInts at rows of offsets.
-/
import Derived.Test.YtclamcaanoieiaaPosC
namespace Go.Proofs.Ytclamcaanoieiaa
open Go Go.Proofs
open Go.RowKit
set_option linter.unusedVariables false
set_option linter.unusedSimpArgs false

theorem linesFrom_sorted (l : List UInt8) (i : Nat) : (linesFrom l i).Pairwise (· < ·) := by
  induction l generalizing i with
  | nil => simp [linesFrom]
  | cons c cs ih =>
    rw [linesFrom_cons]
    split
    · rw [List.pairwise_cons]
      refine ⟨fun x hx => ?_, ih _⟩
      have := linesFrom_gt hx
      omega
    · exact ih _
theorem linesL_sorted (l : List UInt8) : (linesL l).Pairwise (· < ·) := by
  unfold linesL
  rw [List.pairwise_cons]
  refine ⟨fun x hx => ?_, linesFrom_sorted _ _⟩
  have := linesFrom_gt hx
  omega
theorem sorted_at {L : List Nat} (h : L.Pairwise (· < ·)) {i j : Nat} (hij : i < j) (hj : j < L.length) : L[i]'(by omega) < L[j] :=
  List.pairwise_iff_getElem.1 h i j (by omega) hj hij
theorem count_part {L : List Nat} {x p : Nat} (hp : p ≤ L.length) (h1 : ∀ k (h : k < L.length), k < p → L[k] < x) (h2 : ∀ k (h : k < L.length), p ≤ k → x ≤ L[k]) : L.countP (fun y => decide (y < x)) = p := by
  have e : L = L.take p ++ L.drop p := (List.take_append_drop _ _).symm
  rw [e, List.countP_append]
  have c1 : (L.take p).countP (fun y => decide (y < x)) = (L.take p).length := by
    rw [List.countP_eq_length]
    intro y hy
    obtain ⟨k, hk, rfl⟩ := List.getElem_of_mem hy
    rw [List.length_take] at hk
    rw [List.getElem_take]
    exact decide_eq_true (h1 k (by omega) (by omega))
  have c2 : (L.drop p).countP (fun y => decide (y < x)) = 0 := by
    rw [List.countP_eq_zero]
    intro y hy
    obtain ⟨k, hk, rfl⟩ := List.getElem_of_mem hy
    rw [List.length_drop] at hk
    rw [List.getElem_drop]
    have := h2 (p + k) (by omega) (by omega)
    simp
    omega
  rw [c1, c2, List.length_take]
  omega
theorem SliceAt.natV {w : World} {cap b off : Nat} {zs : List Nat} (h : SliceAt w (some ⟨b, off, none⟩) cap (zs.map natV)) {i : Nat} (hi : i < zs.length) : w.cell? ⟨b, off + i, none⟩ = some (.int .i64 zs[i]) :=
  h.cell (by simp [hi]; rfl)

theorem less_any (a : Option Addr) (c : Nat) (L : List Nat) (x i b1 b2 : Nat) (w : World) (hx : SliceAt w a c (L.map natV)) (hi : i < L.length)
    (h1 : w.cell? ⟨b1, 0, none⟩ = some (.slice a L.length c)) (h2 : w.cell? ⟨b2, 0, none⟩ = some (.int .i64 x)) :
    Calls Try.prog 54 #[.int .i64 i, .pointer (some ⟨b1, 0, none⟩), .pointer (some ⟨b2, 0, none⟩)] w fun e w' => e = .returned (.bool (decide (x ≤ L[i]))) ∧ Below w.heap.size w w' := by
  have hl := hx.len
  simp only [List.length_map] at hl
  obtain ⟨b, off, rfl⟩ := hx.addr (by simp; omega)
  have f1 := hx.natV hi
  generalize L[i] = y at *
  go_enter Try.func54, Try.ntmps54
  go_wp2_with fail
  go_quiet (fail)
  go_wp2_with fail
  go_ret
  exact ⟨rfl, Below.drewN _⟩
theorem search_any (a : Option Addr) (c : Nat) (L : List Nat) (x b1 b2 : Nat) (w : World) (hx : SliceAt w a c (L.map natV)) (hs : L.Pairwise (· < ·)) (hlen : L.length ≤ 1099511627777)
    (h1 : w.cell? ⟨b1, 0, none⟩ = some (.slice a L.length c)) (h2 : w.cell? ⟨b2, 0, none⟩ = some (.int .i64 x)) :
    Calls Try.prog 53 #[.int .i64 L.length, .func (.func 54) #[] #[.pointer (some ⟨b1, 0, none⟩), .pointer (some ⟨b2, 0, none⟩)]] w fun e w' => e = .returned (.int .i64 (L.countP (fun y => decide (y < x)))) ∧ Below w.heap.size w w' := by
  have HS := Lib.hid hs
  clear hs
  have hB1 := World.block_lt_of_cell? w _ h1
  have hB2 := World.block_lt_of_cell? w _ h2
  go_enter Try.func53, Try.ntmps53
  go_wp2_with fail
  go_loopw [5, 6] (fun iv jv wr => ∃ p q : Nat, p ≤ q ∧ q ≤ L.length ∧ iv = .int .i64 p ∧ jv = .int .i64 q ∧ Below w.heap.size w wr ∧ Hid (∀ k (h : k < L.length), k < p → L[k] < x) ∧ Hid (∀ k (h : k < L.length), q ≤ k → x ≤ L[k])) (fun iv jv _ => (intOf jv).toNat - (intOf iv).toNat)
  case atStart => exact ⟨0, L.length, by omega, by omega, rfl, rfl, Below.refl _ _, fun k h hk => by omega, fun k h hk => by omega⟩
  case round =>
    obtain ⟨p, q, hpq, hq, rfl, rfl, hB, H1, H2⟩ := hrel
    by_cases hlt : p < q
    · have d1 : decide ((p : Int) < (q : Int)) = true := decide_eq_true (by omega)
      have d1' : decide (p < q) = true := decide_eq_true hlt
      obtain ⟨m, hm⟩ : ∃ m, m = (p + q) / 2 := ⟨_, rfl⟩
      have hm1 : p ≤ m ∧ m < q := by omega
      have hti : ((p : Int) + (q : Int)) / 2 = (m : Int) := by omega
      clear hm
      go_wp2_with fail
      refine (less_any a c L x m b1 b2 wr (hx.below hB) (by omega) ((hB.cell (p := ⟨b1, 0, none⟩) hB1).trans h1) ((hB.cell (p := ⟨b2, 0, none⟩) hB2).trans h2)).mono ?_
      rintro e w1 ⟨rfl, hb1⟩
      have hml : m < L.length := by omega
      by_cases hle : x ≤ L[m]
      · have H3 : Hid (∀ k (h : k < L.length), m ≤ k → x ≤ L[k]) := by
          intro k h hk
          rcases Nat.lt_or_ge m k with h3 | h3
          · have := sorted_at HS.out h3 h; omega
          · obtain rfl : m = k := by omega
            exact hle
        rw [decide_eq_true hle]
        clear hle
        go_wp2_with fail
        go_roundw
        case rel => exact ⟨p, m, by omega, by omega, rfl, rfl, hB.trans (hb1.mono hB.size), H1, H3⟩
        case measure => simp [intOf]; omega
      · have H3 : Hid (∀ k (h : k < L.length), k < m + 1 → L[k] < x) := by
          intro k h hk
          rcases Nat.lt_or_ge k m with h3 | h3
          · have := sorted_at HS.out h3 hml; omega
          · obtain rfl : k = m := by omega
            omega
        rw [decide_eq_false hle]
        clear hle
        go_wp2_with fail
        go_roundw
        case rel => exact ⟨m + 1, q, by omega, by omega, by go_num, rfl, hB.trans (hb1.mono hB.size), H3, H2⟩
        case measure => simp [intOf]; omega
    · obtain rfl : p = q := by omega
      have hfin := count_part hq H1.out H2.out
      have HF := Lib.hid hfin
      clear hfin
      go_wp2_with fail
      go_ret
      exact ⟨ret_int (by rw [HF.out]), hB⟩
theorem searchInts_any (a : Option Addr) (c : Nat) (L : List Nat) (x : Nat) (w : World) (hx : SliceAt w a c (L.map natV)) (hs : L.Pairwise (· < ·)) (hlen : L.length ≤ 1099511627777) :
    Calls Try.prog 39 #[.slice a L.length c, .int .i64 x] w fun e w' => e = .returned (.int .i64 (L.countP (fun y => decide (y < x)))) ∧ Below w.heap.size w w' := by
  have hB : Below w.heap.size w ((w.alloc (.cells #[.slice a L.length c] 22)).alloc (.cells #[.int .i64 x] 3)) := ((Below.refl _ w).alloc (Nat.le_refl _) _).alloc (by simp) _
  go_enter Try.func39, Try.ntmps39
  go_wp2_with fail
  have h1 : ((w.alloc (.cells #[.slice a L.length c] 22)).alloc (.cells #[.int .i64 x] 3)).cell? ⟨w.heap.size, 0, none⟩ = some (.slice a L.length c) :=
    Below.kept ((Below.refl _ _).alloc (Nat.le_refl _) _) (Nat.le_refl _) (by rw [cell_of_row _ w.heap.size 0 _ _ (0, 0) (heap_alloc_new w _)]; rfl)
  have h2 : ((w.alloc (.cells #[.slice a L.length c] 22)).alloc (.cells #[.int .i64 x] 3)).cell? ⟨w.heap.size + 1, 0, none⟩ = some (.int .i64 x) := by
    have e : (w.alloc (.cells #[.slice a L.length c] 22)).heap.size = w.heap.size + 1 := World.size_alloc _ _
    rw [cell_of_row _ (w.heap.size + 1) 0 _ _ (0, 0) (by rw [← e]; exact heap_alloc_new _ _)]
    rfl
  refine (search_any a c L x _ _ _ (hx.below hB) hs hlen h1 h2).mono ?_
  rintro e w1 ⟨rfl, hb1⟩
  go_wp2_with fail
  go_ret
  exact ⟨rfl, Below.step hB hb1⟩
end Go.Proofs.Ytclamcaanoieiaa
