/-
  The contract of slices.Clone at bytes.
-/
import Derived.Test.YtaonhmdifinadaaRefA
import Derived.Test.YtaonhmdifinadaaLab
import Derived.Deep.RegionHeld3
import Derived.Deep.RegionLaw
import Derived.Lib.SliceRun
namespace Go.Proofs.Ytaonhmdifinadaa
open Go Go.Proofs
open Go.RowKit
set_option linter.unusedVariables false

set_option maxRecDepth 100000 in
set_option maxHeartbeats 1000000 in
theorem clone_any (a : Option Addr) (c : Nat) (xs : List UInt8) (w : World) (hx : SliceAt w a c (xs.map byteV)) (hl : xs.length ≤ 70368744177664) :
    Calls Try.prog 87 #[.slice a xs.length c] w fun e w' => ∃ v, e = .returned v ∧ w'.ownsRow w.heap.size 5 1 v xs.length (xs.map byteV) ∧ Below w.heap.size w w' := by
  have hle := hx.le
  cases a with
  | none =>
    have hc : c = 0 := hx.2.2.1 rfl
    subst hc
    obtain rfl : xs = [] := List.eq_nil_of_length_eq_zero (by simpa using hle)
    clear hx hle
    have q := fun wx => Lib.run_eql_slice_nil (P := Try.prog) wx 78 5 none 0 0 0 0 Try.underlying78
    go_enter Try.func87, Try.ntmps87
    go_wp2
    go_ret
    exact ⟨_, rfl, World.ownsRow_nil _ _ _ _, Below.refl _ _⟩
  | some ad =>
    have hrow := hx.rowMap
    clear hx hle
    obtain ⟨vs, hvs⟩ : ∃ vs, xs.map byteV = vs := ⟨_, rfl⟩
    have h1 : ∀ u ∈ vs, u.oneCell' = true := by rw [← hvs]; exact oneCell_map (fun _ => rfl) xs
    rw [hvs] at hrow ⊢
    clear hvs
    generalize xs.length = n at *
    have q := fun wx => Lib.run_eql_slice_nil (P := Try.prog) wx 78 5 (some ad) n c 0 0 Try.underlying78
    have hown : (w.alloc (.cells #[] 5)).ownsRow w.heap.size 5 1 (.slice (some ⟨w.heap.size, 0, none⟩) 0 0) 0 [] := World.ownsRow_lit w #[] 0 (Nat.le_refl _) (by decide) rfl
    go_enter Try.func87, Try.ntmps87
    go_wp2_with (at_builtin; refine wpList_append_src _ rfl _ _ 78 rfl elemB w.heap.size _ 0 _ rfl hown (some ad) n c vs rfl (hrow.below ((Below.refl _ w).alloc (Nat.le_refl _) _)) h1 (by omega) (by omega) (by simp) ?_)
    intro v' w' hown' hbel' hgrow
    go_wp2
    go_ret
    refine ⟨_, rfl, by simpa using hown', ((Below.refl _ w).alloc (Nat.le_refl _) _).trans hbel'⟩
theorem RowL.cellsOf {w : World} {o : Nat → Nat} {l : Nat} {e : TypeId} {g n cap : Nat} {xs : List Value} (h : RowL w o l e 1 (.slice (some ⟨g, 0, none⟩) n cap) n xs) :
    xs.length = n ∧ n ≤ cap ∧ cap ≤ 9223372036854775807 ∧ o g = l ∧ ∃ cur : Array Value, w.heap[g]? = some (.cells cur e (0, 0)) ∧ cur.size = cap ∧ (∀ j, j < n → cur[j]? = xs[j]?) := by
  obtain ⟨⟨hl, h2⟩, ho⟩ := h
  rcases h2 with ⟨he, _⟩ | ⟨g', cap', cur, hv, hg, hgg, hc, hm, hs, ht⟩
  · simp at he
  · simp only [Value.slice.injEq, Option.some.injEq, Addr.mk.injEq, and_true, true_and] at hv
    obtain ⟨rfl, rfl⟩ := hv
    refine ⟨by omega, hc, hm, ho g rfl, cur, hgg, by omega, fun j hj => ?_⟩
    rw [Nat.mul_one] at ht
    rw [← ht, List.getElem?_take, if_pos hj, Array.getElem?_toList]

/-- A row of some cells, with its address. -/
theorem RowL.cells {w : World} {o : Nat → Nat} {i : Nat} {e : TypeId} {size : Nat} {v : Value} {n : Nat} {xs : List Value} (h : RowL w o i e size v n xs) :
    ∃ a c, v = .slice a n c ∧ n ≤ c ∧ c ≤ 9223372036854775807 ∧ xs.length = n * size ∧ (0 < n → ∃ g, a = some ⟨g, 0, none⟩ ∧ o g = i ∧ g < w.heap.size ∧ (∀ j v, xs[j]? = some v → w.cell? ⟨g, j, none⟩ = some v) ∧ ∀ j, w.frozen? ⟨g, j, none⟩ = false) := by
  obtain ⟨⟨hl, h2⟩, ho⟩ := h
  rcases h2 with ⟨rfl, rfl⟩ | ⟨g, cap, cur, rfl, hg, hgg, hc, hm, hs, ht⟩
  · exact ⟨_, _, rfl, Nat.le_refl _, by omega, hl, fun h => by omega⟩
  · refine ⟨_, _, rfl, hc, by simpa [maxLen] using hm, hl, fun _ => ⟨g, rfl, ho g rfl, lt_of_block hgg, fun j v hj => ?_, fun j => by simp [World.frozen?, hgg]⟩⟩
    rw [cell_of_row w g j cur e (0, 0) hgg]
    have hlt := (List.getElem?_eq_some_iff.1 hj).1
    have e2 : (List.take (n * size) cur.toList)[j]? = some v := by rw [ht]; exact hj
    rw [List.getElem?_take, if_pos (by omega)] at e2
    simpa using e2
end Go.Proofs.Ytaonhmdifinadaa
