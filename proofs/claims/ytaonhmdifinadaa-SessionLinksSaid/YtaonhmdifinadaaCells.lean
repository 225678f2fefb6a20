/-
  Cells set one after the other in a row's block; one record cut out of a row.
-/
import Derived.Test.YtaonhmdifinadaaLab
import Derived.Test.YtaonhmdifinadaaRec
import Derived.Deep.RegionLaw
import Derived.Lib.SliceRun
namespace Go.Proofs.Ytaonhmdifinadaa
open Go Go.Proofs
open Go.RowKit
set_option linter.unusedVariables false
set_option linter.unusedSimpArgs false

/-! ### Cells set one after the other in a row's block -/
def overw (cur : Array Value) : Nat → List Value → Array Value
  | _, [] => cur
  | o, v :: r => overw (cur.setIfInBounds o v) (o + 1) r
theorem overw_size : ∀ (vs : List Value) (cur : Array Value) (o : Nat), (overw cur o vs).size = cur.size
  | [], _, _ => rfl
  | v :: r, cur, o => by rw [overw, overw_size r]; simp
theorem overw_get : ∀ (vs : List Value) (cur : Array Value) (o j : Nat), (overw cur o vs)[j]? = if o ≤ j ∧ j < o + vs.length ∧ j < cur.size then vs[j - o]? else cur[j]?
  | [], cur, o, j => by rw [if_neg (by simp; omega)]; rfl
  | v :: r, cur, o, j => by
    rw [overw, overw_get r]
    simp only [Array.size_setIfInBounds, List.length_cons, Array.getElem?_setIfInBounds]
    by_cases h1 : j = o
    · subst h1
      rw [if_neg (show ¬ (j + 1 ≤ j ∧ j < j + 1 + r.length ∧ j < cur.size) by omega), if_pos rfl]
      by_cases h2 : j < cur.size
      · rw [if_pos h2, if_pos (show j ≤ j ∧ j < j + (r.length + 1) ∧ j < cur.size from ⟨by omega, by omega, h2⟩)]; simp
      · rw [if_neg h2, if_neg (show ¬ (j ≤ j ∧ j < j + (r.length + 1) ∧ j < cur.size) by omega), Array.getElem?_eq_none (by omega)]
    · rw [if_neg (c := o = j) (fun e => h1 e.symm)]
      by_cases h3 : o ≤ j ∧ j < o + (r.length + 1) ∧ j < cur.size
      · rw [if_pos h3, if_pos (by omega)]
        rw [show j - o = (j - (o + 1)) + 1 by omega]
        simp
      · rw [if_neg h3, if_neg (by omega)]
theorem setCells_block (g : Nat) (t : TypeId) (fr : Nat × Nat) : ∀ (vs : List Value) (o : Nat) (cur : Array Value) (w : World), w.heap[g]? = some (.cells cur t fr) → (w.setCells g o vs).heap[g]? = some (.cells (overw cur o vs) t fr)
  | [], _, _, _, h => h
  | v :: r, o, cur, w, h => by
    rw [World.setCells, overw]
    refine setCells_block g t fr r (o + 1) _ _ ?_
    have hlt := lt_of_block h
    have hh : w.heap[g] = .cells cur t fr := by simpa [Array.getElem?_eq_getElem hlt] using h
    show (w.heap.modify g _)[g]? = _
    rw [Array.getElem?_eq_getElem (by simpa using hlt), Array.getElem_modify_self, hh]
    rfl
theorem setCells_other (g : Nat) : ∀ (vs : List Value) (o : Nat) (w : World) (k : Nat), k ≠ g → (w.setCells g o vs).heap[k]? = w.heap[k]?
  | [], _, _, _, _ => rfl
  | v :: r, o, w, k, h => by
    rw [World.setCells, setCells_other g r _ _ k h]
    exact Below.heap_setCell _ _ _ _ h
theorem setCells_rest (g : Nat) : ∀ (vs : List Value) (o : Nat) (w : World), (w.setCells g o vs).os = w.os ∧ (w.setCells g o vs).tape = w.tape ∧ (w.setCells g o vs).output = w.output ∧ (w.setCells g o vs).heap.size = w.heap.size
  | [], _, _ => ⟨rfl, rfl, rfl, rfl⟩
  | v :: r, o, w => by
    rw [World.setCells]
    obtain ⟨h1, h2, h3, h4⟩ := setCells_rest g r (o + 1) (w.setCell ⟨g, o, none⟩ v)
    exact ⟨h1, h2, h3, h4.trans (by simp [World.setCell])⟩
theorem Step.setCells {L : Nat → Prop} {w w' : World} {o o' : Nat → Nat} (h : Step L w o w' o') {g : Nat} (hg : L (o' g)) (off : Nat) (vs : List Value) : Step L w o (w'.setCells g off vs) o' := by
  obtain ⟨h1, h2, h3, h4⟩ := setCells_rest g vs off w'
  exact h.trans ⟨h1, h2, h3, by omega, fun k _ hl => setCells_other g vs off w' k (fun e => hl (by rw [e]; exact hg)), fun _ _ => rfl⟩

/-- One record is cut out: the row's block is overwritten. -/
theorem RowL.cut {w : World} {o : Nat → Nat} {l : Nat} {e : TypeId} {g n cap z : Nat} {xs : List Value} (h : RowL w o l e z (.slice (some ⟨g, 0, none⟩) n cap) n xs) (i : Nat) (hi : i < n) (zs : List Value) (hzs : zs.length = z) :
    RowL ((w.drew.setCells g (i * z) (xs.drop ((i + 1) * z))).setCells g ((n - 1) * z) zs) o l e z (.slice (some ⟨g, 0, none⟩) (n - 1) cap) (n - 1) (xs.take (i * z) ++ xs.drop ((i + 1) * z)) := by
  obtain ⟨⟨hl, h2⟩, ho⟩ := h
  obtain ⟨m, rfl⟩ : ∃ m, n = i + 1 + m := ⟨n - (i + 1), by omega⟩
  have e1 : (i + 1 + m) * z = i * z + z + m * z := by rw [Nat.add_mul, Nat.add_mul, Nat.one_mul]
  have e2 : (i + 1) * z = i * z + z := by rw [Nat.add_mul, Nat.one_mul]
  have e3 : (i + 1 + m - 1) * z = i * z + m * z := by rw [show i + 1 + m - 1 = i + m by omega, Nat.add_mul]
  rw [e2, e3]
  rw [e1] at hl h2
  refine ⟨⟨by rw [List.length_append, List.length_take, List.length_drop, e3]; omega, ?_⟩, fun j hj => ho j hj⟩
  rcases h2 with ⟨he, _⟩ | ⟨g', cap', cur, hv, hg, hgg, hc, hm, hs, ht⟩
  · simp at he
  · simp only [Value.slice.injEq, Option.some.injEq, Addr.mk.injEq, and_true, true_and] at hv
    obtain ⟨rfl, rfl⟩ := hv
    have hcz : (i + 1 + m) * z ≤ cap * z := Nat.mul_le_mul_right _ hc
    rw [e1] at hcz
    refine .inr ⟨g, cap, overw (overw cur (i * z) (xs.drop (i * z + z))) (i * z + m * z) zs, rfl, hg, ?_, by omega, hm, by rw [overw_size, overw_size]; exact hs, ?_⟩
    · exact setCells_block g e _ _ _ _ _ (setCells_block g e _ _ _ _ _ hgg)
    · apply List.ext_getElem?
      intro j
      rw [e3, List.getElem?_take]
      have hd : (xs.drop (i * z + z)).length = m * z := by simp; omega
      have htl : (xs.take (i * z)).length = i * z := by simp; omega
      by_cases hj : j < i * z + m * z
      · rw [if_pos hj, Array.getElem?_toList, overw_get, if_neg (by omega), overw_get]
        by_cases hj2 : i * z ≤ j
        · rw [if_pos ⟨hj2, by omega, by omega⟩, List.getElem?_append_right (by omega), htl]
        · rw [if_neg (by omega), List.getElem?_append_left (by omega), List.getElem?_take, if_pos (by omega)]
          have := congrArg (fun l => l[j]?) ht
          simp only [List.getElem?_take] at this
          rw [if_pos (by omega), Array.getElem?_toList] at this
          exact this
      · rw [if_neg hj, List.getElem?_eq_none (by simp; omega)]

/-- 'clear(s)', one element of some cells. -/
theorem run_clear_one {P : Program} (w : World) (t e ty : TypeId) (z : Value) (ht : P.underlying t = some (.slice e)) (hv : ∀ w, (zeroValue e).run P w = .ok z w) (h1 : ∀ u ∈ z.cells.toList, u.oneCell' = true) (b o c : Nat)
    (hc : ∀ j, j < z.cells.toList.length → (w.cell? ⟨b, o + j, none⟩).isSome = true) (hf : ∀ j, j < z.cells.toList.length → w.frozen? ⟨b, o + j, none⟩ = false) :
    (Builtin.clear_ #[t] ty #[.slice (some ⟨b, o, none⟩) 1 c]).run P w = .ok (.tuple #[]) (w.setCells b o z.cells.toList) := by
  have hzc : (Builtin.zeroCells z.cells 1).toList = z.cells.toList := by
    simp [Builtin.zeroCells]
    apply List.ext_getElem
    · simp
    · intro i h1 h2
      have h2' : i < z.cells.size := by simpa using h2
      simp [Nat.mod_eq_of_lt h2', h2']
  have hst := run_storeCells_cells (P := P) b o z.cells.toList 0 w (by simpa using hc) (by simpa using hf) h1
  simp only [Nat.add_zero] at hst
  simp [Builtin.clear_, run_underlying ht, hv, hzc, hst]

/-- The labels of object i. -/
def Own (i : Nat) : Nat → Prop := fun l => 10 * i ≤ l ∧ l < 10 * i + 10
theorem Own.not {i j l : Nat} (h : i ≠ j) (hl : Own j l) : ¬ Own i l := by unfold Own at *; omega
theorem Own.not0 {i : Nat} (h : 1 ≤ i) : ¬ Own i 0 := by unfold Own; omega
theorem Own.at0 (i : Nat) : Own i (10 * i) := by unfold Own; omega
theorem Own.at1 (i : Nat) : Own i (10 * i + 1) := by unfold Own; omega
theorem Own.at2 (i : Nat) : Own i (10 * i + 2) := by unfold Own; omega

/-! ### Records that an object owns -/
section
variable {α : Type} {f : α → List Value} {z : Nat} {e : TypeId} {w w' : World} {o o' : Nat → Nat} {l : Nat} {v : Value} {xs : List α} {L : Nat → Prop}
def RecL (f : α → List Value) (z : Nat) (e : TypeId) (w : World) (o : Nat → Nat) (l : Nat) (v : Value) (xs : List α) : Prop := RowL w o l e z v xs.length (xs.flatMap f)
theorem RecL.step (h : RecL f z e w o l v xs) (hs : Step L w o w' o') (hl : ¬ L l) : RecL f z e w' o' l v xs := RowL.step h hs hl
theorem RecL.nil (w : World) (o : Nat → Nat) (l : Nat) : RecL f z e w o l (.slice none 0 0) ([] : List α) := RowL.nil _ _ _ _ _
theorem RecL.at (h : RecL f z e w o l v xs) : ∃ a cap, v = .slice a xs.length cap ∧ RecAt f z w a cap xs := by
  obtain ⟨a, cap, hv, hr⟩ := ownsRow_row h.1
  exact ⟨a, cap, hv, hr⟩
theorem RecL.form (h : RecL f z e w o l v xs) : ∃ a c, v = .slice a xs.length c := RowL.form h
theorem RecL.snoc {x : α} (h : RowL w o l e z v (xs.length + 1) (xs.flatMap f ++ f x)) : RecL f z e w o l v (xs ++ [x]) := by
  unfold RecL
  rw [rec_app, List.length_append]
  simpa using h
theorem RecL.new (h : OwnRec f z e w' w.heap.size v xs) : RecL f z e w' (newLab w o l) l v xs := RowL.new h
/-- A row of at least one record has a block of its own. -/
theorem RecL.own (h : RecL f z e w o l v xs) (hp : 0 < xs.length) : ∃ g c, v = .slice (some ⟨g, 0, none⟩) xs.length c ∧ o g = l ∧ g < w.heap.size := by
  obtain ⟨⟨hl, h2⟩, ho⟩ := h
  rcases h2 with ⟨rfl, h0⟩ | ⟨g, cap, cur, rfl, hg, hgg, rest⟩
  · omega
  · exact ⟨g, cap, rfl, ho g rfl, lt_of_block hgg⟩
theorem RecL.blk {g n c : Nat} (h : RecL f z e w o l (.slice (some ⟨g, 0, none⟩) n c) xs) : n = xs.length ∧ ∃ cur : Array Value, w.heap[g]? = some (.cells cur e (0, 0)) ∧ o g = l ∧ n ≤ c ∧ c ≤ 9223372036854775807 ∧ cur.size = c * z ∧ ∀ (j : Nat) (u : Value), (xs.flatMap f)[j]? = some u → cur[j]? = some u := by
  obtain ⟨⟨hl, h2⟩, ho⟩ := h
  rcases h2 with ⟨he, _⟩ | ⟨g', cap', cur, hv, hg, hgg, hc, hm, hs, ht⟩
  · simp at he
  · simp only [Value.slice.injEq, Option.some.injEq, Addr.mk.injEq, and_true, true_and] at hv
    obtain ⟨rfl, rfl, rfl⟩ := hv
    refine ⟨rfl, cur, hgg, ho g rfl, hc, by simpa [maxLen] using hm, hs, fun j v hj => ?_⟩
    have hlt := (List.getElem?_eq_some_iff.1 hj).1
    rw [← ht, List.getElem?_take] at hj
    split at hj
    · simpa using hj
    · cases hj
theorem rec_erase (hz : ∀ x, (f x).length = z) (xs : List α) (i : Nat) : (xs.eraseIdx i).flatMap f = (xs.flatMap f).take (i * z) ++ (xs.flatMap f).drop ((i + 1) * z) := by
  rw [List.eraseIdx_eq_take_drop_succ, rec_app, rec_take hz, rec_drop hz]
end
end Go.Proofs.Ytaonhmdifinadaa
