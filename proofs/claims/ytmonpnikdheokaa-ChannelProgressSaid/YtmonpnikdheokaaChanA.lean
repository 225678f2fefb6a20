/-
  Contracts of package slices at this program's types: Clone of bytes, Delete of the first messages.
-/
import Derived.Test.YtmonpnikdheokaaRefA
import Derived.Test.YtmonpnikdheokaaMaps
import Derived.Deep.RegionHeld3
import Derived.Deep.RegionLaw
import Derived.Lib.SliceRun
namespace Go.Proofs.Ytmonpnikdheokaa
open Go Go.Proofs
open Go.RowKit
set_option linter.unusedVariables false

set_option maxRecDepth 100000 in
set_option maxHeartbeats 1000000 in
theorem clone_any (a : Option Addr) (c : Nat) (xs : List UInt8) (w : World) (hx : SliceAt w a c (xs.map byteV)) (hl : xs.length ≤ 70368744177664) :
    Calls Try.prog 52 #[.slice a xs.length c] w fun e w' => ∃ v, e = .returned v ∧ w'.ownsRow w.heap.size 5 1 v xs.length (xs.map byteV) ∧ Below w.heap.size w w' := by
  have hle := hx.le
  cases a with
  | none =>
    have hc : c = 0 := hx.2.2.1 rfl
    subst hc
    obtain rfl : xs = [] := List.eq_nil_of_length_eq_zero (by simpa using hle)
    clear hx hle
    have q := fun wx => Lib.run_eql_slice_nil (P := Try.prog) wx 31 5 none 0 0 0 0 Try.underlying31
    go_enter Try.func52, Try.ntmps52
    go_wp2
    go_ret
    exact ⟨_, rfl, World.ownsRow_nil _ _ _ _, Below.refl _ _⟩
  | some ad =>
    have hrow := hx.rowMap
    clear hx hle
    obtain ⟨vs, hvs⟩ : ∃ vs, xs.map byteV = vs := ⟨_, rfl⟩
    have h1 : ∀ u ∈ vs, u.oneCell' = true := by rw [← hvs]; exact oneCell_map (fun _ => rfl) xs
    rw [hvs] at hrow ⊢
    clear hvs
    generalize xs.length = n at *
    have q := fun wx => Lib.run_eql_slice_nil (P := Try.prog) wx 31 5 (some ad) n c 0 0 Try.underlying31
    have hown : (w.alloc (.cells #[] 5)).ownsRow w.heap.size 5 1 (.slice (some ⟨w.heap.size, 0, none⟩) 0 0) 0 [] := World.ownsRow_lit w #[] 0 (Nat.le_refl _) (by decide) rfl
    go_enter Try.func52, Try.ntmps52
    go_wp2_with (at_builtin; refine wpList_append_src _ rfl _ _ 31 rfl elemB w.heap.size _ 0 _ rfl hown (some ad) n c vs rfl (hrow.below ((Below.refl _ w).alloc (Nat.le_refl _) _)) h1 (by omega) (by omega) (by simp) ?_)
    intro v' w' hown' hbel' hgrow
    go_wp2
    go_ret
    refine ⟨_, rfl, by simpa using hown', ((Below.refl _ w).alloc (Nat.le_refl _) _).trans hbel'⟩

/-! ### Cells set one after the other in a row's block -/
def overw (cur : Array Value) : Nat → List Value → Array Value
  | _, [] => cur
  | o, v :: r => overw (cur.setIfInBounds o v) (o + 1) r
theorem overw_size : ∀ (vs : List Value) (cur : Array Value) (o : Nat), (overw cur o vs).size = cur.size
  | [], _, _ => rfl
  | v :: r, cur, o => by rw [overw, overw_size r]; simp
theorem overw_get : ∀ (vs : List Value) (cur : Array Value) (o j : Nat), (overw cur o vs)[j]? = if o ≤ j ∧ j < o + vs.length ∧ j < cur.size then vs[j - o]? else cur[j]?
  | [], cur, o, j => by rw [if_neg (by simp; omega)]; rfl
  | v :: r, cur, o, j => by
    rw [overw, overw_get r]
    simp only [Array.size_setIfInBounds, List.length_cons, Array.getElem?_setIfInBounds]
    by_cases h1 : j = o
    · subst h1
      rw [if_neg (show ¬ (j + 1 ≤ j ∧ j < j + 1 + r.length ∧ j < cur.size) by omega), if_pos rfl]
      by_cases h2 : j < cur.size
      · rw [if_pos h2, if_pos (show j ≤ j ∧ j < j + (r.length + 1) ∧ j < cur.size from ⟨by omega, by omega, h2⟩)]; simp
      · rw [if_neg h2, if_neg (show ¬ (j ≤ j ∧ j < j + (r.length + 1) ∧ j < cur.size) by omega), Array.getElem?_eq_none (by omega)]
    · rw [if_neg (c := o = j) (fun e => h1 e.symm)]
      by_cases h3 : o ≤ j ∧ j < o + (r.length + 1) ∧ j < cur.size
      · rw [if_pos h3, if_pos (by omega)]
        rw [show j - o = (j - (o + 1)) + 1 by omega]
        simp
      · rw [if_neg h3, if_neg (by omega)]
theorem setCells_block (g : Nat) (t : TypeId) (fr : Nat × Nat) : ∀ (vs : List Value) (o : Nat) (cur : Array Value) (w : World), w.heap[g]? = some (.cells cur t fr) → (w.setCells g o vs).heap[g]? = some (.cells (overw cur o vs) t fr)
  | [], _, _, _, h => h
  | v :: r, o, cur, w, h => by
    rw [World.setCells, overw]
    refine setCells_block g t fr r (o + 1) _ _ ?_
    have hlt := lt_of_block h
    have hh : w.heap[g] = .cells cur t fr := by simpa [Array.getElem?_eq_getElem hlt] using h
    show (w.heap.modify g _)[g]? = _
    rw [Array.getElem?_eq_getElem (by simpa using hlt), Array.getElem_modify_self, hh]
    rfl
theorem setCells_other (g : Nat) : ∀ (vs : List Value) (o : Nat) (w : World) (k : Nat), k ≠ g → (w.setCells g o vs).heap[k]? = w.heap[k]?
  | [], _, _, _, _ => rfl
  | v :: r, o, w, k, h => by
    rw [World.setCells, setCells_other g r _ _ k h]
    exact Below.heap_setCell _ _ _ _ h
theorem setCells_rest (g : Nat) : ∀ (vs : List Value) (o : Nat) (w : World), (w.setCells g o vs).os = w.os ∧ (w.setCells g o vs).tape = w.tape ∧ (w.setCells g o vs).output = w.output ∧ (w.setCells g o vs).heap.size = w.heap.size
  | [], _, _ => ⟨rfl, rfl, rfl, rfl⟩
  | v :: r, o, w => by
    rw [World.setCells]
    obtain ⟨h1, h2, h3, h4⟩ := setCells_rest g r (o + 1) (w.setCell ⟨g, o, none⟩ v)
    exact ⟨h1, h2, h3, h4.trans (by simp [World.setCell])⟩
theorem Step.setCells {L : Nat → Prop} {w w' : World} {o o' : Nat → Nat} (h : Step L w o w' o') {g : Nat} (hg : L (o' g)) (off : Nat) (vs : List Value) : Step L w o (w'.setCells g off vs) o' := by
  obtain ⟨h1, h2, h3, h4⟩ := setCells_rest g vs off w'
  exact h.trans ⟨h1, h2, h3, by omega, fun k _ hl => setCells_other g vs off w' k (fun e => hl (by rw [e]; exact hg)), fun _ _ => rfl⟩

/-- Delete of the first k: the row's block is overwritten. -/
theorem RowL.deleted {w : World} {o : Nat → Nat} {l : Nat} {e : TypeId} {g n cap : Nat} {xs : List Value} {z : Value} (h : RowL w o l e 1 (.slice (some ⟨g, 0, none⟩) n cap) n xs) (k : Nat) (hk : k ≤ n) :
    RowL ((w.drew.setCells g 0 (xs.drop k)).setCells g (n - k) (List.replicate k z)) o l e 1 (.slice (some ⟨g, 0, none⟩) (n - k) cap) (n - k) (xs.drop k) := by
  obtain ⟨⟨hl, h2⟩, ho⟩ := h
  have hn : xs.length = n := by omega
  refine ⟨⟨by simp; omega, ?_⟩, fun j hj => ho j hj⟩
  rcases h2 with ⟨he, _⟩ | ⟨g', cap', cur, hv, hg, hgg, hc, hm, hs, ht⟩
  · simp at he
  · simp only [Value.slice.injEq, Option.some.injEq, Addr.mk.injEq, and_true, true_and] at hv
    obtain ⟨rfl, rfl⟩ := hv
    refine .inr ⟨g, cap, overw (overw cur 0 (xs.drop k)) (n - k) (List.replicate k z), rfl, hg, ?_, by omega, hm, by rw [overw_size, overw_size]; exact hs, ?_⟩
    · exact setCells_block g e _ _ _ _ _ (setCells_block g e _ _ _ _ _ hgg)
    · apply List.ext_getElem?
      intro j
      rw [Nat.mul_one, List.getElem?_take]
      by_cases hj : j < n - k
      · rw [if_pos hj, Array.getElem?_toList, overw_get, if_neg (by omega), overw_get, if_pos (by simp; omega)]
        simp
      · rw [if_neg hj, List.getElem?_eq_none (by simp; omega)]
theorem RowL.cellsOf {w : World} {o : Nat → Nat} {l : Nat} {e : TypeId} {g n cap : Nat} {xs : List Value} (h : RowL w o l e 1 (.slice (some ⟨g, 0, none⟩) n cap) n xs) :
    xs.length = n ∧ n ≤ cap ∧ cap ≤ 9223372036854775807 ∧ o g = l ∧ ∃ cur : Array Value, w.heap[g]? = some (.cells cur e (0, 0)) ∧ cur.size = cap ∧ (∀ j, j < n → cur[j]? = xs[j]?) := by
  obtain ⟨⟨hl, h2⟩, ho⟩ := h
  rcases h2 with ⟨he, _⟩ | ⟨g', cap', cur, hv, hg, hgg, hc, hm, hs, ht⟩
  · simp at he
  · simp only [Value.slice.injEq, Option.some.injEq, Addr.mk.injEq, and_true, true_and] at hv
    obtain ⟨rfl, rfl⟩ := hv
    refine ⟨by omega, hc, hm, ho g rfl, cur, hgg, by omega, fun j hj => ?_⟩
    rw [Nat.mul_one] at ht
    rw [← ht, List.getElem?_take, if_pos hj, Array.getElem?_toList]

theorem ElemT.zeroV {P : Program} {t e : TypeId} {z : Value} {size bytes : Nat} (E : ElemT P t e z size bytes) (w : World) : (zeroValue e).run P w = .ok z w := by
  obtain ⟨i, hi, hz, _⟩ := E.info
  simp [zeroValue, typeInfo, hi, hz]
theorem elemM : ElemT Try.prog 42 31 (.slice none 0 0) 1 24 := ⟨Try.underlying42, info_parts (by kernel_rfl), rfl, by decide⟩
set_option maxRecDepth 100000 in
set_option maxHeartbeats 4000000 in
theorem delete_any (g n cap k l : Nat) (xs : List Value) (w : World) (o : Nat → Nat) (hrow : RowL w o l 31 1 (.slice (some ⟨g, 0, none⟩) n cap) n xs) (hk0 : 0 < k) (hk : k ≤ n) (h1 : ∀ v ∈ xs, v.oneCell' = true) :
    Calls Try.prog 54 #[.slice (some ⟨g, 0, none⟩) n cap, .int .i64 0, .int .i64 k] w fun e w' => e = .returned (.slice (some ⟨g, 0, none⟩) (n - k : Nat) cap) ∧ RowL w' o l 31 1 (.slice (some ⟨g, 0, none⟩) (n - k) cap) (n - k) (xs.drop k) ∧ Step (· = l) w o w' o := by
  have hdel := hrow.deleted (z := .slice none 0 0) k hk
  have hstep : Step (· = l) w o ((w.drew.setCells g 0 (xs.drop k)).setCells g (n - k) (List.replicate k (.slice none 0 0))) o := by
    have hg := hrow.cellsOf.2.2.2.1
    exact ((Step.refl _ w o).drew.setCells hg _ _).setCells hg _ _
  obtain ⟨hxl, hnc, hcm, hog, cur, hcur, hcs, hcg⟩ := hrow.cellsOf
  obtain ⟨i0, hi0, hz0, hz1, hz2⟩ := elemM.info
  have hcell : ∀ j, j < n → w.cell? ⟨g, j, none⟩ = xs[j]? := fun j hj => by rw [cell_of_row w g j cur _ (0, 0) hcur]; exact hcg j hj
  have hfr : ∀ j, w.frozen? ⟨g, j, none⟩ = false := fun j => by simp [World.frozen?, hcur]
  obtain ⟨news, hnews⟩ : ∃ news, news = xs.drop k := ⟨_, rfl⟩
  have hlen : news.length = n - k := by rw [hnews]; simp; omega
  obtain ⟨A, hA, hsrc⟩ : ∃ A : Addr, (if cap = k then some (⟨g, 0, none⟩ : Addr) else some ⟨g, k, none⟩) = some A ∧ Hid (∀ t u, news[t]? = some u → w.drew.cell? (A.add t) = some u) := by
    by_cases h : cap = k
    · refine ⟨⟨g, 0, none⟩, by simp [h], fun t u hu => ?_⟩
      have h0 : news.length = 0 := by rw [hlen]; omega
      rw [List.length_eq_zero_iff.1 h0] at hu
      simp at hu
    · refine ⟨⟨g, k, none⟩, by simp [h], fun t u hu => ?_⟩
      have ht : t < n - k := by
        have := (List.getElem?_eq_some_iff.1 hu).1
        rwa [hlen] at this
      rw [Addr.add_lit]
      show w.cell? _ = _
      rw [hcell _ (by omega), ← hu, hnews, List.getElem?_drop]
  have s1 : Hid (news.length = (n - k) * 1) := by rw [Nat.mul_one]; exact hlen
  have s2 : Hid (∀ u ∈ news, u.oneCell' = true) := fun u hu => h1 u (List.mem_of_mem_drop (by rw [← hnews]; exact hu))
  have s3 : Hid (∀ t, t < news.length → (w.drew.cell? ⟨g, 0 + 0 * 1 + t, none⟩).isSome = true ∧ w.drew.frozen? ⟨g, 0 + 0 * 1 + t, none⟩ = false) := by
    intro t ht
    rw [hlen] at ht
    refine ⟨?_, hfr _⟩
    show (w.cell? _).isSome = true
    rw [hcell _ (by omega), List.getElem?_eq_getElem (by omega)]
    rfl
  obtain ⟨W1, hW1⟩ : ∃ W1, W1 = w.drew.setCells g (0 + 0 * 1) news := ⟨_, rfl⟩
  have hblk : W1.heap[g]? = some (.cells (overw cur 0 news) 31 (0, 0)) := by rw [hW1]; exact setCells_block g _ _ _ _ _ _ hcur
  have hcl : ∀ ty, (Builtin.clear_ #[42] ty #[.slice (some ⟨g, n - k, none⟩) (n - (n - k)) (cap - (n - k))]).run Try.prog W1 = .ok (.tuple #[]) (W1.setCells g (n - k) (List.replicate (n - (n - k)) (.slice none 0 0))) := by
    intro ty
    refine Lib.run_clear_slice W1 _ _ ty _ Try.underlying42 elemM.zeroV rfl rfl g _ _ _ (by omega) (fun t ht => ?_) (fun t ht => by simp [World.frozen?, hblk])
    rw [cell_of_row W1 g _ _ _ (0, 0) hblk, Array.getElem?_eq_getElem (by rw [overw_size]; omega)]
    rfl
  have hW : Hid (W1 = w.drew.setCells g (0 + 0 * 1) news) := hW1
  have hkc : k ≤ cap := by omega
  have X : Hid (news = xs.drop k) := hnews
  have HD := Lib.hid hdel
  have HS := Lib.hid hstep
  clear hW1 hblk hcell hfr hcg hcur hnews hlen hdel hstep hog hxl h1 hrow
  go_enter Try.func54, Try.ntmps54
  go_wp2_with fail
  go_region_law (refine step_append_room rfl (.tmp 22) (.tmp 25) 42 rfl 31 i0 1 Try.underlying42 hi0 hz1 g 0 0 cap (by simp [Act.eval, Act.put]) A (n - k) (cap - k) news (by simp [Act.eval, Act.put]) s1.out hsrc.out s2.out (by omega) s3.out ?_; rw [← hW.out])
  go_wp2
  go_ret
  have e1 : n - (n - k) = k := by omega
  rw [e1, hW.out, X.out]
  exact ⟨by simp, HD.out, HS.out⟩
end Go.Proofs.Ytmonpnikdheokaa
