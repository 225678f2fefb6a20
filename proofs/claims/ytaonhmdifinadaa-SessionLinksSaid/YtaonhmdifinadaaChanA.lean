/-
  Contracts of package slices at this program's types: Clone of bytes, Delete of the first messages.
-/
import Derived.Test.YtaonhmdifinadaaRefA
import Derived.Test.YtaonhmdifinadaaMaps
import Derived.Test.YtaonhmdifinadaaClone
import Derived.Test.YtaonhmdifinadaaCells
import Derived.Deep.RegionHeld3
import Derived.Deep.RegionLaw
import Derived.Lib.SliceRun
namespace Go.Proofs.Ytaonhmdifinadaa
open Go Go.Proofs
open Go.RowKit
set_option linter.unusedVariables false

/-- Delete of the first k: the row's block is overwritten. -/
theorem RowL.deleted {w : World} {o : Nat → Nat} {l : Nat} {e : TypeId} {g n cap : Nat} {xs : List Value} {z : Value} (h : RowL w o l e 1 (.slice (some ⟨g, 0, none⟩) n cap) n xs) (k : Nat) (hk : k ≤ n) :
    RowL ((w.drew.setCells g 0 (xs.drop k)).setCells g (n - k) (List.replicate k z)) o l e 1 (.slice (some ⟨g, 0, none⟩) (n - k) cap) (n - k) (xs.drop k) := by
  obtain ⟨⟨hl, h2⟩, ho⟩ := h
  have hn : xs.length = n := by omega
  refine ⟨⟨by simp; omega, ?_⟩, fun j hj => ho j hj⟩
  rcases h2 with ⟨he, _⟩ | ⟨g', cap', cur, hv, hg, hgg, hc, hm, hs, ht⟩
  · simp at he
  · simp only [Value.slice.injEq, Option.some.injEq, Addr.mk.injEq, and_true, true_and] at hv
    obtain ⟨rfl, rfl⟩ := hv
    refine .inr ⟨g, cap, overw (overw cur 0 (xs.drop k)) (n - k) (List.replicate k z), rfl, hg, ?_, by omega, hm, by rw [overw_size, overw_size]; exact hs, ?_⟩
    · exact setCells_block g e _ _ _ _ _ (setCells_block g e _ _ _ _ _ hgg)
    · apply List.ext_getElem?
      intro j
      rw [Nat.mul_one, List.getElem?_take]
      by_cases hj : j < n - k
      · rw [if_pos hj, Array.getElem?_toList, overw_get, if_neg (by omega), overw_get, if_pos (by simp; omega)]
        simp
      · rw [if_neg hj, List.getElem?_eq_none (by simp; omega)]
theorem ElemT.zeroV {P : Program} {t e : TypeId} {z : Value} {size bytes : Nat} (E : ElemT P t e z size bytes) (w : World) : (zeroValue e).run P w = .ok z w := by
  obtain ⟨i, hi, hz, _⟩ := E.info
  simp [zeroValue, typeInfo, hi, hz]
theorem elemM : ElemT Try.prog 96 78 (.slice none 0 0) 1 24 := ⟨Try.underlying96, info_parts (by kernel_rfl), rfl, by decide⟩
set_option maxRecDepth 100000 in
set_option maxHeartbeats 4000000 in
theorem delete_any (g n cap k l : Nat) (xs : List Value) (w : World) (o : Nat → Nat) (hrow : RowL w o l 78 1 (.slice (some ⟨g, 0, none⟩) n cap) n xs) (hk0 : 0 < k) (hk : k ≤ n) (h1 : ∀ v ∈ xs, v.oneCell' = true) :
    Calls Try.prog 95 #[.slice (some ⟨g, 0, none⟩) n cap, .int .i64 0, .int .i64 k] w fun e w' => e = .returned (.slice (some ⟨g, 0, none⟩) (n - k : Nat) cap) ∧ RowL w' o l 78 1 (.slice (some ⟨g, 0, none⟩) (n - k) cap) (n - k) (xs.drop k) ∧ Step (· = l) w o w' o := by
  have hdel := hrow.deleted (z := .slice none 0 0) k hk
  have hstep : Step (· = l) w o ((w.drew.setCells g 0 (xs.drop k)).setCells g (n - k) (List.replicate k (.slice none 0 0))) o := by
    have hg := hrow.cellsOf.2.2.2.1
    exact ((Step.refl _ w o).drew.setCells hg _ _).setCells hg _ _
  obtain ⟨hxl, hnc, hcm, hog, cur, hcur, hcs, hcg⟩ := hrow.cellsOf
  obtain ⟨i0, hi0, hz0, hz1, hz2⟩ := elemM.info
  have hcell : ∀ j, j < n → w.cell? ⟨g, j, none⟩ = xs[j]? := fun j hj => by rw [cell_of_row w g j cur _ (0, 0) hcur]; exact hcg j hj
  have hfr : ∀ j, w.frozen? ⟨g, j, none⟩ = false := fun j => by simp [World.frozen?, hcur]
  obtain ⟨news, hnews⟩ : ∃ news, news = xs.drop k := ⟨_, rfl⟩
  have hlen : news.length = n - k := by rw [hnews]; simp; omega
  obtain ⟨A, hA, hsrc⟩ : ∃ A : Addr, (if cap = k then some (⟨g, 0, none⟩ : Addr) else some ⟨g, k, none⟩) = some A ∧ Hid (∀ t u, news[t]? = some u → w.drew.cell? (A.add t) = some u) := by
    by_cases h : cap = k
    · refine ⟨⟨g, 0, none⟩, by simp [h], fun t u hu => ?_⟩
      have h0 : news.length = 0 := by rw [hlen]; omega
      rw [List.length_eq_zero_iff.1 h0] at hu
      simp at hu
    · refine ⟨⟨g, k, none⟩, by simp [h], fun t u hu => ?_⟩
      have ht : t < n - k := by
        have := (List.getElem?_eq_some_iff.1 hu).1
        rwa [hlen] at this
      rw [Addr.add_lit]
      show w.cell? _ = _
      rw [hcell _ (by omega), ← hu, hnews, List.getElem?_drop]
  have s1 : Hid (news.length = (n - k) * 1) := by rw [Nat.mul_one]; exact hlen
  have s2 : Hid (∀ u ∈ news, u.oneCell' = true) := fun u hu => h1 u (List.mem_of_mem_drop (by rw [← hnews]; exact hu))
  have s3 : Hid (∀ t, t < news.length → (w.drew.cell? ⟨g, 0 + 0 * 1 + t, none⟩).isSome = true ∧ w.drew.frozen? ⟨g, 0 + 0 * 1 + t, none⟩ = false) := by
    intro t ht
    rw [hlen] at ht
    refine ⟨?_, hfr _⟩
    show (w.cell? _).isSome = true
    rw [hcell _ (by omega), List.getElem?_eq_getElem (by omega)]
    rfl
  obtain ⟨W1, hW1⟩ : ∃ W1, W1 = w.drew.setCells g (0 + 0 * 1) news := ⟨_, rfl⟩
  have hblk : W1.heap[g]? = some (.cells (overw cur 0 news) 78 (0, 0)) := by rw [hW1]; exact setCells_block g _ _ _ _ _ _ hcur
  have hcl : ∀ ty, (Builtin.clear_ #[96] ty #[.slice (some ⟨g, n - k, none⟩) (n - (n - k)) (cap - (n - k))]).run Try.prog W1 = .ok (.tuple #[]) (W1.setCells g (n - k) (List.replicate (n - (n - k)) (.slice none 0 0))) := by
    intro ty
    refine Lib.run_clear_slice W1 _ _ ty _ Try.underlying96 elemM.zeroV rfl rfl g _ _ _ (by omega) (fun t ht => ?_) (fun t ht => by simp [World.frozen?, hblk])
    rw [cell_of_row W1 g _ _ _ (0, 0) hblk, Array.getElem?_eq_getElem (by rw [overw_size]; omega)]
    rfl
  have hW : Hid (W1 = w.drew.setCells g (0 + 0 * 1) news) := hW1
  have hkc : k ≤ cap := by omega
  have X : Hid (news = xs.drop k) := hnews
  have HD := Lib.hid hdel
  have HS := Lib.hid hstep
  clear hW1 hblk hcell hfr hcg hcur hnews hlen hdel hstep hog hxl h1 hrow
  go_enter Try.func95, Try.ntmps95
  go_wp2_with fail
  go_region_law (refine step_append_room rfl (.tmp 22) (.tmp 25) 96 rfl 78 i0 1 Try.underlying96 hi0 hz1 g 0 0 cap (by simp [Act.eval, Act.put]) A (n - k) (cap - k) news (by simp [Act.eval, Act.put]) s1.out hsrc.out s2.out (by omega) s3.out ?_; rw [← hW.out])
  go_wp2
  go_ret
  have e1 : n - (n - k) = k := by omega
  rw [e1, hW.out, X.out]
  exact ⟨by simp, HD.out, HS.out⟩
end Go.Proofs.Ytaonhmdifinadaa
