/-
  A document in memory; contracts of New, Version, Text, At (all remembered texts).
-/
import Derived.Test.YtmonpnikdheokaaSxI
import Derived.Test.YtmonpnikdheokaaMaps
import Derived.Test.YtmonpnikdheokaaClone
import Derived.Test.YtmonpnikdheokaaCells
import Derived.Deep.DeepCutAuto
import Derived.StillTailTactics
namespace Go.Proofs.Ytmonpnikdheokaa
open Go Go.Proofs
open Go.RowKit
set_option linter.unusedVariables false
set_option linter.unusedSimpArgs false

theorem elemSt : ElemT Try.prog 119 118 (.agg #[.string ⟨#[]⟩, .slice none 0 0]) 2 40 := ⟨Try.underlying119, info_parts (by kernel_rfl), rfl, by decide⟩
/-- A document: object i, its struct in block b; m changes, the texts H of all its versions; nothing is held. -/
def DocH (w : World) (o : Nat → Nat) (i b m : Nat) (H : List (List UInt8)) : Prop :=
  ∃ lv mb xs, Blk w o (10 * i) b [.int .i64 m, lv, .map (some mb)] ∧ RowL w o (10 * i + 1) 118 2 lv (m + 1) xs ∧ (H.length = m + 1 ∧ ∀ (j : Nat) t, H[j]? = some t → xs[j * 2]? = some (.string (strB t))) ∧ MapL w o (10 * i + 2) mb []
section
variable {w w' : World} {o o' : Nat → Nat} {i b m : Nat} {H : List (List UInt8)} {L : Nat → Prop}
theorem DocH.step (h : DocH w o i b m H) (hs : Step L w o w' o') (hi : ∀ l, Own i l → ¬ L l) : DocH w' o' i b m H := by
  obtain ⟨lv, mb, xs, h1, h2, h3, h4⟩ := h
  exact ⟨lv, mb, xs, h1.step hs (hi _ (Own.at0 i)), h2.step hs (hi _ (Own.at1 i)), h3, h4.step hs (hi _ (Own.at2 i))⟩
theorem DocH.same (h : DocH w o i b m H) (hb : Below w.heap.size w w') : DocH w' o i b m H := h.step (L := fun _ => False) (Step.same hb) fun _ _ h => h
theorem DocH.len (h : DocH w o i b m H) : H.length = m + 1 := by obtain ⟨lv, mb, xs, h1, h2, h3, h4⟩ := h; exact h3.1
/-- What is read of a document. -/
theorem DocH.read (h : DocH w o i b m H) : ∃ g c mb, w.cell? ⟨b, 0, none⟩ = some (.int .i64 m) ∧ w.cell? ⟨b, 1, none⟩ = some (.slice (some ⟨g, 0, none⟩) (m + 1) c) ∧ w.cell? ⟨b, 2, none⟩ = some (.map (some mb)) ∧ (∀ (j : Nat) t, H[j]? = some t → w.cell? ⟨g, j * 2, none⟩ = some (.string (strB t))) ∧ m + 1 ≤ c ∧ c ≤ 9223372036854775807 ∧ MapB w mb [] := by
  obtain ⟨lv, mb, xs, h1, h2, h3, h4⟩ := h
  obtain ⟨a, c, rfl, hc, hm, hl, hg⟩ := h2.cells
  obtain ⟨g, rfl, _, _, hcell, _⟩ := hg (by omega)
  exact ⟨g, c, mb, h1.cell rfl, h1.cell rfl, h1.cell rfl, fun j t ht => hcell _ _ (h3.2 j t ht), hc, hm, h4.1⟩
end

set_option maxRecDepth 100000 in
set_option maxHeartbeats 1000000 in
theorem docNew_any (t : List UInt8) (i : Nat) (w : World) (o : Nat → Nat) (ht : t.length ≤ 4096) :
    Calls Try.prog 29 #[.string (strB t), .int .i64 0] w fun e w' => ∃ b, e = .returned (.tuple #[.pointer (some ⟨b, 0, none⟩), .int .i64 0]) ∧ ∃ o', Step (fun _ => False) w o w' o' ∧ DocH w' o' i b 0 [t] := by
  have hmm := @run_makeMap Try.prog
  have zt : (strB t).size = t.length := strB_size t
  have d1 : decide ((4096 : Int) < (t.length : Int)) = false := decide_eq_false (by omega)
  have d1' : decide (4096 < t.length) = false := decide_eq_false (by omega)
  go_enter Try.func29, Try.ntmps29
  go_wp2_with fail
  go_ret2
  refine ⟨_, rfl, fun k => if k < w.heap.size then o k else if k = w.heap.size then 10 * i + 1 else if k = w.heap.size + 1 then 10 * i + 2 else 10 * i, ?_, ?_⟩
  · exact Step.below ((((Below.refl _ w).alloc (Nat.le_refl _) _).alloc (by simp) _).alloc (by simp; omega) _) fun k hk => by simp [hk]
  · have e2 := heap_alloc_new ((w.alloc (.cells #[.string (strB t), .slice none 0 0] 118)).alloc (.map #[] 0)) (.cells #[.int .i64 0, .slice (some ⟨w.heap.size, 0, none⟩) 1 1, .map (some (w.heap.size + 1))] 122)
    have e1 := heap_alloc_new (w.alloc (.cells #[.string (strB t), .slice none 0 0] 118)) (.map #[] 0)
    have e0 := heap_alloc_new w (.cells #[.string (strB t), .slice none 0 0] 118)
    simp only [World.size_alloc] at e1 e2
    have e1' := (heap_alloc_old ((w.alloc (.cells #[.string (strB t), .slice none 0 0] 118)).alloc (.map #[] 0)) (.cells #[.int .i64 0, .slice (some ⟨w.heap.size, 0, none⟩) 1 1, .map (some (w.heap.size + 1))] 122) (r := w.heap.size + 1) (by simp)).trans e1
    have e0' := (heap_alloc_old ((w.alloc (.cells #[.string (strB t), .slice none 0 0] 118)).alloc (.map #[] 0)) (.cells #[.int .i64 0, .slice (some ⟨w.heap.size, 0, none⟩) 1 1, .map (some (w.heap.size + 1))] 122) (r := w.heap.size) (by simp; omega)).trans ((heap_alloc_old (w.alloc (.cells #[.string (strB t), .slice none 0 0] 118)) (.map #[] 0) (r := w.heap.size) (by simp)).trans e0)
    refine ⟨.slice (some ⟨w.heap.size, 0, none⟩) 1 1, w.heap.size + 1, [.string (strB t), .slice none 0 0], ⟨_, e2, by show (if w.heap.size + 1 + 1 < w.heap.size then o (w.heap.size + 1 + 1) else if w.heap.size + 1 + 1 = w.heap.size then 10 * i + 1 else if w.heap.size + 1 + 1 = w.heap.size + 1 then 10 * i + 2 else 10 * i) = _; rw [if_neg (by omega), if_neg (by omega), if_neg (by omega)]⟩, ⟨⟨rfl, .inr ⟨w.heap.size, 1, _, rfl, Nat.zero_le _, e0', by omega, by decide, rfl, rfl⟩⟩, fun k hk => ?_⟩, ⟨rfl, fun j t' ht' => by cases j with | zero => (simp at ht'; subst ht'; rfl) | succ j => simp at ht'⟩, ⟨⟨#[], 0, e1', rfl, by simp⟩, by show (if w.heap.size + 1 < w.heap.size then o (w.heap.size + 1) else if w.heap.size + 1 = w.heap.size then 10 * i + 1 else if w.heap.size + 1 = w.heap.size + 1 then 10 * i + 2 else 10 * i) = _; rw [if_neg (by omega), if_neg (by omega), if_pos rfl]⟩⟩
    simp only [Value.ownBlock, Option.map_some, Option.some.injEq] at hk
    subst hk
    show (if w.heap.size < w.heap.size then o (w.heap.size) else if w.heap.size = w.heap.size then 10 * i + 1 else if w.heap.size = w.heap.size + 1 then 10 * i + 2 else 10 * i) = _
    rw [if_neg (by omega), if_pos rfl]

set_option maxRecDepth 100000 in
theorem docVersion_any (i b m : Nat) (H : List (List UInt8)) (w : World) (o : Nat → Nat) (h : DocH w o i b m H) :
    Calls Try.prog 37 #[.pointer (some ⟨b, 0, none⟩)] w fun e w' => e = .returned (.int .i64 m) ∧ w = w' := by
  obtain ⟨g, c, mb, c0, -⟩ := h.read
  clear h
  go_enter Try.func37, Try.ntmps37
  go_wp2_with fail
  go_ret
  exact ⟨rfl, rfl⟩

set_option maxRecDepth 100000 in
theorem docText_any (i b m : Nat) (H : List (List UInt8)) (txt : List UInt8) (w : World) (o : Nat → Nat) (h : DocH w o i b m H) (ht : H[m]? = some txt) (hm : m ≤ 1000) :
    Calls Try.prog 38 #[.pointer (some ⟨b, 0, none⟩)] w fun e w' => e = .returned (.string (strB txt)) ∧ Below w.heap.size w w' := by
  obtain ⟨g, c, mb, c0, c1, -, c3, hc, hcm, -⟩ := h.read
  have c3 := c3 m txt ht
  have i1 : IntKind.i64.wrap (m : Int) = (m : Int) := IntWalk.i64_in _ (by omega)
  have i2 : (m : Int) + 1 - 1 = (m : Int) := by omega
  have i3 : (m : Int) < (m : Int) + 1 := by omega
  have i4 : (0 : Int) ≤ (m : Int) := by omega
  clear h
  go_enter Try.func38, Try.ntmps38
  go_wp2_with fail
  go_quiet (fail)
  go_wp2_with fail
  go_ret
  exact ⟨rfl, Below.drewN _⟩

set_option maxRecDepth 100000 in
set_option maxHeartbeats 1000000 in
theorem docIndex_any (i b m v : Nat) (H : List (List UInt8)) (w : World) (o : Nat → Nat) (h : DocH w o i b m H) (hm : m ≤ 16) (hv : v ≤ m) :
    Calls Try.prog 67 #[.pointer (some ⟨b, 0, none⟩), .int .i64 v] w fun e w' => e = .returned (.tuple #[.int .i64 v, .bool true]) ∧ Below w.heap.size w w' := by
  obtain ⟨g, c, mb, c0, c1, -, c3, hc, hcm, -⟩ := h.read
  obtain ⟨d, hd⟩ : ∃ d : Nat, (m : Int) - (v : Int) = d := ⟨m - v, by omega⟩
  have i1 : IntKind.i64.wrap (m : Int) = (m : Int) := IntWalk.i64_in _ (by omega)
  have i2 : (m : Int) + 1 - 1 = (m : Int) := by omega
  have i5 : IntKind.i64.wrap ((m : Int) - 16) = (m : Int) - 16 := IntWalk.i64_in _ (by omega)
  have i6 : IntKind.i64.wrap (d : Int) = (d : Int) := IntWalk.i64_in _ (by omega)
  have i7 : (m : Int) - (d : Int) = (v : Int) := by omega
  have i8 : IntKind.i64.wrap (v : Int) = (v : Int) := IntWalk.i64_in _ (by omega)
  have d1 : decide ((m : Int) < v) = false := decide_eq_false (by omega)
  have d1' : decide (m < v) = false := decide_eq_false (by omega)
  have d2 : decide ((v : Int) < (m : Int) - 16) = false := decide_eq_false (by omega)
  have d3 : decide ((0 : Int) ≤ (v : Int)) = true := decide_eq_true (by omega)
  clear h c3
  go_enter Try.func67, Try.ntmps67
  go_wp2_with fail
  go_quiet (fail)
  go_wp2_with fail
  go_ret2
  exact ⟨rfl, Below.drewN _⟩

set_option maxRecDepth 100000 in
set_option maxHeartbeats 1000000 in
theorem docAt_any (i b m v : Nat) (H : List (List UInt8)) (t : List UInt8) (w : World) (o : Nat → Nat) (h : DocH w o i b m H) (ht : H[v]? = some t) (hm : m ≤ 16) :
    Calls Try.prog 36 #[.pointer (some ⟨b, 0, none⟩), .int .i64 v] w fun e w' => e = .returned (.tuple #[.string (strB t), .int .i64 0]) ∧ Below w.heap.size w w' := by
  have hv : v ≤ m := by have := (List.getElem?_eq_some_iff.1 ht).1; have := h.len; omega
  have K := Lib.hid (docIndex_any i b m v H w o h hm hv)
  have HH := Lib.hid h
  clear h
  go_enter Try.func36, Try.ntmps36
  go_wp2_with fail
  refine K.out.mono ?_
  rintro e w1 ⟨rfl, hb1⟩
  obtain ⟨g, c, mb, c0, c1, -, c3, hc, hcm, -⟩ := (HH.out.same hb1).read
  have c3 := c3 v t ht
  have i3 : (v : Int) < (m : Int) + 1 := by omega
  have i4 : (0 : Int) ≤ (v : Int) := by omega
  go_wp2_with fail
  go_ret2
  exact ⟨rfl, hb1⟩
end Go.Proofs.Ytmonpnikdheokaa
