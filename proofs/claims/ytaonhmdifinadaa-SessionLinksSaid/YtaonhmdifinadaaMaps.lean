/-
  Maps with int keys, by their entries: look-up, store, delete.
-/
import Derived.Test.YtaonhmdifinadaaLab
import Derived.Maps.Own
namespace Go.Proofs.Ytaonhmdifinadaa
open Go Go.Proofs
open Go.RowKit
set_option linter.unusedVariables false

/-- Block b is a map with just these entries. -/
def MapB (w : World) (b : Nat) (es : List (Int × Value)) : Prop :=
  ∃ (ms : Array MapEntry) (clock : Nat), w.heap[b]? = some (.map ms clock) ∧ ms.toList.map (fun e => (e.key, e.val)) = es.map (fun p => (.int .i64 p.1, p.2)) ∧ (es.map (·.1)).Nodup
theorem MapB.lt {w : World} {b : Nat} {es : List (Int × Value)} (h : MapB w b es) : b < w.heap.size := by
  obtain ⟨ms, c, h1, _⟩ := h
  exact lt_of_block h1
theorem MapB.keep {w w' : World} {b : Nat} {es : List (Int × Value)} (h : MapB w b es) (hb : w'.heap[b]? = w.heap[b]?) : MapB w' b es := by
  obtain ⟨ms, c, h1, h2⟩ := h
  exact ⟨ms, c, hb.trans h1, h2⟩

/-- A map that object i owns. -/
def MapL (w : World) (o : Nat → Nat) (i b : Nat) (es : List (Int × Value)) : Prop := MapB w b es ∧ o b = i
theorem MapL.step {L : Nat → Prop} {w w' : World} {o o' : Nat → Nat} {i b : Nat} {es : List (Int × Value)} (h : MapL w o i b es) (hs : Step L w o w' o') (hl : ¬ L i) : MapL w' o' i b es :=
  ⟨h.1.keep (hs.block b h.1.lt (by rw [h.2]; exact hl)), by rw [hs.lab b h.1.lt]; exact h.2⟩

def look {α : Type} (es : List (Int × α)) (k : Int) : Option α := (es.find? fun p => p.1 == k).map (·.2)
def put {α : Type} (es : List (Int × α)) (k : Int) (v : α) : List (Int × α) := es ++ [(k, v)]
def drp {α : Type} (es : List (Int × α)) (k : Int) : List (Int × α) := es.filter fun p => p.1 != k

theorem findNow_int (q : IntKind) (k : Int) : ∀ (ms : List MapEntry) (es : List (Int × Value)) (i : Nat), ms.map (fun e => (e.key, e.val)) = es.map (fun p => (.int .i64 p.1, p.2)) →
    (look es k = none ∧ (∀ p ∈ es, p.1 ≠ k) ∧ Instr.findNow (.int q) (.int .i64 k) ms i = some none) ∨
    ∃ j v, look es k = some v ∧ es[j]? = some (k, v) ∧ Instr.findNow (.int q) (.int .i64 k) ms i = some (some (i + j, v))
  | [], [], i, _ => .inl ⟨rfl, by simp, rfl⟩
  | [], _ :: _, i, h => by simp at h
  | _ :: _, [], i, h => by simp at h
  | m :: ms, (a, v) :: es, i, h => by
    simp only [List.map_cons, List.cons.injEq, Prod.mk.injEq] at h
    obtain ⟨⟨hk, hv⟩, ht⟩ := h
    by_cases hak : a = k
    · subst hak
      refine .inr ⟨0, v, by simp [look], by simp, ?_⟩
      simp [Instr.findNow, hk, hv, Instr.sameNow]
    · have hka : (k == a) = false := by simp; exact fun e => hak e.symm
      have hak' : (a == k) = false := by simpa using hak
      rcases findNow_int q k ms es (i + 1) ht with ⟨h1, h2, h3⟩ | ⟨j, u, h1, h2, h3⟩
      · refine .inl ⟨?_, ?_, ?_⟩
        · unfold look at h1 ⊢; rw [List.find?_cons, hak']; exact h1
        · intro p hp
          rcases List.mem_cons.1 hp with rfl | hp
          · exact hak
          · exact h2 p hp
        · simp only [Instr.findNow, hk, Instr.sameNow, if_true, hka]; exact h3
      · refine .inr ⟨j + 1, u, ?_, by simpa using h2, ?_⟩
        · unfold look at h1 ⊢; rw [List.find?_cons, hak']; exact h1
        · simp only [Instr.findNow, hk, Instr.sameNow, if_true, hka]; rw [h3]; congr 3; omega

section
variable {P : Program} {w : World} {T K E b : Nat} {es : List (Int × Value)}
theorem key_check (hK : P.underlying K = some (.int .i64)) (w : World) (em : Bool) (k : Int) : (Instr.checkKey em 10000 K (.int .i64 k)).run P w = .ok () w :=
  MapKept.run_checkKey hK (by trivial) em 9999
theorem run_look (hT : P.underlying T = some (.map K E)) (hK : P.underlying K = some (.int .i64)) {z : Value} (hz : (zeroValue E).run P w = .ok z w) (h : MapB w b es) (k : Int) :
    (Instr.lookup T (.map (some b)) (.int .i64 k) true).run P w = .ok (.tuple #[(look es k).getD z, .bool (look es k).isSome]) w := by
  obtain ⟨ms, c, h1, h2, _⟩ := h
  rcases findNow_int .i64 k ms.toList es 0 h2 with ⟨e1, _, e3⟩ | ⟨j, v, e1, _, e3⟩
  · simp [Instr.lookup, run_underlying hT, MapKept.run_getObj_map h1, key_check hK, MapKept.run_findKey hK e3, hz, Result.andThen, e1]
  · simp [Instr.lookup, run_underlying hT, MapKept.run_getObj_map h1, key_check hK, MapKept.run_findKey hK e3, Result.andThen, e1]
/-- A store at a key that is not there. -/
theorem run_put (hT : P.underlying T = some (.map K E)) (hK : P.underlying K = some (.int .i64)) (h : MapB w b es) {k : Int} (hn : look es k = none) (v : Value) :
    ∃ ob, (Instr.mapUpdate T (.map (some b)) (.int .i64 k) v).run P w = .ok () { w with heap := w.heap.setIfInBounds b ob } ∧ MapB { w with heap := w.heap.setIfInBounds b ob } b (put es k v) := by
  have hlt := h.lt
  obtain ⟨ms, c, h1, h2, h3⟩ := h
  rcases findNow_int .i64 k ms.toList es 0 h2 with ⟨_, e2, e3⟩ | ⟨j, v, e1, _, _⟩
  · refine ⟨.map (ms.push ⟨.int .i64 k, v, c⟩) (c + 1), ?_, ms.push ⟨.int .i64 k, v, c⟩, c + 1, ?_, ?_, ?_⟩
    · simp [Instr.mapUpdate, run_underlying hT, MapKept.run_getObj_map h1, key_check hK, MapKept.run_findKey hK e3, MapKept.run_setObj_map _ h1, Result.andThen]
    · simp [hlt]
    · simp [put, h2]
    · unfold put
      rw [List.map_append, List.nodup_append]
      refine ⟨h3, by simp, ?_⟩
      intro a ha b' hb'
      obtain ⟨p, hp, rfl⟩ := List.mem_map.1 ha
      simp at hb'
      subst hb'
      exact e2 p hp
  · rw [hn] at e1; cases e1
theorem eraseIdx_filter : ∀ (es : List (Int × Value)) {j : Nat} {k : Int} {v : Value}, (es.map (·.1)).Nodup → es[j]? = some (k, v) → es.eraseIdx j = drp es k
  | [], j, k, v, _, h => by simp at h
  | (a, u) :: es, 0, k, v, hn, h => by
    simp only [List.getElem?_cons_zero, Option.some.injEq, Prod.mk.injEq] at h
    obtain ⟨rfl, rfl⟩ := h
    simp only [List.map_cons, List.nodup_cons] at hn
    simp only [List.eraseIdx_cons_zero, drp, List.filter_cons, bne_self_eq_false, Bool.false_eq_true, if_false]
    symm
    refine List.filter_eq_self.2 fun p hp => ?_
    simp only [bne_iff_ne]
    exact fun e => hn.1 (by rw [← e]; exact List.mem_map.2 ⟨p, hp, rfl⟩)
  | (a, u) :: es, j + 1, k, v, hn, h => by
    simp only [List.getElem?_cons_succ] at h
    simp only [List.map_cons, List.nodup_cons] at hn
    have hak : (a != k) = true := by
      simp only [bne_iff_ne]
      intro e
      exact hn.1 (by rw [e]; exact List.mem_map.2 ⟨(k, v), List.mem_of_getElem? h, rfl⟩)
    simp only [List.eraseIdx_cons_succ, drp, List.filter_cons, hak, if_true]
    rw [eraseIdx_filter es hn.2 h]
    rfl
theorem map_erase {α β : Type} (f : α → β) : ∀ (l : List α) (j : Nat), (l.eraseIdx j).map f = (l.map f).eraseIdx j
  | [], _ => by simp
  | _ :: _, 0 => by simp
  | a :: l, j + 1 => by simp [map_erase f l j]
theorem run_drp {ty : Nat} (hT : P.underlying T = some (.map K E)) (hK : P.underlying K = some (.int .i64)) (h : MapB w b es) (k : Int) :
    ∃ ob, (Builtin.delete_ #[T, K] ty #[.map (some b), .int .i64 k]).run P w = .ok (.tuple #[]) { w with heap := w.heap.setIfInBounds b ob } ∧ MapB { w with heap := w.heap.setIfInBounds b ob } b (drp es k) := by
  have hlt := h.lt
  obtain ⟨ms, c, h1, h2, h3⟩ := h
  rcases findNow_int .i64 k ms.toList es 0 h2 with ⟨_, e2, e3⟩ | ⟨j, v, _, e2, e3⟩
  · refine ⟨.map ms c, ?_, ms, c, ?_, ?_, ?_⟩
    · simp [Builtin.delete_, run_underlying hT, MapKept.run_getObj_map h1, key_check hK, MapKept.run_findKey hK e3, MapKept.run_setObj_map _ h1, Result.andThen]
    · simp [hlt]
    · rw [h2]
      congr 1
      symm
      exact List.filter_eq_self.2 fun p hp => by simpa using e2 p hp
    · exact List.Nodup.sublist (List.Sublist.map _ List.filter_sublist) h3
  · have hjl : j < ms.size := by
      have h4 := (List.getElem?_eq_some_iff.1 e2).1
      have h5 := congrArg List.length h2
      simp at h5
      omega
    have hsub : (ms.eraseIdxIfInBounds j).toList = ms.toList.eraseIdx j := by
      unfold Array.eraseIdxIfInBounds
      rw [dif_pos hjl]
      simp
    rw [Nat.zero_add] at e3
    refine ⟨.map (ms.eraseIdxIfInBounds j) c, ?_, ms.eraseIdxIfInBounds j, c, ?_, ?_, ?_⟩
    · simp [Builtin.delete_, run_underlying hT, MapKept.run_getObj_map h1, key_check hK, MapKept.run_findKey hK e3, MapKept.run_setObj_map _ h1, Result.andThen]
    · simp [hlt]
    · rw [hsub, ← eraseIdx_filter es h3 e2]
      rw [map_erase, h2, map_erase]
    · exact List.Nodup.sublist (List.Sublist.map _ List.filter_sublist) h3
end
/-! ### Store and delete in regions that draw their order -/
theorem Step.setObj {L : Nat → Prop} {w w' : World} {o o' : Nat → Nat} (h : Step L w o w' o') {b : Nat} (hb : L (o' b)) (ob : Obj) : Step L w o { w' with heap := w'.heap.setIfInBounds b ob } o' :=
  h.trans ⟨rfl, rfl, rfl, by simp, fun k _ hl => by
    show (w'.heap.setIfInBounds b ob)[k]? = _
    rw [Array.getElem?_setIfInBounds_ne (fun e => hl (by rw [← e]; exact hb))], fun _ _ => rfl⟩
section
variable {P : Program} {w : World} {T K E b : Nat} {es : List (Int × Value)} {ops : Array Oper} {q : Oper} {a : Act} {J : Act → World → Prop} {Q : Exit → Act → World → Prop} {E' : Prop}
/-- The store, as a fact on the run: for regions in which a law at the operation is not tried. -/
theorem put_made (hT : P.underlying T = some (.map K E)) (hK : P.underlying K = some (.int .i64)) {o : Nat → Nat} {l : Nat} (hown : MapL w o l b es) {k : Int} (hn : look es k = none) (u : Value) :
    ∃ w', (Instr.mapUpdate T (.map (some b)) (.int .i64 k) u).run P w = .ok () w' ∧ MapL w' o l b (put es k u) ∧ Step (· = l) w o w' o := by
  obtain ⟨ob, hr, h2⟩ := run_put hT hK hown.1 hn u
  exact ⟨_, hr, ⟨h2, hown.2⟩, (Step.refl _ _ _).setObj hown.2 ob⟩
theorem step_put (hg : q.guard = none) (m x v : Operand) (t : TypeId) (ho : q.op = Op.mapUpdate t m x v)
    (hT : P.underlying t = some (.map K E)) (hK : P.underlying K = some (.int .i64)) {o : Nat → Nat} {l : Nat} (hm : a.eval m = .map (some b)) (hown : MapL w o l b es)
    {k : Int} (hx : a.eval x = .int .i64 k) (hn : look es k = none) {u : Value} (hv : a.eval v = u)
    (h : ∀ w', MapL w' o l b (put es k u) → Step (· = l) w o w' o → J (a.put q.dst undef) w') :
    if Region.wanted q (yielded ops a.tmps) = true then Oper.wp P q a w J Q else E' := by
  have hw : Region.wanted q (yielded ops a.tmps) = true := by simp [Region.wanted, hg]
  rw [if_pos hw]
  obtain ⟨ob, hr, h2⟩ := run_put hT hK hown.1 hn u
  unfold Oper.wp
  simp only [execOp, ho, hm, hx, hv, Sem.run_bind, Sem.run_pure, hr, Result.andThen]
  exact h _ ⟨h2, hown.2⟩ ((Step.refl _ _ _).setObj hown.2 ob)
theorem step_drp (hg : q.guard = none) (m x : Operand) (t : TypeId) (ho : q.op = .call { callee := .builtin .delete, args := #[m, x], argTypes := #[t, K] })
    (hT : P.underlying t = some (.map K E)) (hK : P.underlying K = some (.int .i64)) {o : Nat → Nat} {l : Nat} (hm : a.eval m = .map (some b)) (hown : MapL w o l b es)
    {k : Int} (hx : a.eval x = .int .i64 k)
    (h : ∀ w', MapL w' o l b (drp es k) → Step (· = l) w o w' o → J (a.put q.dst (.tuple #[])) w') :
    if Region.wanted q (yielded ops a.tmps) = true then Oper.wp P q a w J Q else E' := by
  have hw : Region.wanted q (yielded ops a.tmps) = true := by simp [Region.wanted, hg]
  rw [if_pos hw]
  obtain ⟨ob, hr, h2⟩ := run_drp (ty := q.type) hT hK hown.1 k
  unfold Oper.wp execOp
  simp only [ho, resolve, invoke, builtin, Sem.run_bind, Sem.run_pure, Result.andThen_ok, List.map_toArray, List.map_cons, List.map_nil, hm, hx, hr]
  exact h _ ⟨h2, hown.2⟩ ((Step.refl _ _ _).setObj hown.2 ob)
end
end Go.Proofs.Ytaonhmdifinadaa
