/-
  Slices of structs: rows of records, each of so many cells.
-/
import Derived.Test.YtaonhmdifinadaaBase
import Derived.Deep.RegionHeld3
import Derived.Deep.AppendLies
namespace Go.Proofs.Ytaonhmdifinadaa
open Go Go.Proofs
open Go.RowKit
set_option linter.unusedVariables false
set_option linter.unusedSimpArgs false

/-- 'append' to what is owned, in a region that draws. -/
theorem step_append_src {P : Program} {w : World} {ops : Array Oper} {q : Oper} {a : Act} {K : Act → World → Prop} {Q : Exit → Act → World → Prop} {E' : Prop}
    (hg : q.guard = none) (s x : Operand) (t : TypeId) (ho : q.op = .call { callee := .builtin .append, args := #[s, x], argTypes := #[t, t] })
    {e : TypeId} {z : Value} {size bytes : Nat} (E : ElemT P t e z size bytes) (base : Nat)
    (v : Value) (n : Nat) (xs : List Value) (hs : a.eval s = v) (hown : w.ownsRow base e size v n xs) (ao : Option Addr) (m c : Nat) (news : List Value) (hx : a.eval x = .slice ao m c)
    (hsrc : RowAt w ao m c size news) (h1 : ∀ u ∈ news, u.oneCell' = true)
    (h63 : n + m ≤ 9223372036854775807) (hbytes : (n + m) * bytes ≤ 140737488355328) (hbase : base ≤ w.heap.size)
    (h : ∀ v' w', w'.ownsRow base e size v' (n + m) (xs ++ news) → Below base w w' → w.grownBy w' v.ownBlock → K (a.put q.dst v') w') :
    if Region.wanted q (yielded ops a.tmps) = true then Oper.wp P q a w K Q else E' := by
  have hw : Region.wanted q (yielded ops a.tmps) = true := by simp [Region.wanted, hg]
  rw [if_pos hw]
  obtain ⟨v', w', hr, h2, h3, h4⟩ := run_append_src (P := P) w E q.type base v n xs hown ao m c news hsrc h1 h63 hbytes hbase
  unfold Oper.wp execOp
  simp only [ho, resolve, invoke, builtin, Sem.run_bind, Sem.run_pure, Result.andThen_ok, List.map_toArray, List.map_cons, List.map_nil, hs, hx, hr]
  exact h v' w' h2 h3 h4

theorem ownsRow_row {w : World} {base : Nat} {e : TypeId} {size : Nat} {v : Value} {n : Nat} {xs : List Value} (h : w.ownsRow base e size v n xs) :
    ∃ a cap, v = .slice a n cap ∧ RowAt w a n cap size xs := by
  obtain ⟨hl, h2⟩ := h
  rcases h2 with ⟨rfl, rfl⟩ | ⟨g, cap, cur, rfl, hg, hgg, hc, hm, hs, ht⟩
  · exact ⟨none, 0, rfl, hl, Nat.le_refl _, by omega, fun _ => rfl, fun h => by omega⟩
  · refine ⟨_, cap, rfl, hl, hc, by simpa [maxLen] using hm, by simp, fun hp => ⟨g, 0, rfl, fun i v hi => ?_⟩⟩
    rw [Nat.zero_add, cell_of_row w g i cur e (0, 0) hgg]
    have hlt := (List.getElem?_eq_some_iff.1 hi).1
    have e2 : (List.take (n * size) cur.toList)[i]? = some v := by rw [ht]; exact hi
    rw [List.getElem?_take, if_pos (by omega)] at e2
    simpa using e2

/-! ### Records -/
section
variable {α : Type} {f : α → List Value} {z : Nat}
theorem rec_len (hz : ∀ x, (f x).length = z) (xs : List α) : (xs.flatMap f).length = xs.length * z := by
  induction xs with
  | nil => simp
  | cons x xs ih => simp only [List.flatMap_cons, List.length_append, List.length_cons, ih, hz, Nat.add_mul, Nat.one_mul]; omega
theorem rec_get (hz : ∀ x, (f x).length = z) : ∀ {xs : List α} {k j : Nat} {x : α} {v : Value}, xs[k]? = some x → (f x)[j]? = some v → (xs.flatMap f)[k * z + j]? = some v
  | [], k, j, x, v, h, _ => by simp at h
  | y :: ys, 0, j, x, v, h, hj => by
    simp only [List.getElem?_cons_zero, Option.some.injEq] at h
    subst h
    have hlt := (List.getElem?_eq_some_iff.1 hj).1
    rw [List.flatMap_cons, Nat.zero_mul, Nat.zero_add, List.getElem?_append_left hlt]
    exact hj
  | y :: ys, k + 1, j, x, v, h, hj => by
    have ih := rec_get hz (xs := ys) (k := k) (by simpa using h) hj
    rw [List.flatMap_cons, List.getElem?_append_right (by rw [hz, Nat.add_mul]; omega), hz, Nat.add_mul, Nat.one_mul, show k * z + z + j - z = k * z + j by omega]
    exact ih
theorem rec_one (ho : ∀ x, ∀ u ∈ f x, u.oneCell' = true) (xs : List α) : ∀ u ∈ xs.flatMap f, u.oneCell' = true := by
  intro u hu
  rw [List.mem_flatMap] at hu
  obtain ⟨x, _, hu⟩ := hu
  exact ho x u hu
theorem rec_app (a b : List α) : (a ++ b).flatMap f = a.flatMap f ++ b.flatMap f := by simp
theorem rec_take (hz : ∀ x, (f x).length = z) (xs : List α) (k : Nat) : (xs.take k).flatMap f = (xs.flatMap f).take (k * z) := by
  induction xs generalizing k with
  | nil => simp
  | cons x xs ih =>
    cases k with
    | zero => simp
    | succ k => rw [List.take_succ_cons, List.flatMap_cons, List.flatMap_cons, ih, List.take_append, hz, List.take_of_length_le (l := f x) (by rw [hz, Nat.add_mul]; omega), Nat.add_mul, Nat.one_mul, Nat.add_sub_cancel]
theorem rec_drop (hz : ∀ x, (f x).length = z) (xs : List α) (k : Nat) : (xs.drop k).flatMap f = (xs.flatMap f).drop (k * z) := by
  induction xs generalizing k with
  | nil => simp
  | cons x xs ih =>
    cases k with
    | zero => simp
    | succ k => rw [List.drop_succ_cons, List.flatMap_cons, ih, List.drop_append, hz, List.drop_of_length_le (l := f x) (by rw [hz, Nat.add_mul]; omega), List.nil_append, Nat.add_mul, Nat.one_mul, Nat.add_sub_cancel]

/-- A slice of records can be read. -/
def RecAt (f : α → List Value) (z : Nat) (w : World) (a : Option Addr) (cap : Nat) (xs : List α) : Prop := RowAt w a xs.length cap z (xs.flatMap f)
variable {w w' : World} {a : Option Addr} {cap : Nat} {xs : List α}
theorem RecAt.below (h : RecAt f z w a cap xs) (hb : Below w.heap.size w w') : RecAt f z w' a cap xs := RowAt.below h hb
theorem RecAt.mono (h : RecAt f z w a cap xs) (hb : ∀ p v, w.cell? p = some v → w'.cell? p = some v) : RecAt f z w' a cap xs := RowAt.mono h hb
theorem RecAt.max (h : RecAt f z w a cap xs) : xs.length ≤ 9223372036854775807 := Nat.le_trans h.2.1 h.2.2.1
theorem RecAt.le (h : RecAt f z w a cap xs) : xs.length ≤ cap := h.2.1
theorem RecAt.cap_le (h : RecAt f z w a cap xs) : cap ≤ 9223372036854775807 := h.2.2.1
theorem RecAt.nil (w : World) : RecAt f z w none 0 [] := ⟨by simp, Nat.le_refl _, by decide, fun _ => rfl, fun h => by simp at h⟩
theorem RecAt.addr (hz : ∀ x, (f x).length = z) (hz0 : 0 < z) (h : RecAt f z w a cap xs) (hp : 0 < xs.length) : ∃ b off, a = some ⟨b, off, none⟩ := by
  obtain ⟨b, off, ha, _⟩ := h.2.2.2.2 (by rw [rec_len hz]; exact Nat.mul_pos hp hz0)
  exact ⟨b, off, ha⟩
theorem RecAt.cell (hz : ∀ x, (f x).length = z) {b off : Nat} (h : RecAt f z w (some ⟨b, off, none⟩) cap xs) {k j : Nat} {x : α} {v : Value} (hk : xs[k]? = some x) (hj : (f x)[j]? = some v) :
    w.cell? ⟨b, off + k * z + j, none⟩ = some v := by
  have hg := rec_get hz hk hj
  have hlt := (List.getElem?_eq_some_iff.1 hg).1
  obtain ⟨b', off', ha, hc⟩ := h.2.2.2.2 (by omega)
  simp only [Option.some.injEq, Addr.mk.injEq, and_true] at ha
  obtain ⟨rfl, rfl⟩ := ha
  rw [Nat.add_assoc]
  exact hc _ _ hg
theorem RecAt.cell0 (hz : ∀ x, (f x).length = z) {b off : Nat} (h : RecAt f z w (some ⟨b, off, none⟩) cap xs) {k : Nat} {x : α} {v : Value} (hk : xs[k]? = some x) (hj : (f x)[0]? = some v) :
    w.cell? ⟨b, off + k * z, none⟩ = some v := h.cell hz hk hj
/-- A part of a slice of records. -/
theorem RecAt.take (hz : ∀ x, (f x).length = z) (h : RecAt f z w a cap xs) (k : Nat) : RecAt f z w a cap (xs.take k) := by
  refine ⟨rec_len hz _, Nat.le_trans (by simp; omega) h.2.1, h.2.2.1, h.2.2.2.1, fun hp => ?_⟩
  rw [rec_take hz] at hp
  obtain ⟨b, off, ha, hc⟩ := h.2.2.2.2 (by rw [List.length_take] at hp; omega)
  refine ⟨b, off, ha, fun i v hi => hc i v ?_⟩
  rw [rec_take hz, List.getElem?_take] at hi
  split at hi
  · exact hi
  · cases hi
theorem RecAt.drop (hz : ∀ x, (f x).length = z) {b off : Nat} (h : RecAt f z w (some ⟨b, off, none⟩) cap xs) (k : Nat) (hk : k ≤ xs.length) : RecAt f z w (some ⟨b, off + k * z, none⟩) (cap - k) (xs.drop k) := by
  have h1 := h.le
  have h2 := h.cap_le
  refine ⟨rec_len hz _, by rw [List.length_drop]; omega, by omega, by simp, fun hp => ⟨b, off + k * z, rfl, fun i v hi => ?_⟩⟩
  rw [rec_drop hz, List.getElem?_drop] at hi
  have hlt := (List.getElem?_eq_some_iff.1 hi).1
  obtain ⟨b', off', ha, hc⟩ := h.2.2.2.2 (by omega)
  simp only [Option.some.injEq, Addr.mk.injEq, and_true] at ha
  obtain ⟨rfl, rfl⟩ := ha
  rw [Nat.add_assoc]
  exact hc _ _ hi
/-- A block of records that has just been made. -/
theorem rec_new (hz : ∀ x, (f x).length = z) {w : World} {xs : List α} {e : Nat} (hn : xs.length ≤ 9223372036854775807) :
    RecAt f z (w.alloc (.cells (xs.flatMap f).toArray e)) (some ⟨w.heap.size, 0, none⟩) xs.length xs := row_new (rec_len hz xs) hn
/-- A slice of records that the call owns. -/
def OwnRec (f : α → List Value) (z : Nat) (e : TypeId) (w : World) (base : Nat) (v : Value) (xs : List α) : Prop := w.ownsRow base e z v xs.length (xs.flatMap f)
variable {e : TypeId} {base : Nat} {v : Value}
theorem OwnRec.at (h : OwnRec f z e w base v xs) : ∃ a cap, v = .slice a xs.length cap ∧ RecAt f z w a cap xs := by
  obtain ⟨a, cap, hv, hr⟩ := ownsRow_row h
  exact ⟨a, cap, hv, hr⟩
theorem OwnRec.below (h : OwnRec f z e w base v xs) (hb : Below w.heap.size w w') : OwnRec f z e w' base v xs := ownsRow_below h hb
theorem OwnRec.nil (w : World) (base : Nat) : OwnRec f z e w base (.slice none 0 0) [] := World.ownsRow_nil _ _ _ _
/-- A record more, as the walk has it. -/
theorem OwnRec.snoc {x : α} (h : w.ownsRow base e z v (xs.length + 1) (xs.flatMap f ++ f x)) : OwnRec f z e w base v (xs ++ [x]) := by
  unfold OwnRec
  rw [rec_app, List.length_append]
  simpa using h
end
end Go.Proofs.Ytaonhmdifinadaa
