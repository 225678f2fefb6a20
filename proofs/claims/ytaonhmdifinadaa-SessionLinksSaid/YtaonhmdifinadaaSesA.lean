/-
  A session in memory: the records, the object.
-/
import Derived.Test.YtaonhmdifinadaaSesN
import Derived.Test.YtaonhmdifinadaaCells
namespace Go.Proofs.Ytaonhmdifinadaa
open Go Go.Proofs
open Go.RowKit
set_option linter.unusedVariables false
set_option linter.unusedSimpArgs false

def rqC (r : Rq) : List Value := [.int .i64 r.id, .int .i64 r.kind, .string r.doc, .int .i64 r.ver, .int .i64 r.off, .string r.txt]
def anC (a : An) : List Value := [.int .i64 a.id, .int .i64 a.err, .int .i64 a.ver, .string a.txt]
def vnC (v : Vn) : List Value := [.string v.doc, .int .i64 v.ver]
theorem rqZ (r : Rq) : (rqC r).length = 6 := rfl
theorem anZ (r : An) : (anC r).length = 4 := rfl
theorem vnZ (r : Vn) : (vnC r).length = 2 := rfl
theorem rqO (r : Rq) : ∀ u ∈ rqC r, u.oneCell' = true := by
  intro u hu
  simp only [rqC, List.mem_cons, List.not_mem_nil, or_false] at hu
  rcases hu with rfl | rfl | rfl | rfl | rfl | rfl <;> rfl
theorem anO (r : An) : ∀ u ∈ anC r, u.oneCell' = true := by
  intro u hu
  simp only [anC, List.mem_cons, List.not_mem_nil, or_false] at hu
  rcases hu with rfl | rfl | rfl | rfl <;> rfl
theorem vnO (r : Vn) : ∀ u ∈ vnC r, u.oneCell' = true := by
  intro u hu
  simp only [vnC, List.mem_cons, List.not_mem_nil, or_false] at hu
  rcases hu with rfl | rfl <;> rfl
section
variable {w : World} {b off cap : Nat}
theorem Rqs.cells {es : List Rq} (h : RecAt rqC 6 w (some ⟨b, off, none⟩) cap es) {k : Nat} {e : Rq} (hk : es[k]? = some e) :
    w.cell? ⟨b, off + k * 6, none⟩ = some (.int .i64 e.id) ∧ w.cell? ⟨b, off + k * 6 + 1, none⟩ = some (.int .i64 e.kind) ∧ w.cell? ⟨b, off + k * 6 + 2, none⟩ = some (.string e.doc) ∧
    w.cell? ⟨b, off + k * 6 + 3, none⟩ = some (.int .i64 e.ver) ∧ w.cell? ⟨b, off + k * 6 + 4, none⟩ = some (.int .i64 e.off) ∧ w.cell? ⟨b, off + k * 6 + 5, none⟩ = some (.string e.txt) :=
  ⟨RecAt.cell0 rqZ h hk rfl, RecAt.cell rqZ h hk rfl, RecAt.cell rqZ h hk rfl, RecAt.cell rqZ h hk rfl, RecAt.cell rqZ h hk rfl, RecAt.cell rqZ h hk rfl⟩
theorem Ans.cells {es : List An} (h : RecAt anC 4 w (some ⟨b, off, none⟩) cap es) {k : Nat} {e : An} (hk : es[k]? = some e) :
    w.cell? ⟨b, off + k * 4, none⟩ = some (.int .i64 e.id) ∧ w.cell? ⟨b, off + k * 4 + 1, none⟩ = some (.int .i64 e.err) ∧ w.cell? ⟨b, off + k * 4 + 2, none⟩ = some (.int .i64 e.ver) ∧ w.cell? ⟨b, off + k * 4 + 3, none⟩ = some (.string e.txt) :=
  ⟨RecAt.cell0 anZ h hk rfl, RecAt.cell anZ h hk rfl, RecAt.cell anZ h hk rfl, RecAt.cell anZ h hk rfl⟩
theorem Vns.cells {es : List Vn} (h : RecAt vnC 2 w (some ⟨b, off, none⟩) cap es) {k : Nat} {e : Vn} (hk : es[k]? = some e) :
    w.cell? ⟨b, off + k * 2, none⟩ = some (.string e.doc) ∧ w.cell? ⟨b, off + k * 2 + 1, none⟩ = some (.int .i64 e.ver) :=
  ⟨RecAt.cell0 vnZ h hk rfl, RecAt.cell vnZ h hk rfl⟩
end

/-- A session: object i, its struct in block b; the types of its requests and of its answers. -/
def SesAt (tr ta : TypeId) (w : World) (o : Nat → Nat) (i b : Nat) (S : SesS) : Prop :=
  ∃ rv av, Blk w o (10 * i) b [rv, .bool S.run, .int .i64 S.last, av] ∧ RecL rqC 6 tr w o (10 * i + 1) rv S.rq ∧ RecL anC 4 ta w o (10 * i + 2) av S.an
section
variable {tr ta : TypeId} {w w' : World} {o o' : Nat → Nat} {i b : Nat} {S : SesS} {L : Nat → Prop}
theorem SesAt.step (h : SesAt tr ta w o i b S) (hs : Step L w o w' o') (hi : ∀ l, Own i l → ¬ L l) : SesAt tr ta w' o' i b S := by
  obtain ⟨rv, av, h1, h2, h3⟩ := h
  exact ⟨rv, av, h1.step hs (hi _ (Own.at0 i)), h2.step hs (hi _ (Own.at1 i)), h3.step hs (hi _ (Own.at2 i))⟩
theorem SesAt.same (h : SesAt tr ta w o i b S) (hb : Below w.heap.size w w') : SesAt tr ta w' o i b S := h.step (L := fun _ => False) (Step.same hb) fun _ _ h => h
/-- A session that has just been made. -/
theorem SesAt.new {t : TypeId} : SesAt tr ta (w.alloc (.cells #[.slice none 0 0, .bool false, .int .i64 0, .slice none 0 0] t)) (newLab w o (10 * i)) i w.heap.size newS :=
  ⟨.slice none 0 0, .slice none 0 0, ⟨t, heap_alloc_new w _, newLab_new w o _ (Nat.le_refl _)⟩, RecL.nil _ _ _, RecL.nil _ _ _⟩
end
theorem Step.newBlk {w : World} {o : Nat → Nat} (L : Nat → Prop) (x : Obj) (j : Nat) : Step L w o (w.alloc x) (newLab w o j) := Step.below ((Below.refl _ w).alloc (Nat.le_refl _) x) fun k hk => newLab_old w o j hk

/-! ### The plain laws in the form in which the code computes them -/
theorem ixR_cons (r : Rq) (l : List Rq) (id : Int) : ixR (r :: l) id = if r.id = id then 0 else ixR l id + 1 := by
  unfold ixR
  rw [List.findIdx_cons]
  by_cases h : r.id = id
  · simp [h]
  · have : (r.id == id) = false := by simpa using h
    rw [this, if_neg h]; rfl
theorem ixR_hit {l : List Rq} {id : Int} {k : Nat} {r : Rq} (hk : l[k]? = some r) (h : r.id = id) (hb : ∀ j, j < k → ∀ x, l[j]? = some x → x.id ≠ id) : ixR l id = k := by
  induction l generalizing k with
  | nil => simp at hk
  | cons x xs ih =>
    rw [ixR_cons]
    cases k with
    | zero => simp at hk; subst hk; rw [if_pos h]
    | succ k =>
      rw [if_neg (hb 0 (by omega) x rfl), ih (k := k) (by simpa using hk) fun j hj y hy => hb (j + 1) (by omega) y (by simpa using hy)]
theorem ixR_miss {l : List Rq} {id : Int} (hb : ∀ (j : Nat) (x : Rq), l[j]? = some x → x.id ≠ id) : ixR l id = l.length := by
  induction l with
  | nil => rfl
  | cons x xs ih =>
    rw [ixR_cons, if_neg (hb 0 x rfl), ih fun j y hy => hb (j + 1) y (by simpa using hy), List.length_cons]
theorem ixR_le (l : List Rq) (id : Int) : ixR l id ≤ l.length := List.findIdx_le_length
theorem stale_nil (r : Rq) : stale [] r = true := rfl
theorem stale_cons (v : Vn) (l : List Vn) (r : Rq) : stale (v :: l) r = if v.doc = r.doc then v.ver != r.ver else stale l r := by
  unfold stale
  by_cases h : v.doc = r.doc <;> simp [List.find?_cons, h]
/-- Where the first version of the document stands. -/
def ixV (l : List Vn) (d : ByteArray) : Nat := l.findIdx fun v => decide (v.doc = d)
theorem ixV_cons (v : Vn) (l : List Vn) (d : ByteArray) : ixV (v :: l) d = if v.doc = d then 0 else ixV l d + 1 := by
  unfold ixV
  rw [List.findIdx_cons]
  by_cases h : v.doc = d <;> simp [h]
theorem ixV_hit {l : List Vn} {d : ByteArray} {k : Nat} {r : Vn} (hk : l[k]? = some r) (h : r.doc = d) (hb : ∀ j, j < k → ∀ x, l[j]? = some x → x.doc ≠ d) : ixV l d = k := by
  induction l generalizing k with
  | nil => simp at hk
  | cons x xs ih =>
    rw [ixV_cons]
    cases k with
    | zero => simp at hk; subst hk; rw [if_pos h]
    | succ k =>
      rw [if_neg (hb 0 (by omega) x rfl), ih (k := k) (by simpa using hk) fun j hj y hy => hb (j + 1) (by omega) y (by simpa using hy)]
theorem ixV_miss {l : List Vn} {d : ByteArray} (hb : ∀ (j : Nat) (x : Vn), l[j]? = some x → x.doc ≠ d) : ixV l d = l.length := by
  induction l with
  | nil => rfl
  | cons x xs ih =>
    rw [ixV_cons, if_neg (hb 0 x rfl), ih fun j y hy => hb (j + 1) y (by simpa using hy), List.length_cons]
theorem stale_ix (l : List Vn) (r : Rq) : stale l r = match l[ixV l r.doc]? with | none => true | some v => v.ver != r.ver := by
  induction l with
  | nil => rfl
  | cons x xs ih =>
    rw [stale_cons, ixV_cons]
    by_cases h : x.doc = r.doc
    · simp [h]
    · simp [h, ih]
end Go.Proofs.Ytaonhmdifinadaa
