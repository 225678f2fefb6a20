/-
  A heap whose blocks bear labels: what belongs to which object. Label 0: data that nobody writes any more. No program in sight.
-/
import Derived.Test.YtaonhmdifinadaaBase
import Derived.Maps.AppendAt
import Derived.Deep.RegionHeld3
namespace Go.Proofs.Ytaonhmdifinadaa
open Go Go.Proofs
open Go.RowKit
set_option linter.unusedVariables false

/-- From w to w' only blocks with a label of L have changed; old blocks keep their labels. -/
structure Step (L : Nat → Prop) (w : World) (o : Nat → Nat) (w' : World) (o' : Nat → Nat) : Prop where
  os : w'.os = w.os
  tape : w'.tape = w.tape
  output : w'.output = w.output
  size : w.heap.size ≤ w'.heap.size
  block : ∀ k, k < w.heap.size → ¬ L (o k) → w'.heap[k]? = w.heap[k]?
  lab : ∀ k, k < w.heap.size → o' k = o k

section
variable {L L' : Nat → Prop} {w w' w'' : World} {o o' o'' : Nat → Nat}
theorem Step.refl (L : Nat → Prop) (w : World) (o : Nat → Nat) : Step L w o w o := ⟨rfl, rfl, rfl, Nat.le_refl _, fun _ _ _ => rfl, fun _ _ => rfl⟩
theorem Step.trans (h : Step L w o w' o') (k : Step L w' o' w'' o'') : Step L w o w'' o'' :=
  ⟨k.os.trans h.os, k.tape.trans h.tape, k.output.trans h.output, Nat.le_trans h.size k.size,
    fun i hi hl => (k.block i (Nat.lt_of_lt_of_le hi h.size) (by rw [h.lab i hi]; exact hl)).trans (h.block i hi hl),
    fun i hi => (k.lab i (Nat.lt_of_lt_of_le hi h.size)).trans (h.lab i hi)⟩
theorem Step.mono (h : Step L w o w' o') (hL : ∀ i, L i → L' i) : Step L' w o w' o' :=
  ⟨h.os, h.tape, h.output, h.size, fun k hk hl => h.block k hk (fun e => hl (hL _ e)), h.lab⟩
theorem Step.below (h : Below w.heap.size w w') (hl : ∀ k, k < w.heap.size → o' k = o k) : Step L w o w' o' :=
  ⟨h.os, h.tape, h.output, h.size, fun k hk _ => h.block k hk, hl⟩
theorem Step.same (h : Below w.heap.size w w') : Step L w o w' o := Step.below h fun _ _ => rfl
theorem Step.toBelow {n : Nat} (h : Step L w o w' o') (hn : n ≤ w.heap.size) (hz : ∀ k, k < n → ¬ L (o k)) : Below n w w' :=
  ⟨h.os, h.tape, h.output, h.size, fun k hk => h.block k (by omega) (hz k hk)⟩
theorem Step.alloc (h : Step L w o w' o') (x : Obj) : Step L w o (w'.alloc x) o' := h.trans (Step.same ((Below.refl _ _).alloc (Nat.le_refl _) _))
theorem Step.drewN (h : Step L w o w' o') (n : Nat) : Step L w o (w'.drewN n) o' := h.trans (Step.same (Below.drewN n))
theorem Step.drew (h : Step L w o w' o') : Step L w o w'.drew o' := h.trans (Step.same (Below.drew (Below.refl _ _)))
theorem Step.set (h : Step L w o w' o') {p : Addr} (hp : L (o' p.block)) (u : Value) : Step L w o (w'.setCell p u) o' :=
  h.trans ⟨rfl, rfl, rfl, by simp [World.setCell], fun k _ hl => Below.heap_setCell _ _ _ _ (fun e => hl (by rw [e]; exact hp)), fun _ _ => rfl⟩
theorem Step.relab (h : Step L w o w' o') (hl : ∀ k, k < w.heap.size → o'' k = o' k) : Step L w o w' o'' :=
  ⟨h.os, h.tape, h.output, h.size, h.block, fun k hk => (hl k hk).trans (h.lab k hk)⟩
end

/-- New blocks get the label j. -/
def newLab (w : World) (o : Nat → Nat) (j : Nat) : Nat → Nat := fun k => if k < w.heap.size then o k else j
theorem newLab_old (w : World) (o : Nat → Nat) (j : Nat) {k : Nat} (h : k < w.heap.size) : newLab w o j k = o k := by simp [newLab, h]
theorem newLab_new (w : World) (o : Nat → Nat) (j : Nat) {k : Nat} (h : w.heap.size ≤ k) : newLab w o j k = j := by simp [newLab]; omega

/-- Data in a block that bears label l (0: nobody writes it any more): a slice that reads as xs. -/
def Dat (w : World) (o : Nat → Nat) (l : Nat) (a : Option Addr) (cap : Nat) (xs : List Value) : Prop :=
  SliceAt w a cap xs ∧ (0 < xs.length → ∀ b off, a = some ⟨b, off, none⟩ → o b = l)
theorem Dat.step {L : Nat → Prop} {w w' : World} {o o' : Nat → Nat} {l : Nat} {a : Option Addr} {cap : Nat} {xs : List Value} (h : Dat w o l a cap xs) (hs : Step L w o w' o') (h0 : ¬ L l) : Dat w' o' l a cap xs := by
  refine ⟨⟨h.1.1, h.1.2.1, h.1.2.2.1, fun hp => ?_⟩, fun hp b off ha => ?_⟩
  · obtain ⟨b, off, ha, hc⟩ := h.1.2.2.2 hp
    refine ⟨b, off, ha, fun i v hi => ?_⟩
    have h1 := hc i v hi
    have hlt := World.block_lt_of_cell? w _ h1
    exact (World.cell?_of_block (w := w) (a := ⟨b, off + i, none⟩) (hs.block b hlt (by rw [h.2 hp b off ha]; exact h0))).trans h1
  · rw [hs.lab b (h.1.lt hp b off ha)]
    exact h.2 hp b off ha
theorem Dat.slice {w : World} {o : Nat → Nat} {l : Nat} {a : Option Addr} {cap : Nat} {xs : List Value} (h : Dat w o l a cap xs) : SliceAt w a cap xs := h.1
/-- A slice in new memory may be labelled. -/
theorem Dat.new {w w' : World} {o : Nat → Nat} {l : Nat} {a : Option Addr} {cap : Nat} {xs : List Value} (h : SliceAt w' a cap xs) (hn : 0 < xs.length → ∀ b off, a = some ⟨b, off, none⟩ → w.heap.size ≤ b) : Dat w' (newLab w o l) l a cap xs :=
  ⟨h, fun hp b off ha => newLab_new w o l (hn hp b off ha)⟩
theorem Dat.nil {α : Type} (f : α → Value) (w : World) (o : Nat → Nat) (l : Nat) : Dat w o l none 0 (([] : List α).map f) := ⟨slice_nil f w, fun _ _ _ h => by cases h⟩
/-- What a call has made anew, read as a slice. -/
theorem Dat.ofRow {α : Type} {f : α → Value} {w w' : World} {o : Nat → Nat} {l : Nat} {e : TypeId} {v : Value} {n : Nat} {xs : List α} (h : w'.ownsRow w.heap.size e 1 v n (xs.map f)) :
    ∃ a cap, v = .slice a xs.length cap ∧ Dat w' (newLab w o l) l a cap (xs.map f) := by
  obtain ⟨a, cap, rfl, hs⟩ := ownsRow_sliceMap h
  exact ⟨a, cap, rfl, Dat.new hs fun _ b off ha => by subst ha; exact (h.lt b rfl).1⟩

/-- A row that object i owns. -/
def RowL (w : World) (o : Nat → Nat) (i : Nat) (e : TypeId) (size : Nat) (v : Value) (n : Nat) (xs : List Value) : Prop :=
  w.ownsRow 0 e size v n xs ∧ ∀ k, v.ownBlock = some k → o k = i
theorem RowL.step {L : Nat → Prop} {w w' : World} {o o' : Nat → Nat} {i : Nat} {e : TypeId} {size : Nat} {v : Value} {n : Nat} {xs : List Value} (h : RowL w o i e size v n xs) (hs : Step L w o w' o') (hi : ¬ L i) : RowL w' o' i e size v n xs := by
  refine ⟨⟨h.1.1, ?_⟩, fun k hk => ?_⟩
  · rcases h.1.2 with hn | ⟨g, cap, cur, rfl, hg, hgg, rest⟩
    · exact .inl hn
    · refine .inr ⟨g, cap, cur, rfl, hg, ?_, rest⟩
      rw [hs.block g (lt_of_block hgg) (by rw [h.2 g rfl]; exact hi)]
      exact hgg
  · rw [hs.lab k (h.1.lt k hk).2]
    exact h.2 k hk
theorem RowL.nil (w : World) (o : Nat → Nat) (i : Nat) (e : TypeId) (size : Nat) : RowL w o i e size (.slice none 0 0) 0 [] := ⟨World.ownsRow_nil _ _ _ _, fun k hk => by simp [Value.ownBlock] at hk⟩
theorem RowL.form {w : World} {o : Nat → Nat} {i : Nat} {e : TypeId} {size : Nat} {v : Value} {n : Nat} {xs : List Value} (h : RowL w o i e size v n xs) : ∃ a c, v = .slice a n c := by
  rcases h.1.2 with ⟨rfl, rfl⟩ | ⟨g, cap, cur, rfl, _⟩
  · exact ⟨_, _, rfl⟩
  · exact ⟨_, _, rfl⟩
theorem RowL.slice {w : World} {o : Nat → Nat} {i : Nat} {e : TypeId} {a : Option Addr} {n n' c : Nat} {xs : List Value} (h : RowL w o i e 1 (.slice a n c) n' xs) : SliceAt w a c xs := by
  obtain ⟨a', c', he, _, hs⟩ := ownsRow_slice h.1
  simp only [Value.slice.injEq] at he
  obtain ⟨rfl, _, rfl⟩ := he
  exact hs
/-- What a call has made anew belongs to i. -/
theorem RowL.new {w w' : World} {o : Nat → Nat} {i : Nat} {e : TypeId} {size : Nat} {v : Value} {n : Nat} {xs : List Value} (h : w'.ownsRow w.heap.size e size v n xs) : RowL w' (newLab w o i) i e size v n xs := by
  refine ⟨⟨h.1, ?_⟩, fun k hk => newLab_new w o i (h.lt k hk).1⟩
  rcases h.2 with hn | ⟨g, cap, cur, rfl, hg, rest⟩
  · exact .inl hn
  · exact .inr ⟨g, cap, cur, rfl, Nat.zero_le _, rest⟩

/-- 'append' to a row that bears label l, in a world in which nothing old has changed since w₀: the row, grown, bears l again. -/
theorem run_append_row {P : Program} {w₀ w : World} {o : Nat → Nat} {l : Nat} {t e : TypeId} {z : Value} {size bytes : Nat} (E : ElemT P t e z size bytes) (ty : TypeId)
    {v : Value} {n : Nat} {xs : List Value} (hown : RowL w₀ o l e size v n xs) (hb : Below w₀.heap.size w₀ w) (ao : Option Addr) (m c : Nat) (news : List Value)
    (hsrc : RowAt w ao m c size news) (h1 : ∀ u ∈ news, u.oneCell' = true)
    (h63 : n + m ≤ 9223372036854775807) (hbytes : (n + m) * bytes ≤ 140737488355328) :
    ∃ v' w', (Builtin.append_ #[t, t] ty #[v, .slice ao m c]).run P w = .ok v' w' ∧ RowL w' (newLab w₀ o l) l e size v' (n + m) (xs ++ news) ∧ Step (· = l) w₀ o w' (newLab w₀ o l) := by
  obtain ⟨i, hi, hz0, hz1, hz2⟩ := E.info
  have hown' := ownsRow_below hown.1 hb
  cases ao with
  | none =>
    have hc : c = 0 := hsrc.2.2.2.1 rfl
    subst hc
    have hm : m = 0 := by have := hsrc.2.1; omega
    subst hm
    have hnews : news = [] := List.eq_nil_of_length_eq_zero (by simpa using hsrc.1)
    subst hnews
    have hrun := run_append_owned_none (P := P) (w := w) 0 t ty e i size E.und hi v n xs hown'
    exact ⟨v, w, hrun, ⟨by simpa using hown', fun k hk => by rw [newLab_old _ _ _ (hown.1.lt k hk).2]; exact hown.2 k hk⟩, Step.below hb fun k hk => newLab_old _ _ _ hk⟩
  | some ad =>
    have hcells : ∀ j u, news[j]? = some u → w.cell? (ad.add j) = some u := by
      intro j u hj
      have hp : 0 < news.length := by
        have := (List.getElem?_eq_some_iff.1 hj).1
        omega
      obtain ⟨b, off, ha, hc⟩ := hsrc.2.2.2.2 hp
      simp only [Option.some.injEq] at ha
      subst ha
      rw [Addr.add_lit]
      exact hc j u hj
    obtain ⟨v', w', hr, h2, h3, _, h5⟩ := run_append_own_at (P := P) w 0 t ty e i z size bytes E.und hi hz0 hz1 hz2 E.zs E.pos v n xs hown' ad m c news hsrc.1 hcells h1 (by simpa [maxLen] using h63) hbytes (Nat.zero_le _)
    refine ⟨v', w', hr, ⟨h2, fun k hk => ?_⟩, (Step.below hb fun k hk => newLab_old _ _ _ hk).trans ⟨h3.os, h3.tape, h3.output, h3.size, fun k hk hl => h3.block k hk fun e => hl ?_, fun _ _ => rfl⟩⟩
    · rcases h5 with h5 | h5
      · rw [h5] at hk
        rw [newLab_old _ _ _ (hown.1.lt k hk).2]; exact hown.2 k hk
      · rw [h5] at hk
        simp only [Option.some.injEq] at hk
        subst hk
        exact newLab_new _ _ _ hb.size
    · rw [newLab_old _ _ _ (hown.1.lt k e.symm).2]; exact hown.2 k e.symm

theorem wpList_append_row {P : Program} {w₀ w : World} {ops : Array Oper} {rest : List Oper} {q : Oper} {a : Act} {Q : Exit → Act → World → Prop}
    (hg : q.guard = none) (s x : Operand) (t : TypeId) (ho : q.op = .call { callee := .builtin .append, args := #[s, x], argTypes := #[t, t] })
    {e : TypeId} {z : Value} {size bytes : Nat} (E : ElemT P t e z size bytes) {o : Nat → Nat} {l : Nat}
    {v : Value} {n : Nat} {xs : List Value} (hs : a.eval s = v) (hown : RowL w₀ o l e size v n xs) (hb : Below w₀.heap.size w₀ w) (ao : Option Addr) (m c : Nat) (news : List Value) (hx : a.eval x = .slice ao m c)
    (hsrc : RowAt w ao m c size news) (h1 : ∀ u ∈ news, u.oneCell' = true)
    (h63 : n + m ≤ 9223372036854775807) (hbytes : (n + m) * bytes ≤ 140737488355328)
    (h : ∀ v' w', RowL w' (newLab w₀ o l) l e size v' (n + m) (xs ++ news) → Step (· = l) w₀ o w' (newLab w₀ o l) → wpList P ops Q rest (a.put q.dst v') w') : wpList P ops Q (q :: rest) a w := by
  refine wpList_plain hg fun _ hK => ?_
  obtain ⟨v', w', hr, h2, h3⟩ := run_append_row (P := P) E q.type hown hb ao m c news hsrc h1 h63 hbytes
  unfold Oper.wp execOp
  simp only [ho, resolve, invoke, builtin, Sem.run_bind, Sem.run_pure, Result.andThen_ok, List.map_toArray, List.map_cons, List.map_nil, hs, hx, hr]
  exact hK _ _ (h v' w' h2 h3)

theorem step_append_row {P : Program} {w₀ w : World} {ops : Array Oper} {q : Oper} {a : Act} {K : Act → World → Prop} {Q : Exit → Act → World → Prop} {E' : Prop}
    (hg : q.guard = none) (s x : Operand) (t : TypeId) (ho : q.op = .call { callee := .builtin .append, args := #[s, x], argTypes := #[t, t] })
    {e : TypeId} {z : Value} {size bytes : Nat} (E : ElemT P t e z size bytes) {o : Nat → Nat} {l : Nat}
    {v : Value} {n : Nat} {xs : List Value} (hs : a.eval s = v) (hown : RowL w₀ o l e size v n xs) (hb : Below w₀.heap.size w₀ w) (ao : Option Addr) (m c : Nat) (news : List Value) (hx : a.eval x = .slice ao m c)
    (hsrc : RowAt w ao m c size news) (h1 : ∀ u ∈ news, u.oneCell' = true)
    (h63 : n + m ≤ 9223372036854775807) (hbytes : (n + m) * bytes ≤ 140737488355328)
    (h : ∀ v' w', RowL w' (newLab w₀ o l) l e size v' (n + m) (xs ++ news) → Step (· = l) w₀ o w' (newLab w₀ o l) → K (a.put q.dst v') w') :
    if Region.wanted q (yielded ops a.tmps) = true then Oper.wp P q a w K Q else E' := by
  have hw : Region.wanted q (yielded ops a.tmps) = true := by simp [Region.wanted, hg]
  rw [if_pos hw]
  obtain ⟨v', w', hr, h2, h3⟩ := run_append_row (P := P) E q.type hown hb ao m c news hsrc h1 h63 hbytes
  unfold Oper.wp execOp
  simp only [ho, resolve, invoke, builtin, Sem.run_bind, Sem.run_pure, Result.andThen_ok, List.map_toArray, List.map_cons, List.map_nil, hs, hx, hr]
  exact h v' w' h2 h3

/-- A struct's block, or another block of cells, of object i. -/
def Blk (w : World) (o : Nat → Nat) (i : Nat) (b : Nat) (cs : List Value) : Prop := ∃ t, w.heap[b]? = some (.cells cs.toArray t (0, 0)) ∧ o b = i
section
variable {L : Nat → Prop} {w w' : World} {o o' : Nat → Nat} {i b : Nat} {cs : List Value}
theorem Blk.lt (h : Blk w o i b cs) : b < w.heap.size := by obtain ⟨t, h, _⟩ := h; exact lt_of_block h
theorem Blk.lab (h : Blk w o i b cs) : o b = i := by obtain ⟨_, _, h⟩ := h; exact h
theorem Blk.step (h : Blk w o i b cs) (hs : Step L w o w' o') (hi : ¬ L i) : Blk w' o' i b cs := by
  have hlt := h.lt
  obtain ⟨t, h1, h2⟩ := h
  exact ⟨t, by rw [hs.block b hlt (by rw [h2]; exact hi)]; exact h1, by rw [hs.lab b hlt]; exact h2⟩
theorem Blk.cell (h : Blk w o i b cs) {j : Nat} {v : Value} (hj : cs[j]? = some v) : w.cell? ⟨b, j, none⟩ = some v := by
  obtain ⟨t, h1, _⟩ := h
  rw [cell_of_row w b j cs.toArray t (0, 0) h1]
  simpa using hj
theorem Blk.frozen (h : Blk w o i b cs) (j : Nat) : w.frozen? ⟨b, j, none⟩ = false := by
  obtain ⟨t, h1, _⟩ := h
  simp [World.frozen?, h1]
theorem Blk.set (h : Blk w o i b cs) (j : Nat) (u : Value) : Blk (w.setCell ⟨b, j, none⟩ u) o i b (cs.set j u) := by
  have hlt := h.lt
  obtain ⟨t, h1, h2⟩ := h
  refine ⟨t, ?_, h2⟩
  have hh : w.heap[b] = .cells cs.toArray t (0, 0) := by simpa [Array.getElem?_eq_getElem hlt] using h1
  show (w.heap.modify b _)[b]? = _
  rw [Array.getElem?_eq_getElem (by simpa using hlt), Array.getElem_modify_self, hh]
  simp
theorem Blk.relab (h : Blk w o i b cs) (hl : o' b = o b) : Blk w o' i b cs := by obtain ⟨t, h1, h2⟩ := h; exact ⟨t, h1, hl.trans h2⟩
end
end Go.Proofs.Ytaonhmdifinadaa
