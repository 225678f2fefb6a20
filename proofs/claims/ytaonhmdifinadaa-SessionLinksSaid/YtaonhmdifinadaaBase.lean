/-
  Words on memory that every contract here uses: a slice that reads as given values, what is owned, append.
-/
import Derived.WalkKit
import Derived.WalkLawsBesides
import Derived.WalkSpells
import Derived.Lib.Hide
import Derived.Deep.QuietTactic
import Derived.BigQuiet
import Derived.Laws.AppendOwnNone
import Derived.OwnWalkIn
import Derived.RangeFuncBox
import Derived.Laws.IdiomStrings
namespace Go.Proofs.Ytaonhmdifinadaa
open Go Go.Proofs
open Go.RowKit

/-- A slice value reads as the given one-cell values. -/
def SliceAt (w : World) (a : Option Addr) (cap : Nat) (xs : List Value) : Prop :=
  xs.length ≤ cap ∧ cap ≤ 9223372036854775807 ∧ (a = none → cap = 0) ∧
    (0 < xs.length → ∃ b off, a = some ⟨b, off, none⟩ ∧ ∀ i v, xs[i]? = some v → w.cell? ⟨b, off + i, none⟩ = some v)

section
variable {w w' : World} {a : Option Addr} {cap : Nat} {xs : List Value}
theorem SliceAt.le (h : SliceAt w a cap xs) : xs.length ≤ cap := h.1
theorem SliceAt.max (h : SliceAt w a cap xs) : cap ≤ 9223372036854775807 := h.2.1
theorem SliceAt.len (h : SliceAt w a cap xs) : xs.length ≤ 9223372036854775807 := Nat.le_trans h.1 h.2.1
theorem SliceAt.mono (h : SliceAt w a cap xs) (hb : ∀ p v, w.cell? p = some v → w'.cell? p = some v) : SliceAt w' a cap xs := by
  refine ⟨h.1, h.2.1, h.2.2.1, fun hp => ?_⟩
  obtain ⟨b, off, ha, hc⟩ := h.2.2.2 hp
  exact ⟨b, off, ha, fun i v hi => hb _ _ (hc i v hi)⟩
theorem Below.kept {B : Nat} (hb : Below B w w') (hB : w.heap.size ≤ B) {p : Addr} {v : Value} (h : w.cell? p = some v) : w'.cell? p = some v := by
  have hlt : p.block < w.heap.size := World.block_lt_of_cell? w _ h
  rw [hb.cell (p := p) (by omega)]
  exact h
theorem SliceAt.below (h : SliceAt w a cap xs) (hb : Below w.heap.size w w') : SliceAt w' a cap xs :=
  h.mono fun _ _ hc => Below.kept hb (Nat.le_refl _) hc
theorem SliceAt.addr (h : SliceAt w a cap xs) (hp : 0 < xs.length) : ∃ b off, a = some ⟨b, off, none⟩ := by
  obtain ⟨b, off, ha, _⟩ := h.2.2.2 hp
  exact ⟨b, off, ha⟩
theorem SliceAt.cell {b off : Nat} (h : SliceAt w (some ⟨b, off, none⟩) cap xs) {i : Nat} {v : Value} (hi : xs[i]? = some v) : w.cell? ⟨b, off + i, none⟩ = some v := by
  have hp : 0 < xs.length := by
    have := (List.getElem?_eq_some_iff.1 hi).1
    omega
  obtain ⟨b', off', ha, hc⟩ := h.2.2.2 hp
  simp only [Option.some.injEq, Addr.mk.injEq, and_true] at ha
  obtain ⟨rfl, rfl⟩ := ha
  exact hc i v hi
theorem SliceAt.int {k : IntKind} {b off : Nat} {zs : List Int} (h : SliceAt w (some ⟨b, off, none⟩) cap (zs.map (.int k))) {i : Nat} (hi : i < zs.length) : w.cell? ⟨b, off + i, none⟩ = some (.int k zs[i]) :=
  h.cell (by simp [hi])
theorem SliceAt.byte {b off : Nat} {zs : List UInt8} (h : SliceAt w (some ⟨b, off, none⟩) cap (zs.map fun c => .int .u8 c.toNat)) {i : Nat} (hi : i < zs.length) : w.cell? ⟨b, off + i, none⟩ = some (.int .u8 zs[i].toNat) :=
  h.cell (by simp [hi])
end

/-- Where what lies below B is kept, a slice that lies below B is. -/
theorem SliceAt.keep {w w' : World} {a : Option Addr} {cap B : Nat} {xs : List Value} (h : SliceAt w a cap xs) (hb : Below B w w') (hB : 0 < xs.length → ∀ b off, a = some ⟨b, off, none⟩ → b < B) : SliceAt w' a cap xs := by
  refine ⟨h.1, h.2.1, h.2.2.1, fun hp => ?_⟩
  obtain ⟨b, off, ha, hc⟩ := h.2.2.2 hp
  refine ⟨b, off, ha, fun i v hi => ?_⟩
  rw [hb.cell (p := ⟨b, off + i, none⟩) (hB hp b off ha)]
  exact hc i v hi
theorem SliceAt.lt {w : World} {a : Option Addr} {cap : Nat} {xs : List Value} (h : SliceAt w a cap xs) (hp : 0 < xs.length) : ∀ b off, a = some ⟨b, off, none⟩ → b < w.heap.size := by
  intro b off ha
  subst ha
  have h0 : xs[0]? = some xs[0] := List.getElem?_eq_getElem hp
  exact World.block_lt_of_cell? w _ (h.cell h0)

theorem ownsRow_below {w w' : World} {base : Nat} {e : TypeId} {size : Nat} {v : Value} {n : Nat} {xs : List Value} (h : w.ownsRow base e size v n xs) (hb : Below w.heap.size w w') : w'.ownsRow base e size v n xs := by
  refine ⟨h.1, ?_⟩
  rcases h.2 with hn | ⟨g, cap, cur, rfl, hg, hgg, rest⟩
  · exact .inl hn
  · refine .inr ⟨g, cap, cur, rfl, hg, ?_, rest⟩
    rw [hb.block g (lt_of_block hgg)]
    exact hgg

/-- What is owned can be read. -/
theorem ownsRow_slice {w : World} {base : Nat} {e : TypeId} {v : Value} {n : Nat} {xs : List Value} (h : w.ownsRow base e 1 v n xs) :
    ∃ a cap, v = .slice a xs.length cap ∧ n = xs.length ∧ SliceAt w a cap xs := by
  obtain ⟨hl, h2⟩ := h
  have hn : n = xs.length := by omega
  subst hn
  rcases h2 with ⟨rfl, h0⟩ | ⟨g, cap, cur, rfl, hg, hgg, hc, hm, hs, ht⟩
  · have : xs = [] := List.eq_nil_of_length_eq_zero h0
    subst this
    exact ⟨none, 0, rfl, rfl, by simp, by omega, fun _ => rfl, fun h => by simp at h⟩
  · refine ⟨_, cap, rfl, rfl, hc, by simpa [maxLen] using hm, by simp, fun hp => ⟨g, 0, rfl, fun i v hi => ?_⟩⟩
    rw [Nat.zero_add, cell_of_row w g i cur e (0, 0) hgg]
    have hlt := (List.getElem?_eq_some_iff.1 hi).1
    have e2 : (List.take (xs.length * 1) cur.toList)[i]? = some v := by rw [ht]; exact hi
    rw [List.getElem?_take, if_pos (by omega)] at e2
    simpa using e2
/-- A slice value of n elements, each of 'size' cells, reads as the given cells. -/
def RowAt (w : World) (a : Option Addr) (n cap size : Nat) (cs : List Value) : Prop :=
  cs.length = n * size ∧ n ≤ cap ∧ cap ≤ 9223372036854775807 ∧ (a = none → cap = 0) ∧
    (0 < cs.length → ∃ b off, a = some ⟨b, off, none⟩ ∧ ∀ i v, cs[i]? = some v → w.cell? ⟨b, off + i, none⟩ = some v)

section
variable {w w' : World} {a : Option Addr} {n cap size : Nat} {cs : List Value}
theorem RowAt.mono (h : RowAt w a n cap size cs) (hb : ∀ p v, w.cell? p = some v → w'.cell? p = some v) : RowAt w' a n cap size cs := by
  refine ⟨h.1, h.2.1, h.2.2.1, h.2.2.2.1, fun hp => ?_⟩
  obtain ⟨b, off, ha, hc⟩ := h.2.2.2.2 hp
  exact ⟨b, off, ha, fun i v hi => hb _ _ (hc i v hi)⟩
theorem RowAt.below (h : RowAt w a n cap size cs) (hb : Below w.heap.size w w') : RowAt w' a n cap size cs :=
  h.mono fun _ _ hc => Below.kept hb (Nat.le_refl _) hc
theorem SliceAt.row {xs : List Value} (h : SliceAt w a cap xs) : RowAt w a xs.length cap 1 xs := ⟨by simp, h⟩
theorem RowAt.slice {xs : List Value} (h : RowAt w a n cap 1 xs) : n = xs.length ∧ SliceAt w a cap xs := by
  obtain ⟨h1, h2⟩ := h
  have : n = xs.length := by omega
  subst this
  exact ⟨rfl, h2⟩
theorem SliceAt.take {xs : List Value} (h : SliceAt w a cap xs) (m : Nat) : SliceAt w a cap (xs.take m) := by
  refine ⟨Nat.le_trans (by simp; omega) h.1, h.2.1, h.2.2.1, fun hp => ?_⟩
  obtain ⟨b, off, ha, hc⟩ := h.2.2.2 (by simp at hp; omega)
  refine ⟨b, off, ha, fun i v hi => hc i v ?_⟩
  rw [List.getElem?_take] at hi
  split at hi
  · exact hi
  · cases hi
end

/-- The block that has just been made, as a row. -/
theorem row_new {w : World} {cs : List Value} {e n size : Nat} (h : cs.length = n * size) (hn : n ≤ 9223372036854775807) :
    RowAt (w.alloc (.cells cs.toArray e)) (some ⟨w.heap.size, 0, none⟩) n n size cs := by
  refine ⟨h, Nat.le_refl _, hn, by simp, fun _ => ⟨w.heap.size, 0, rfl, fun i v hi => ?_⟩⟩
  rw [Nat.zero_add, cell_of_row _ w.heap.size i cs.toArray e (0, 0) (heap_alloc_new w _)]
  simpa using hi

theorem slice_new {α : Type} {f : α → Value} {w : World} {xs : List α} {e : Nat} (hn : xs.length ≤ 9223372036854775807) :
    SliceAt (w.alloc (.cells (xs.map f).toArray e)) (some ⟨w.heap.size, 0, none⟩) xs.length (xs.map f) := by
  have := (row_new (w := w) (cs := xs.map f) (e := e) (n := xs.length) (size := 1) (by simp) hn).slice.2
  exact this

/-- What is known of a slice type. -/
structure ElemT (P : Program) (t e : TypeId) (z : Value) (size bytes : Nat) : Prop where
  und : P.underlying t = some (.slice e)
  info : ∃ i, P.info? e = some i ∧ i.zero = some z ∧ i.size = size ∧ i.bytes = bytes
  zs : z.cells.size = size
  pos : 0 < size

theorem ownsRow_block {w : World} {base : Nat} {e : TypeId} {size : Nat} {v : Value} {n : Nat} {xs : List Value} (h : w.ownsRow base e size v n xs) (k : Nat) (hk : v.ownBlock = some k) : base ≤ k := (h.lt k hk).1

/-- 'append' to what is owned, out of whatever source. -/
theorem run_append_src {P : Program} (w : World) {t e : TypeId} {z : Value} {size bytes : Nat} (E : ElemT P t e z size bytes) (ty : TypeId) (base : Nat)
    (v : Value) (n : Nat) (xs : List Value) (hown : w.ownsRow base e size v n xs) (ao : Option Addr) (m c : Nat) (news : List Value)
    (hsrc : RowAt w ao m c size news) (h1 : ∀ u ∈ news, u.oneCell' = true)
    (h63 : n + m ≤ 9223372036854775807) (hbytes : (n + m) * bytes ≤ 140737488355328) (hbase : base ≤ w.heap.size) :
    ∃ v' w', (Builtin.append_ #[t, t] ty #[v, .slice ao m c]).run P w = .ok v' w' ∧ w'.ownsRow base e size v' (n + m) (xs ++ news) ∧ Below base w w' ∧ w.grownBy w' v.ownBlock := by
  obtain ⟨i, hi, hz0, hz1, hz2⟩ := E.info
  cases ao with
  | none =>
    have hc : c = 0 := hsrc.2.2.2.1 rfl
    subst hc
    have hm : m = 0 := by have := hsrc.2.1; omega
    subst hm
    have hnews : news = [] := List.eq_nil_of_length_eq_zero (by simpa using hsrc.1)
    subst hnews
    have hrun := run_append_owned_none (P := P) (w := w) base t ty e i size E.und hi v n xs hown
    exact ⟨v, w, hrun, by simpa using hown, Below.refl _ _, World.grownBy.refl _ _⟩
  | some ad =>
    have hcells : ∀ j u, news[j]? = some u → w.cell? (ad.add j) = some u := by
      intro j u hj
      have hp : 0 < news.length := by
        have := (List.getElem?_eq_some_iff.1 hj).1
        omega
      obtain ⟨b, off, ha, hc⟩ := hsrc.2.2.2.2 hp
      simp only [Option.some.injEq] at ha
      subst ha
      rw [Addr.add_lit]
      exact hc j u hj
    obtain ⟨v', w', hr, h2, h3, h4⟩ := run_append_own (P := P) w base t ty e i z size bytes E.und hi hz0 hz1 hz2 E.zs E.pos v n xs hown ad m c news hsrc.1 hcells h1 (by simpa [maxLen] using h63) hbytes hbase
    exact ⟨v', w', hr, h2, (Below.refl _ _).grown h3 hbase fun k hk => ownsRow_block hown k hk, h3⟩

theorem wpList_append_src {P : Program} (w : World) {ops : Array Oper} {rest : List Oper} {o : Oper} {a : Act} {Q : Exit → Act → World → Prop}
    (hg : o.guard = none) (s x : Operand) (t : TypeId) (ho : o.op = .call { callee := .builtin .append, args := #[s, x], argTypes := #[t, t] })
    {e : TypeId} {z : Value} {size bytes : Nat} (E : ElemT P t e z size bytes) (base : Nat)
    (v : Value) (n : Nat) (xs : List Value) (hs : a.eval s = v) (hown : w.ownsRow base e size v n xs) (ao : Option Addr) (m c : Nat) (news : List Value) (hx : a.eval x = .slice ao m c)
    (hsrc : RowAt w ao m c size news) (h1 : ∀ u ∈ news, u.oneCell' = true)
    (h63 : n + m ≤ 9223372036854775807) (hbytes : (n + m) * bytes ≤ 140737488355328) (hbase : base ≤ w.heap.size)
    (h : ∀ v' w', w'.ownsRow base e size v' (n + m) (xs ++ news) → Below base w w' → w.grownBy w' v.ownBlock → wpList P ops Q rest (a.put o.dst v') w') : wpList P ops Q (o :: rest) a w := by
  refine wpList_plain hg fun _ hK => ?_
  obtain ⟨v', w', hr, h2, h3, h4⟩ := run_append_src (P := P) w E o.type base v n xs hown ao m c news hsrc h1 h63 hbytes hbase
  unfold Oper.wp execOp
  simp only [ho, resolve, invoke, builtin, Sem.run_bind, Sem.run_pure, Result.andThen_ok, List.map_toArray, List.map_cons, List.map_nil, hs, hx, hr]
  exact hK _ _ (h v' w' h2 h3 h4)

theorem wpListIn_append_src {F : Fence} {N : Nat} {P : Program} (w : World) {ops : Array Oper} {rest : List Oper} {o : Oper} {a : Act} {Q : Exit → Act → World → Prop}
    (hg : o.guard = none) (s x : Operand) (t : TypeId) (hop : o.op = .call { callee := .builtin .append, args := #[s, x], argTypes := #[t, t] })
    {e : TypeId} {z : Value} {size bytes : Nat} (E : ElemT P t e z size bytes) (base : Nat)
    (v : Value) (n : Nat) (xs : List Value) (hs : a.eval s = v) (hown : w.ownsRow base e size v n xs) (ao : Option Addr) (m c : Nat) (news : List Value) (hx : a.eval x = .slice ao m c)
    (hsrc : RowAt w ao m c size news) (h1 : ∀ u ∈ news, u.oneCell' = true)
    (h63 : n + m ≤ 9223372036854775807) (hbytes : (n + m) * bytes ≤ 140737488355328) (hbase : base ≤ w.heap.size)
    (h : ∀ v' w', w'.ownsRow base e size v' (n + m) (xs ++ news) → Below base w w' → w.grownBy w' v.ownBlock → wpListIn F N P ops Q rest (a.put o.dst v') w') : wpListIn F N P ops Q (o :: rest) a w := by
  refine wpListIn_plain hg fun _ hK => ?_
  obtain ⟨v', w', hr, h2, h3, h4⟩ := run_append_src (P := P) w E o.type base v n xs hown ao m c news hsrc h1 h63 hbytes hbase
  unfold Oper.wpIn
  refine ⟨?_, ?_⟩
  · simp [Oper.about, hop, resolve, Target.leads, Sem.run_pure]
  · rw [Oper.semAt_plain F _ _ (by rw [hop]; intro c hc'; cases hc')]
    simp [execOp, hop, resolve, invoke, builtin, hs, hx, hr, Result.andThen]
    exact hK _ _ (h v' w' h2 h3 h4)

theorem oneCell_map {α : Type} {f : α → Value} (hf : ∀ x, (f x).oneCell' = true) (xs : List α) : ∀ u ∈ xs.map f, u.oneCell' = true := by
  intro u hu
  obtain ⟨x, _, rfl⟩ := List.mem_map.1 hu
  exact hf x

theorem SliceAt.takeMap {α : Type} {f : α → Value} {w : World} {a : Option Addr} {cap : Nat} {xs : List α} (h : SliceAt w a cap (xs.map f)) (m : Nat) : RowAt w a (xs.take m).length cap 1 ((xs.take m).map f) := by
  have := (h.take m).row
  rw [← List.map_take, List.length_map] at this
  exact this
theorem SliceAt.rowMap {α : Type} {f : α → Value} {w : World} {a : Option Addr} {cap : Nat} {xs : List α} (h : SliceAt w a cap (xs.map f)) : RowAt w a xs.length cap 1 (xs.map f) := by
  have := h.row
  rwa [List.length_map] at this
theorem ownsRow_sliceMap {α : Type} {f : α → Value} {w : World} {base : Nat} {e : TypeId} {v : Value} {n : Nat} {xs : List α} (h : w.ownsRow base e 1 v n (xs.map f)) :
    ∃ a cap, v = .slice a xs.length cap ∧ SliceAt w a cap (xs.map f) := by
  obtain ⟨a, cap, hv, _, hs⟩ := ownsRow_slice h
  exact ⟨a, cap, by simpa using hv, hs⟩

/-- What a round keeps: all that lies below n₀, and the box of an iterator's captured variable. -/
def KeepsBox (n₀ B : Nat) (t : TypeId) (v : Value) (W W' : World) : Prop := Below n₀ W W' ∧ (Boxed W B t v → Boxed W' B t v)
theorem keepsBox_t {n₀ B : Nat} {t : TypeId} {v : Value} {X Y Z : World} (h : KeepsBox n₀ B t v X Y) (k : KeepsBox n₀ B t v Y Z) : KeepsBox n₀ B t v X Z := ⟨h.1.trans k.1, fun c => k.2 (h.2 c)⟩
theorem keepsBox_b {n₀ B : Nat} {t : TypeId} {v : Value} {w : World} (hn : n₀ ≤ w.heap.size) (W : World) (l : Nat) (o o' : Obj) (hl : w.heap.size ≤ l) (h : W.heap[l]? = some o) (hc : o.isCells = false) (hw : o.isWalk = false) : KeepsBox n₀ B t v W (W.putObj l o') :=
  ⟨belowK_b hn W l o o' hl h hc hw, fun c => c.kept (grownBy_putObj' W l o') (fun e => by cases e; rw [show W.heap[B]? = _ from c] at h; cases h; cases hc)⟩
theorem Boxed.below {w w' : World} {B : Nat} {t : TypeId} {v : Value} (h : Boxed w B t v) (hb : Below w.heap.size w w') : Boxed w' B t v := (hb.block B h.lt).trans h

/-- Bytes, ints and 64-bit words as values. -/
def byteV (c : UInt8) : Value := .int .u8 c.toNat
def intV (n : Int) : Value := .int .i64 n
def u64V (x : Nat) : Value := .int .u64 x
theorem SliceAt.intV {w : World} {cap b off : Nat} {zs : List Int} (h : SliceAt w (some ⟨b, off, none⟩) cap (zs.map intV)) {i : Nat} (hi : i < zs.length) : w.cell? ⟨b, off + i, none⟩ = some (.int .i64 zs[i]) :=
  h.cell (by simp [hi]; rfl)
theorem SliceAt.byteV {w : World} {cap b off : Nat} {zs : List UInt8} (h : SliceAt w (some ⟨b, off, none⟩) cap (zs.map byteV)) {i : Nat} (hi : i < zs.length) : w.cell? ⟨b, off + i, none⟩ = some (.int .u8 zs[i].toNat) :=
  h.cell (by simp [hi]; rfl)
theorem SliceAt.u64V {w : World} {cap b off : Nat} {zs : List Nat} (h : SliceAt w (some ⟨b, off, none⟩) cap (zs.map u64V)) {i : Nat} (hi : i < zs.length) : w.cell? ⟨b, off + i, none⟩ = some (.int .u64 zs[i]) :=
  h.cell (by simp [hi]; rfl)
theorem ret_bool {a b : Bool} (h : a = b) : Ending.returned (.bool a) = .returned (.bool b) := by rw [h]
theorem ret_int {k : IntKind} {a b : Int} (h : a = b) : Ending.returned (.int k a) = .returned (.int k b) := by rw [h]
theorem Below.drewN {B : Nat} {w : World} (n : Nat) : Below B w (w.drewN n) := ⟨rfl, rfl, rfl, Nat.le_refl _, fun _ _ => rfl⟩
theorem take_snoc_eq {α : Type} {xs ys : List α} {k : Nat} (h : xs.take k = ys.take k) (h1 : k < xs.length) (h2 : k < ys.length) (he : xs[k] = ys[k]) : xs.take (k + 1) = ys.take (k + 1) := by
  rw [List.take_succ_eq_append_getElem h1, List.take_succ_eq_append_getElem h2, h, he]

/-! ### Conversions between strings and bytes -/
theorem run_bytes_of {P : Program} (w : World) {src dst e : TypeId} (s : ByteArray) (hs : P.underlying src = some .string) (hd : P.underlying dst = some (.slice e)) (he : P.underlying e = some (.int .u8)) (hl : s.size ≤ 9223372036854775807) :
    ∃ a c w', (convert src dst (.string s)).run P w = .ok (.slice a s.size c) w' ∧ SliceAt w' a c (s.data.toList.map byteV) ∧ Below w.heap.size w w' := by
  have h := run_bytes_of_string (P := P) w src dst e s hs hd he
  have hge := grownCap_ge w s.size 0 e
  have hle := grownCap_le_maxLen w s.size 0 e (by simpa [maxLen] using hl)
  have hsz : (s.data.toList.map byteV).length = s.size := by rw [List.length_map]; rfl
  refine ⟨_, _, _, h, ⟨by rw [hsz]; exact hge, by simpa [maxLen] using hle, by simp, fun hp => ⟨w.heap.size, 0, rfl, fun i v hi => ?_⟩⟩, ((Below.drew (Below.refl _ w)).alloc (Nat.le_refl _) _)⟩
  have hlt : i < s.data.size := by
    have := (List.getElem?_eq_some_iff.1 hi).1
    simpa using this
  have := World.cell?_alloc_mark w.drew (bytesRow s (grownCap w s.size 0 e)) e ((bytesRow s (grownCap w s.size 0 e)).size, (bytesRow s (grownCap w s.size 0 e)).size + 1) i
  rw [Nat.zero_add]
  refine this.trans ?_
  rw [bytesRow_at s _ i hlt]
  simp only [List.getElem?_map] at hi
  rw [List.getElem?_eq_getElem (by simpa using hlt)] at hi
  simpa [byteV] using hi
theorem wpList_bytes_of {P : Program} (w : World) {ops : Array Oper} {rest : List Oper} {o : Oper} {a : Act} {Q : Exit → Act → World → Prop}
    (hg : o.guard = none) (x : Operand) {src dst e : TypeId} (ho : o.op = .convert src dst x) (hs : P.underlying src = some .string) (hd : P.underlying dst = some (.slice e)) (he : P.underlying e = some (.int .u8))
    (s : ByteArray) (hx : a.eval x = .string s) (hl : s.size ≤ 9223372036854775807)
    (h : ∀ ad c w', SliceAt w' ad c (s.data.toList.map byteV) → Below w.heap.size w w' → wpList P ops Q rest (a.put o.dst (.slice ad s.size c)) w') : wpList P ops Q (o :: rest) a w := by
  refine wpList_plain hg fun _ hK => ?_
  obtain ⟨ad, c, w', hr, h1, h2⟩ := run_bytes_of (P := P) w s hs hd he hl
  unfold Oper.wp execOp
  simp only [ho, Sem.run_bind, Sem.run_pure, Result.andThen_ok, hx, hr]
  exact hK _ _ (h ad c w' h1 h2)

theorem wpList_bytes_list {P : Program} (w : World) {ops : Array Oper} {rest : List Oper} {o : Oper} {a : Act} {Q : Exit → Act → World → Prop}
    (hg : o.guard = none) (x : Operand) {src dst e : TypeId} (ho : o.op = .convert src dst x) (hs : P.underlying src = some .string) (hd : P.underlying dst = some (.slice e)) (he : P.underlying e = some (.int .u8))
    (s : ByteArray) (hx : a.eval x = .string s) (l : List UInt8) (hll : s.data.toList = l) (hl : s.size ≤ 9223372036854775807)
    (h : ∀ ad c w', SliceAt w' ad c (l.map byteV) → Below w.heap.size w w' → wpList P ops Q rest (a.put o.dst (.slice ad l.length c)) w') : wpList P ops Q (o :: rest) a w := by
  subst hll
  exact wpList_bytes_of w hg x ho hs hd he s hx hl h
theorem run_string_of {P : Program} (w : World) {src dst e : TypeId} (hs : P.underlying src = some (.slice e)) (he : P.underlying e = some (.int .u8)) (hd : P.underlying dst = some .string)
    (ad : Option Addr) (c : Nat) (l : List UInt8) (hl : SliceAt w ad c (l.map byteV)) : (convert src dst (.slice ad l.length c)).run P w = .ok (.string ⟨l.toArray⟩) w := by
  cases ad with
  | none =>
    have hc : c = 0 := hl.2.2.1 rfl
    have h0 := hl.le
    subst hc
    obtain rfl : l = [] := List.eq_nil_of_length_eq_zero (by simpa using h0)
    rw [run_convert_bytes_string w src dst e none _ 0 hs he hd]
    rfl
  | some x =>
    by_cases hp : 0 < l.length
    · obtain ⟨b, off, hx⟩ := hl.addr (by simpa using hp)
      simp only [Option.some.injEq] at hx
      subst hx
      refine run_convert_bytes_back w src dst e _ c l hs he hd fun j hj => ?_
      rw [Addr.add_lit]
      exact hl.byteV hj
    · obtain rfl : l = [] := List.eq_nil_of_length_eq_zero (by omega)
      exact run_convert_bytes_back w src dst e x c [] hs he hd fun j hj => by simp at hj
theorem wpList_string_of {P : Program} (w : World) {ops : Array Oper} {rest : List Oper} {o : Oper} {a : Act} {Q : Exit → Act → World → Prop}
    (hg : o.guard = none) (x : Operand) {src dst e : TypeId} (ho : o.op = .convert src dst x) (hs : P.underlying src = some (.slice e)) (he : P.underlying e = some (.int .u8)) (hd : P.underlying dst = some .string)
    (ad : Option Addr) (c : Nat) (l : List UInt8) (hx : a.eval x = .slice ad l.length c) (hl : SliceAt w ad c (l.map byteV))
    (h : wpList P ops Q rest (a.put o.dst (.string ⟨l.toArray⟩)) w) : wpList P ops Q (o :: rest) a w := by
  refine wpList_plain hg fun _ hK => ?_
  have hr := run_string_of (P := P) w hs he hd ad c l hl
  unfold Oper.wp execOp
  simp only [ho, Sem.run_bind, Sem.run_pure, Result.andThen_ok, hx, hr]
  exact hK _ _ h

theorem Below.step {w b c : World} (h : Below w.heap.size w b) (k : Below b.heap.size b c) : Below w.heap.size w c := h.trans (k.mono h.size)
theorem slice_nil {α : Type} (f : α → Value) (w : World) : SliceAt w none 0 (([] : List α).map f) := ⟨by simp, by omega, fun _ => rfl, fun h => by simp at h⟩
theorem size_extract0 (s : ByteArray) (m : Nat) : (s.extract 0 m).size ≤ m := by simp [ByteArray.size_extract]; omega

theorem wf_i64 {n : Int} (h : (Lit.int .i64 n).wf = true) : -9223372036854775808 ≤ n ∧ n ≤ 9223372036854775807 := by
  simp [Lit.wf, IntKind.min, IntKind.max, IntKind.signed, IntKind.bits] at h; omega
theorem wf_u64 {n : Int} (h : (Lit.int .u64 n).wf = true) : 0 ≤ n ∧ n ≤ 18446744073709551615 := by
  simp [Lit.wf, IntKind.min, IntKind.max, IntKind.signed, IntKind.bits] at h; omega
theorem wf_u8 {n : Int} (h : (Lit.int .u8 n).wf = true) : 0 ≤ n ∧ n ≤ 255 := by
  simp [Lit.wf, IntKind.min, IntKind.max, IntKind.signed, IntKind.bits] at h; omega

/-! ### Slices of integers that came in -/
def rowIn (k : IntKind) (w : World) (a : Option Addr) (len cap : Nat) (zs : List Int) : Prop :=
  (a = none ∧ len = 0 ∧ cap = 0 ∧ zs = []) ∨
  ∃ x, a = some x ∧ len ≤ cap ∧ cap ≤ maxLen ∧ zs.length = cap ∧ (∀ i, i < zs.length → w.cell? (x.add i) = some (.int k (zs.getD i 0))) ∧ ∀ n ∈ zs, (Lit.int k n).wf = true
theorem rowIn_slice {k : IntKind} {w : World} {a : Option Addr} {len cap : Nat} {zs : List Int} (h : rowIn k w a len cap zs) :
    (zs.take len).length = len ∧ SliceAt w a cap ((zs.take len).map (.int k)) ∧ ∀ n ∈ zs.take len, (Lit.int k n).wf = true := by
  rcases h with ⟨rfl, rfl, rfl, rfl⟩ | ⟨x, rfl, hl, hm, hz, hc, hw⟩
  · exact ⟨rfl, ⟨by simp, by omega, fun _ => rfl, fun h => by simp at h⟩, by simp⟩
  · have hlen : (zs.take len).length = len := by rw [List.length_take]; omega
    refine ⟨hlen, ⟨by rw [List.length_map, hlen]; exact hl, by simpa [maxLen] using hm, by simp, fun hp => ?_⟩, fun n hn => hw n (List.mem_of_mem_take hn)⟩
    rw [List.length_map, hlen] at hp
    obtain ⟨b, off, spot⟩ := x
    have h0 := hc 0 (by omega)
    have hspot : spot = none := by simpa [Addr.add] using World.cell?_spot h0
    subst hspot
    refine ⟨b, off, rfl, fun i v hi => ?_⟩
    have hlt : i < len := by
      have := (List.getElem?_eq_some_iff.1 hi).1
      rw [List.length_map, hlen] at this
      exact this
    have h1 := hc i (by omega)
    rw [Addr.add_lit] at h1
    rw [h1]
    rw [List.getElem?_map, List.getElem?_take, if_pos hlt, List.getElem?_eq_getElem (by omega)] at hi
    rw [← hi]
    simp [List.getD, show i < zs.length by omega]
theorem rowIn_ints {w : World} {a : Option Addr} {len cap : Nat} {zs : List Int} (h : rowIn .i64 w a len cap zs) :
    ∃ xs : List Int, xs.length = len ∧ SliceAt w a cap (xs.map intV) ∧ ∀ n ∈ xs, -9223372036854775808 ≤ n ∧ n ≤ 9223372036854775807 := by
  obtain ⟨h1, h2, h3⟩ := rowIn_slice h
  refine ⟨_, h1, h2, fun n hn => ?_⟩
  have := h3 n hn
  simp [Lit.wf, IntKind.min, IntKind.max, IntKind.signed, IntKind.bits] at this
  omega
theorem rowIn_bytes {w : World} {a : Option Addr} {len cap : Nat} {zs : List Int} (h : rowIn .u8 w a len cap zs) :
    ∃ xs : List UInt8, xs.length = len ∧ SliceAt w a cap (xs.map byteV) := by
  obtain ⟨h1, h2, h3⟩ := rowIn_slice h
  refine ⟨(zs.take len).map fun n => UInt8.ofNat n.toNat, by rw [List.length_map, h1], ?_⟩
  have : ((zs.take len).map fun n => UInt8.ofNat n.toNat).map byteV = (zs.take len).map (.int .u8) := by
    rw [List.map_map]
    refine List.map_congr_left fun n hn => ?_
    have hw := h3 n hn
    simp [Lit.wf, IntKind.min, IntKind.max, IntKind.signed, IntKind.bits] at hw
    show Value.int .u8 ((UInt8.ofNat n.toNat).toNat : Int) = _
    rw [UInt8.toNat_ofNat']
    congr 1
    omega
  rw [this]
  exact h2
end Go.Proofs.Ytaonhmdifinadaa
