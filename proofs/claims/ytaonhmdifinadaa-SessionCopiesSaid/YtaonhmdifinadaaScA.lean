/-
  What an append does to the row's old block; the frame of a call on a session.
-/
import Derived.Test.YtaonhmdifinadaaSesS
namespace Go.Proofs.Ytaonhmdifinadaa
open Go Go.Proofs
open Go.RowKit
set_option linter.unusedVariables false
set_option linter.unusedSimpArgs false

/-- What a call does to the old block of a row: it stays in it or moves into new memory; cells are written behind the old end alone, and with the new row's values. -/
structure Mv (w w' : World) (v v' : Value) (N : Nat) (ys : List Value) : Prop where
  loc : v'.ownBlock = v.ownBlock ∨ ∀ k, v'.ownBlock = some k → w.heap.size ≤ k
  wr : ∀ g cur t f, v.ownBlock = some g → w.heap[g]? = some (.cells cur t f) → ∃ cur', w'.heap[g]? = some (.cells cur' t f) ∧ cur'.size = cur.size ∧ ∀ j : Nat, cur'[j]? = cur[j]? ∨ (N ≤ j ∧ j < ys.length ∧ cur'[j]? = ys[j]?)
section
variable {w w' w1 w2 : World} {v v' v1 v2 : Value} {N N1 : Nat} {ys ys1 : List Value}
theorem Mv.kept (hl : v'.ownBlock = v.ownBlock ∨ ∀ k, v'.ownBlock = some k → w.heap.size ≤ k) (h : ∀ g, v.ownBlock = some g → w'.heap[g]? = w.heap[g]?) : Mv w w' v v' N ys :=
  ⟨hl, fun g cur t f hg hc => ⟨cur, (h g hg).trans hc, rfl, fun _ => .inl rfl⟩⟩
theorem Mv.later (h : Mv w w1 v v' N ys) (k : ∀ g, v.ownBlock = some g → w2.heap[g]? = w1.heap[g]?) : Mv w w2 v v' N ys :=
  ⟨h.loc, fun g cur t f hg hc => by obtain ⟨cur', h1, h2⟩ := h.wr g cur t f hg hc; exact ⟨cur', (k g hg).trans h1, h2⟩⟩
theorem Mv.trans (h : Mv w w1 v v1 N ys1) (k : Mv w1 w2 v1 v2 ys1.length ys) (hN : N ≤ ys1.length) (hp : ys1 <+: ys) (hz : w.heap.size ≤ w1.heap.size) (hlt : ∀ g, v.ownBlock = some g → g < w.heap.size)
    (hk : ∀ g, v.ownBlock = some g → v1.ownBlock ≠ some g → w2.heap[g]? = w1.heap[g]?) : Mv w w2 v v2 N ys := by
  refine ⟨?_, fun g cur t f hg hc => ?_⟩
  · rcases k.loc with e | e
    · rw [e]; exact h.loc
    · exact .inr fun x hx => Nat.le_trans hz (e x hx)
  · obtain ⟨c1, h1, h2, h3⟩ := h.wr g cur t f hg hc
    have up : ∀ j : Nat, j < ys1.length → ys1[j]? = ys[j]? := fun j hj => by
      obtain ⟨z, rfl⟩ := hp
      rw [List.getElem?_append_left hj]
    have hle : ys1.length ≤ ys.length := hp.length_le
    by_cases he : v1.ownBlock = some g
    · obtain ⟨c2, k1, k2, k3⟩ := k.wr g c1 t f he h1
      refine ⟨c2, k1, k2.trans h2, fun j => ?_⟩
      rcases k3 j with e | ⟨e1, e2, e3⟩
      · rcases h3 j with d | ⟨d1, d2, d3⟩
        · exact .inl (e.trans d)
        · exact .inr ⟨d1, by omega, by rw [e, d3]; exact up j d2⟩
      · exact .inr ⟨by omega, e2, e3⟩
    · refine ⟨c1, (hk g hg he).trans h1, h2, fun j => ?_⟩
      rcases h3 j with d | ⟨d1, d2, d3⟩
      · exact .inl d
      · exact .inr ⟨d1, by omega, by rw [d3]; exact up j d2⟩
end

/-- 'append' to a row that a call owns: what it does to the old block. -/
theorem append_mv {P : Program} (w : World) (base : Nat) (t ty e : TypeId) (i : TypeInfo) (z : Value) (size bytes : Nat) (ht : P.underlying t = some (.slice e)) (hi : P.info? e = some i) (hz : i.zero = some z)
    (hsize : i.size = size) (hby : i.bytes = bytes) (hzs : z.cells.size = size) (hsz : 0 < size)
    (v : Value) (n : Nat) (xs : List Value) (hown : w.ownsRow base e size v n xs)
    (a : Addr) (m c : Nat) (news : List Value) (hl : news.length = m * size) (hnews : ∀ j u, news[j]? = some u → w.cell? (a.add j) = some u) (h1 : ∀ u ∈ news, u.oneCell' = true)
    (h63 : n + m ≤ maxLen) (hbytes : (n + m) * bytes ≤ 140737488355328) {v' : Value} {w' : World} (hr : (Builtin.append_ #[t, t] ty #[v, .slice (some a) m c]).run P w = .ok v' w') :
    (v'.ownBlock = v.ownBlock ∨ ∀ k, v'.ownBlock = some k → w.heap.size ≤ k) ∧
    ∀ g cur t f, v.ownBlock = some g → w.heap[g]? = some (.cells cur t f) → ∃ cur', w'.heap[g]? = some (.cells cur' t f) ∧ cur'.size = cur.size ∧ ∀ j : Nat, cur'[j]? = cur[j]? ∨ (xs.length ≤ j ∧ j < (xs ++ news).length ∧ cur'[j]? = (xs ++ news)[j]?) := by
  subst hsize
  subst hby
  have hsmall : n + m ≤ 9223372036854775807 := by simp only [maxLen] at h63; omega
  rcases hown.2 with ⟨rfl, rfl⟩ | ⟨g, cap, cur, rfl, hbg, hg, hnc, hcm, hcs, htake⟩
  · refine ⟨?_, fun g cur t f hg => by simp [Value.ownBlock] at hg⟩
    by_cases hm : m = 0
    · subst hm
      have hn : news = [] := List.eq_nil_of_length_eq_zero (by simpa using hl)
      subst hn
      left
      simp [Builtin.append_, run_underlying ht, sizeOf, typeInfo, hi, Builtin.lenOf, Builtin.firstCells, loadCells, loadCellsFrom] at hr
      rw [← hr.1]
    · have hr2 := run_append_nil (P := P) w t ty e i z ht hi hz a m c news hl hnews (by omega) (by omega) (by have hb := hbytes; simp only [Nat.zero_add] at hb; omega)
      rw [hr] at hr2
      injection hr2 with e1 e2
      right
      intro k hk
      rw [e1] at hk
      simp [Value.ownBlock] at hk
      omega
  · by_cases hroom : n + m ≤ cap
    · have hfit : n * i.size + news.length ≤ cur.size := by rw [hl, hcs, ← Nat.add_mul]; exact Nat.mul_le_mul_right _ hroom
      have hr2 := run_append_room (P := P) w t ty e i ht hi g n cap cur hg a m c news hl hnews h1 hroom hfit
      rw [hr] at hr2
      injection hr2 with e1 e2
      refine ⟨.inl (by rw [e1]; rfl), fun g' cur' t' f' hg' hc' => ?_⟩
      have : g' = g := by simp [Value.ownBlock] at hg'; exact hg'.symm
      subst this
      rw [hg] at hc'
      injection hc' with hc'
      injection hc' with c1 c2 c3
      subst c1 c2 c3
      rw [e2]
      refine ⟨_, setRow_heap w g' cur _ e _ hg, ?_, fun j => ?_⟩
      · simp only [List.size_toArray, List.length_append, List.length_take, List.length_drop, Array.length_toList]
        omega
      · rw [htake]
        have hxl := hown.1
        simp only [List.getElem?_toArray]
        rcases Nat.lt_or_ge j xs.length with h | h
        · left
          rw [List.append_assoc, List.getElem?_append_left h, ← htake, List.getElem?_take_of_lt (by omega), Array.getElem?_toList]
        · rcases Nat.lt_or_ge j (xs ++ news).length with h2 | h2
          · right
            exact ⟨h, h2, List.getElem?_append_left h2⟩
          · left
            rw [List.getElem?_append_right h2, List.getElem?_drop, Array.getElem?_toList]
            congr 1
            rw [List.length_append] at h2 ⊢
            omega
    · have holds : ∀ j u, xs[j]? = some u → w.cell? ((⟨g, 0, none⟩ : Addr).add j) = some u := hown.cells (g := g) rfl
      have hr2 := run_append_grow (P := P) w t ty e i z ht hi hz ⟨g, 0, none⟩ n cap xs hown.1 holds a m c news hl hnews (by omega) (by omega) (growslice_fits (by omega) hbytes)
      rw [hr] at hr2
      injection hr2 with e1 e2
      refine ⟨.inr fun k hk => by rw [e1] at hk; simp [Value.ownBlock] at hk; omega, fun g' cur' t' f' hg' hc' => ⟨cur', ?_, rfl, fun _ => .inl rfl⟩⟩
      have hlt := (Array.getElem?_eq_some_iff.1 hc').1
      rw [e2]
      exact (heap_alloc_old w.drew _ hlt).trans hc'

/-- 'append' to a row that bears label l (Lab's law), and what it does to the heap. -/
theorem run_append_row2 {P : Program} {w₀ w : World} {o : Nat → Nat} {l : Nat} {t e : TypeId} {z : Value} {size bytes : Nat} (E : ElemT P t e z size bytes) (ty : TypeId)
    {v : Value} {n : Nat} {xs : List Value} (hown : RowL w₀ o l e size v n xs) (hb : Below w₀.heap.size w₀ w) (ad : Addr) (m c : Nat) (news : List Value)
    (hsrc : RowAt w (some ad) m c size news) (h1 : ∀ u ∈ news, u.oneCell' = true)
    (h63 : n + m ≤ 9223372036854775807) (hbytes : (n + m) * bytes ≤ 140737488355328) :
    ∃ v' w', (Builtin.append_ #[t, t] ty #[v, .slice (some ad) m c]).run P w = .ok v' w' ∧ RowL w' (newLab w₀ o l) l e size v' (n + m) (xs ++ news) ∧ Step (· = l) w₀ o w' (newLab w₀ o l) ∧
      Mv w₀ w' v v' xs.length (xs ++ news) ∧ ∀ k, k < w₀.heap.size → v.ownBlock ≠ some k → w'.heap[k]? = w₀.heap[k]? := by
  obtain ⟨i, hi, hz0, hz1, hz2⟩ := E.info
  have hown' := ownsRow_below hown.1 hb
  have hcells : ∀ j u, news[j]? = some u → w.cell? (ad.add j) = some u := by
    intro j u hj
    have hp : 0 < news.length := by
      have := (List.getElem?_eq_some_iff.1 hj).1
      omega
    obtain ⟨b, off, ha, hc⟩ := hsrc.2.2.2.2 hp
    simp only [Option.some.injEq] at ha
    subst ha
    rw [Addr.add_lit]
    exact hc j u hj
  obtain ⟨v', w', hr, h2, h3⟩ := run_append_row (P := P) E ty hown hb (some ad) m c news hsrc h1 h63 hbytes
  obtain ⟨v2, w2, hr2, -, g3, -, -⟩ := run_append_own_at (P := P) w 0 t ty e i z size bytes E.und hi hz0 hz1 hz2 E.zs E.pos v n xs hown' ad m c news hsrc.1 hcells h1 (by simpa [maxLen] using h63) hbytes (Nat.zero_le _)
  have he := hr2
  rw [hr] at he
  injection he with e1 e2
  subst e1 e2
  obtain ⟨m1, m2⟩ := append_mv (P := P) w 0 t ty e i z size bytes E.und hi hz0 hz1 hz2 E.zs E.pos v n xs hown' ad m c news hsrc.1 hcells h1 (by simpa [maxLen] using h63) hbytes hr
  refine ⟨v', w', hr, h2, h3, ⟨?_, fun g cur t f hg hc => m2 g cur t f hg ?_⟩, fun k hk hne => ?_⟩
  · rcases m1 with m | m
    · exact .inl m
    · exact .inr fun k hk => Nat.le_trans hb.size (m k hk)
  · rw [hb.block g (hown.1.lt g hg).2]; exact hc
  · rw [← hb.block k hk]
    exact g3.block k (Nat.lt_of_lt_of_le hk hb.size) (fun e => hne e.symm)

theorem step_append_row2 {P : Program} {w₀ w : World} {ops : Array Oper} {q : Oper} {a : Act} {K : Act → World → Prop} {Q : Exit → Act → World → Prop} {E' : Prop}
    (hg : q.guard = none) (s x : Operand) (t : TypeId) (ho : q.op = .call { callee := .builtin .append, args := #[s, x], argTypes := #[t, t] })
    {e : TypeId} {z : Value} {size bytes : Nat} (E : ElemT P t e z size bytes) {o : Nat → Nat} {l : Nat}
    {v : Value} {n : Nat} {xs : List Value} (hs : a.eval s = v) (hown : RowL w₀ o l e size v n xs) (hb : Below w₀.heap.size w₀ w) (ad : Addr) (m c : Nat) (news : List Value) (hx : a.eval x = .slice (some ad) m c)
    (hsrc : RowAt w (some ad) m c size news) (h1 : ∀ u ∈ news, u.oneCell' = true)
    (h63 : n + m ≤ 9223372036854775807) (hbytes : (n + m) * bytes ≤ 140737488355328)
    (h : ∀ v' w', RowL w' (newLab w₀ o l) l e size v' (n + m) (xs ++ news) → Step (· = l) w₀ o w' (newLab w₀ o l) → Mv w₀ w' v v' xs.length (xs ++ news) → (∀ k, k < w₀.heap.size → v.ownBlock ≠ some k → w'.heap[k]? = w₀.heap[k]?) → K (a.put q.dst v') w') :
    if Region.wanted q (yielded ops a.tmps) = true then Oper.wp P q a w K Q else E' := by
  have hw : Region.wanted q (yielded ops a.tmps) = true := by simp [Region.wanted, hg]
  rw [if_pos hw]
  obtain ⟨v', w', hr, h2, h3, h4, h5⟩ := run_append_row2 (P := P) E q.type hown hb ad m c news hsrc h1 h63 hbytes
  unfold Oper.wp execOp
  simp only [ho, resolve, invoke, builtin, Sem.run_bind, Sem.run_pure, Result.andThen_ok, List.map_toArray, List.map_cons, List.map_nil, hs, hx, hr]
  exact h v' w' h2 h3 h4 h5

/-- What has happened to a session's rows since the world w0: R0 cells of the requests' old block are kept, and so on. -/
structure Hist (w0 : World) (i : Nat) (rv0 av0 : Value) (R0 : Nat) (A0 : List Value) (w : World) (o : Nat → Nat) (rv av : Value) (R A : List Value) : Prop where
  size : w0.heap.size ≤ w.heap.size
  lr0 : ∀ g, rv0.ownBlock = some g → o g = 10 * i + 1 ∧ g < w0.heap.size
  la0 : ∀ g, av0.ownBlock = some g → o g = 10 * i + 2 ∧ g < w0.heap.size
  lr : (rv.ownBlock = rv0.ownBlock ∧ R0 ≤ R.length) ∨ ∀ k, rv.ownBlock = some k → w0.heap.size ≤ k
  rk : ∀ g cur t f, rv0.ownBlock = some g → w0.heap[g]? = some (.cells cur t f) → ∃ cur', w.heap[g]? = some (.cells cur' t f) ∧ cur'.size = cur.size ∧ ∀ j : Nat, j < R0 → cur'[j]? = cur[j]?
  a : Mv w0 w av0 av A0.length A
  pre : A0 <+: A
  fr : ∀ k, k < w0.heap.size → (o k = 10 * i + 1 ∨ o k = 10 * i + 2) → rv0.ownBlock ≠ some k → av0.ownBlock ≠ some k → w.heap[k]? = w0.heap[k]?
section
variable {w0 w w' : World} {i : Nat} {rv0 av0 rv av rv' av' : Value} {R0 : Nat} {A0 R A R' news : List Value} {o o' : Nat → Nat} {L : Nat → Prop}
theorem Hist.step (h : Hist w0 i rv0 av0 R0 A0 w o rv av R A) (hs : Step L w o w' o') (h1 : ¬ L (10 * i + 1)) (h2 : ¬ L (10 * i + 2)) : Hist w0 i rv0 av0 R0 A0 w' o' rv av R A := by
  have up : ∀ g, g < w0.heap.size → g < w.heap.size := fun g hg => Nat.lt_of_lt_of_le hg h.size
  refine ⟨Nat.le_trans h.size hs.size, fun g hg => ?_, fun g hg => ?_, h.lr, fun g cur t f hg hc => ?_, h.a.later fun g hg => ?_, h.pre, fun k hk hl hr ha => ?_⟩
  · obtain ⟨e1, e2⟩ := h.lr0 g hg
    exact ⟨by rw [hs.lab g (up g e2)]; exact e1, e2⟩
  · obtain ⟨e1, e2⟩ := h.la0 g hg
    exact ⟨by rw [hs.lab g (up g e2)]; exact e1, e2⟩
  · obtain ⟨cur', k1, k2⟩ := h.rk g cur t f hg hc
    obtain ⟨e1, e2⟩ := h.lr0 g hg
    exact ⟨cur', (hs.block g (up g e2) (by rw [e1]; exact h1)).trans k1, k2⟩
  · obtain ⟨e1, e2⟩ := h.la0 g hg
    exact hs.block g (up g e2) (by rw [e1]; exact h2)
  · rw [hs.lab k (up k hk)] at hl
    exact (hs.block k (up k hk) (by rcases hl with e | e <;> rw [e] <;> assumption)).trans (h.fr k hk hl hr ha)
theorem Hist.same (h : Hist w0 i rv0 av0 R0 A0 w o rv av R A) (hb : Below w.heap.size w w') : Hist w0 i rv0 av0 R0 A0 w' o rv av R A := h.step (L := fun _ => False) (Step.same hb) (fun h => h) fun h => h
theorem Hist.rowR (h : Hist w0 i rv0 av0 R0 A0 w o rv av R A) (hr : ∀ k, rv'.ownBlock = some k → w0.heap.size ≤ k) : Hist w0 i rv0 av0 R0 A0 w o rv' av R' A :=
  ⟨h.size, h.lr0, h.la0, .inr hr, h.rk, h.a, h.pre, h.fr⟩
theorem Hist.appA (h : Hist w0 i rv0 av0 R0 A0 w o rv av R A) (hm : Mv w w' av av' A.length (A ++ news)) (hf : ∀ k, k < w.heap.size → av.ownBlock ≠ some k → w'.heap[k]? = w.heap[k]?) (hz : w.heap.size ≤ w'.heap.size)
    (hl : ∀ k, k < w.heap.size → o' k = o k) (hav : ∀ k, av.ownBlock = some k → o k = 10 * i + 2) : Hist w0 i rv0 av0 R0 A0 w' o' rv av' R (A ++ news) := by
  have up : ∀ g, g < w0.heap.size → g < w.heap.size := fun g hg => Nat.lt_of_lt_of_le hg h.size
  refine ⟨Nat.le_trans h.size hz, fun g hg => ?_, fun g hg => ?_, h.lr, fun g cur t f hg hc => ?_, ?_, h.pre.trans (List.prefix_append _ _), fun k hk hq hr ha => ?_⟩
  · obtain ⟨e1, e2⟩ := h.lr0 g hg
    exact ⟨by rw [hl g (up g e2)]; exact e1, e2⟩
  · obtain ⟨e1, e2⟩ := h.la0 g hg
    exact ⟨by rw [hl g (up g e2)]; exact e1, e2⟩
  · obtain ⟨cur', k1, k2⟩ := h.rk g cur t f hg hc
    obtain ⟨e1, e2⟩ := h.lr0 g hg
    exact ⟨cur', (hf g (up g e2) (fun e => by have := hav g e; omega)).trans k1, k2⟩
  · exact h.a.trans hm h.pre.length_le (List.prefix_append _ _) h.size (fun g hg => (h.la0 g hg).2) fun g hg hn => hf g (up g (h.la0 g hg).2) hn
  · rw [hl k (up k hk)] at hq
    refine (hf k (up k hk) fun e => ?_).trans (h.fr k hk hq hr ha)
    rcases h.a.loc with l | l
    · exact ha (by rw [← l]; exact e)
    · have := l k e; omega
theorem Hist.appR (h : Hist w0 i rv0 av0 R0 A0 w o rv av R A) (hm : Mv w w' rv rv' R.length (R ++ news)) (hf : ∀ k, k < w.heap.size → rv.ownBlock ≠ some k → w'.heap[k]? = w.heap[k]?) (hz : w.heap.size ≤ w'.heap.size)
    (hl : ∀ k, k < w.heap.size → o' k = o k) (hrv : ∀ k, rv.ownBlock = some k → o k = 10 * i + 1) : Hist w0 i rv0 av0 R0 A0 w' o' rv' av (R ++ news) A := by
  have up : ∀ g, g < w0.heap.size → g < w.heap.size := fun g hg => Nat.lt_of_lt_of_le hg h.size
  refine ⟨Nat.le_trans h.size hz, fun g hg => ?_, fun g hg => ?_, ?_, fun g cur t f hg hc => ?_, h.a.later fun g hg => ?_, h.pre, fun k hk hq hr ha => ?_⟩
  · obtain ⟨e1, e2⟩ := h.lr0 g hg
    exact ⟨by rw [hl g (up g e2)]; exact e1, e2⟩
  · obtain ⟨e1, e2⟩ := h.la0 g hg
    exact ⟨by rw [hl g (up g e2)]; exact e1, e2⟩
  · rcases hm.loc with l | l
    · rw [l]
      rcases h.lr with ⟨e, e2⟩ | e
      · exact .inl ⟨e, by rw [List.length_append]; omega⟩
      · exact .inr e
    · exact .inr fun k hk => Nat.le_trans h.size (l k hk)
  · obtain ⟨c1, k1, k2, k3⟩ := h.rk g cur t f hg hc
    obtain ⟨e1, e2⟩ := h.lr0 g hg
    by_cases he : rv.ownBlock = some g
    · rcases h.lr with ⟨q, q2⟩ | q
      · obtain ⟨c2, m1, m2, m3⟩ := hm.wr g c1 t f he k1
        refine ⟨c2, m1, m2.trans k2, fun j hj => ?_⟩
        rcases m3 j with m | ⟨m, -, -⟩
        · exact m.trans (k3 j hj)
        · omega
      · have := q g he; omega
    · exact ⟨c1, (hf g (up g e2) he).trans k1, k2, k3⟩
  · obtain ⟨e1, e2⟩ := h.la0 g hg
    exact hf g (up g e2) fun e => by have := hrv g e; omega
  · rw [hl k (up k hk)] at hq
    refine (hf k (up k hk) fun e => ?_).trans (h.fr k hk hq hr ha)
    rcases h.lr with ⟨l, -⟩ | l
    · exact hr (by rw [← l]; exact e)
    · have := l k e; omega
end

/-- A session whose rows are told. -/
def SesV (tr ta : TypeId) (w : World) (o : Nat → Nat) (i b : Nat) (rv av : Value) (S : SesS) : Prop :=
  Blk w o (10 * i) b [rv, .bool S.run, .int .i64 S.last, av] ∧ RecL rqC 6 tr w o (10 * i + 1) rv S.rq ∧ RecL anC 4 ta w o (10 * i + 2) av S.an
abbrev SesVQ := SesV 60 84
section
variable {tr ta : TypeId} {w w' : World} {o o' : Nat → Nat} {i b : Nat} {S : SesS} {L : Nat → Prop} {rv av : Value}
theorem SesV.at (h : SesV tr ta w o i b rv av S) : SesAt tr ta w o i b S := ⟨rv, av, h⟩
theorem SesV.step (h : SesV tr ta w o i b rv av S) (hs : Step L w o w' o') (hi : ∀ l, Own i l → ¬ L l) : SesV tr ta w' o' i b rv av S :=
  ⟨h.1.step hs (hi _ (Own.at0 i)), h.2.1.step hs (hi _ (Own.at1 i)), h.2.2.step hs (hi _ (Own.at2 i))⟩
theorem SesV.neA (h : SesV tr ta w o i b rv av S) : av.ownBlock ≠ some b := fun e => by
  have h1 := h.2.2.2 b e
  have h2 := h.1.lab
  omega
theorem SesV.ltA (h : SesV tr ta w o i b rv av S) : ∀ g, av.ownBlock = some g → g < w.heap.size := fun g e => (h.2.2.1.lt g e).2
theorem SesV.neR (h : SesV tr ta w o i b rv av S) : rv.ownBlock ≠ some b := fun e => by
  have h1 := h.2.1.2 b e
  have h2 := h.1.lab
  omega
theorem SesV.ltR (h : SesV tr ta w o i b rv av S) : ∀ g, rv.ownBlock = some g → g < w.heap.size := fun g e => (h.2.1.1.lt g e).2
theorem SesV.neRA (h : SesV tr ta w o i b rv av S) : ∀ g, rv.ownBlock = some g → av.ownBlock ≠ some g := fun g e e2 => by
  have h1 := h.2.1.2 g e
  have h2 := h.2.2.2 g e2
  omega
end
/-- A session with what happened to its rows since w0. -/
def SesG (tr ta : TypeId) (w0 : World) (rv0 av0 : Value) (R0 : Nat) (A0 : List Value) (w : World) (o : Nat → Nat) (i b : Nat) (S : SesS) : Prop :=
  ∃ rv av, SesV tr ta w o i b rv av S ∧ Hist w0 i rv0 av0 R0 A0 w o rv av (S.rq.flatMap rqC) (S.an.flatMap anC)
section
variable {tr ta : TypeId} {w w' w0 : World} {o o' : Nat → Nat} {i b R0 : Nat} {S : SesS} {L : Nat → Prop} {rv0 av0 rv av : Value} {A0 : List Value}
theorem SesG.at (h : SesG tr ta w0 rv0 av0 R0 A0 w o i b S) : SesAt tr ta w o i b S := by obtain ⟨rv, av, h, _⟩ := h; exact h.at
theorem SesG.step (h : SesG tr ta w0 rv0 av0 R0 A0 w o i b S) (hs : Step L w o w' o') (hi : ∀ l, Own i l → ¬ L l) : SesG tr ta w0 rv0 av0 R0 A0 w' o' i b S := by
  obtain ⟨rv, av, h1, h2⟩ := h
  exact ⟨rv, av, h1.step hs hi, h2.step hs (hi _ (Own.at1 i)) (hi _ (Own.at2 i))⟩
theorem SesG.same (h : SesG tr ta w0 rv0 av0 R0 A0 w o i b S) (hb : Below w.heap.size w w') : SesG tr ta w0 rv0 av0 R0 A0 w' o i b S := h.step (L := fun _ => False) (Step.same hb) fun _ _ h => h
theorem SesG.setRun (h : SesG tr ta w0 rv0 av0 R0 A0 w o i b S) (r : Bool) : Step (Own i) w o (w.setCell ⟨b, 1, none⟩ (.bool r)) o ∧ SesG tr ta w0 rv0 av0 R0 A0 (w.setCell ⟨b, 1, none⟩ (.bool r)) o i b { S with run := r } := by
  obtain ⟨rv, av, ⟨h1, h2, h3⟩, h4⟩ := h
  have hs := h1.setCellStep 1 (.bool r)
  exact ⟨hs.mono fun l hl => by subst hl; exact Own.at0 i, rv, av, ⟨h1.set 1 _, h2.step hs (by omega), h3.step hs (by omega)⟩, h4.step hs (by omega) (by omega)⟩
/-- The beginning of a history. -/
theorem SesV.hist (h : SesV tr ta w o i b rv av S) : SesG tr ta w rv av (S.rq.flatMap rqC).length (S.an.flatMap anC) w o i b S :=
  ⟨rv, av, h, Nat.le_refl _, fun g e => ⟨h.2.1.2 g e, h.ltR g e⟩, fun g e => ⟨h.2.2.2 g e, h.ltA g e⟩, .inl ⟨rfl, Nat.le_refl _⟩, fun g cur t f _ hc => ⟨cur, hc, rfl, fun _ _ => rfl⟩, Mv.kept (.inl rfl) fun _ _ => rfl, List.prefix_refl _, fun _ _ _ _ _ => rfl⟩
end
end Go.Proofs.Ytaonhmdifinadaa
