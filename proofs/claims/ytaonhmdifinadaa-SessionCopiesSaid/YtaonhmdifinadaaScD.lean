/-
  Two runs of the model over shared rows: what the first keeps, what the second leaves of the first's answers.
-/
import Derived.Test.YtaonhmdifinadaaScT
namespace Go.Proofs.Ytaonhmdifinadaa
open Go Go.Proofs
open Go.RowKit
set_option linter.unusedVariables false
set_option linter.unusedSimpArgs false

theorem ans_pre (S : SesS) (k : Nat) (e : Int) (t : ByteArray) : S.an <+: (ansS S k e t).an := by unfold ansS; split <;> simp
theorem op_pre (S : SesS) {m : OpM} (h : m.kind ≠ 4) (hk : m.kind = 0 ∨ m.kind = 1 ∨ m.kind = 2 ∨ m.kind = 3 ∨ m.kind = 4) : S.an <+: (opS S m).an := by
  unfold opS
  split
  · unfold begS; split <;> simp
  split
  · exact ans_pre _ _ _ _
  split
  · unfold nextS; split
    · exact List.prefix_refl _
    · exact List.prefix_append _ _
  split
  · unfold finS
    split
    · split
      · split
        · exact ans_pre _ _ _ _
        · split <;> exact ans_pre _ _ _ _
      · exact List.prefix_refl _
    · exact List.prefix_refl _
  · omega
theorem flat_pre {α β : Type} {f : α → List β} {a b : List α} (h : a <+: b) : a.flatMap f <+: b.flatMap f := by
  obtain ⟨c, rfl⟩ := h
  rw [List.flatMap_append]
  exact List.prefix_append _ _
theorem pre_get {α : Type} {a b : List α} (h : a <+: b) {j : Nat} (hj : j < a.length) : a[j]? = b[j]? := by
  obtain ⟨c, rfl⟩ := h
  rw [List.getElem?_append_left hj]

/-- The state behind t calls from the k-th on. -/
def stt (S : SesS) (ops : List OpM) (k : Nat) : Nat → SesS
  | 0 => S
  | t + 1 => match ops[k + t]? with | some m => opS (stt S ops k t) m | none => stt S ops k t
theorem stt_next {S : SesS} {ops : List OpM} {k t : Nat} {m : OpM} (h : ops[k + t]? = some m) : stt S ops k (t + 1) = opS (stt S ops k t) m := by
  rw [stt, h]
theorem stt_good {S : SesS} (h : Good S) (ops : List OpM) (k : Nat) : ∀ t, Good (stt S ops k t) ∧ (stt S ops k t).an.length ≤ S.an.length + 65 * t
  | 0 => ⟨h, by rw [stt]; omega⟩
  | t + 1 => by
    obtain ⟨g, n⟩ := stt_good h ops k t
    rw [stt]
    split
    · next m _ => exact ⟨good_op g m, by have := op_grow g m; omega⟩
    · exact ⟨g, by omega⟩

/-- A block of cells whose first N cells are kept. -/
def Ke (w0 w : World) (g N : Nat) : Prop := ∀ cur t f, w0.heap[g]? = some (.cells cur t f) → ∃ cur', w.heap[g]? = some (.cells cur' t f) ∧ cur'.size = cur.size ∧ ∀ j : Nat, j < N → cur'[j]? = cur[j]?
theorem Ke.refl (w : World) (g N : Nat) : Ke w w g N := fun cur t f h => ⟨cur, h, rfl, fun _ _ => rfl⟩
theorem Ke.trans {w0 w1 w2 : World} {g N M : Nat} (h : Ke w0 w1 g N) (k : Ke w1 w2 g M) (hn : N ≤ M) : Ke w0 w2 g N := fun cur t f hc => by
  obtain ⟨c1, h1, h2, h3⟩ := h cur t f hc
  obtain ⟨c2, k1, k2, k3⟩ := k c1 t f h1
  exact ⟨c2, k1, k2.trans h2, fun j hj => (k3 j (by omega)).trans (h3 j hj)⟩
theorem Ke.same {w w' : World} {g : Nat} (h : w'.heap[g]? = w.heap[g]?) (N : Nat) : Ke w w' g N := fun cur t f hc => ⟨cur, h.trans hc, rfl, fun _ _ => rfl⟩
theorem Mv.ke {w w' : World} {v v' : Value} {N : Nat} {ys : List Value} (h : Mv w w' v v' N ys) {g : Nat} (hg : v.ownBlock = some g) : Ke w w' g N := fun cur t f hc => by
  obtain ⟨c1, h1, h2, h3⟩ := h.wr g cur t f hg hc
  exact ⟨c1, h1, h2, fun j hj => (h3 j).elim id fun e => by omega⟩
theorem RowL.ke {w0 w : World} {o o' : Nat → Nat} {l : Nat} {e : TypeId} {z : Value} {size n : Nat} {v : Value} {xs : List Value} (h : RowL w0 o l e size v n xs) (hk : ∀ g, v.ownBlock = some g → Ke w0 w g xs.length ∧ o' g = l) : RowL w o' l e size v n xs := by
  obtain ⟨⟨hl, h2⟩, ho⟩ := h
  refine ⟨⟨hl, ?_⟩, fun k hk' => (hk k hk').2⟩
  rcases h2 with hn | ⟨g, cap, cur, rfl, hg, hgg, hc, hm, hs, ht⟩
  · exact .inl hn
  · obtain ⟨cur', k1, k2, k3⟩ := (hk g rfl).1 cur e (0, 0) hgg
    refine .inr ⟨g, cap, cur', rfl, hg, k1, hc, hm, by rw [k2]; exact hs, ?_⟩
    rw [← ht]
    apply List.ext_getElem?
    intro j
    rw [List.getElem?_take, List.getElem?_take]
    split
    · rw [Array.getElem?_toList, Array.getElem?_toList]
      exact k3 j (by omega)
    · rfl

/-- The first run, at the model x: what it keeps of the rows with which it began. -/
structure XR (w9 w : World) (o : Nat → Nat) (b : Nat) (rv0 av0 : Value) (S0 : SesS) (ops : List OpM) (k t : Nat) (rv av : Value) : Prop where
  ses : SesVQ w o 2 b rv av (stt S0 ops k t)
  size : w9.heap.size ≤ w.heap.size
  kr : ∀ g, rv0.ownBlock = some g → g < w9.heap.size ∧ o g = 21 ∧ Ke w9 w g (S0.rq.flatMap rqC).length ∧ (rv.ownBlock = some g → (S0.rq.flatMap rqC).length ≤ ((stt S0 ops k t).rq.flatMap rqC).length)
  ka : ∀ g, av0.ownBlock = some g → g < w9.heap.size ∧ o g = 22 ∧ Ke w9 w g (S0.an.flatMap anC).length ∧ (av.ownBlock = some g → (S0.an.flatMap anC).length ≤ ((stt S0 ops k t).an.flatMap anC).length ∧ ∀ t', t' ≤ t → (stt S0 ops k t').an <+: (stt S0 ops k t).an)
section
variable {w9 w w' : World} {o o' : Nat → Nat} {b : Nat} {rv0 av0 rv av : Value} {S0 : SesS} {ops : List OpM} {k t : Nat} {L : Nat → Prop}
theorem XR.start (h : SesVQ w o 2 b rv av S0) : XR w w o b rv av S0 ops k 0 rv av :=
  ⟨h, Nat.le_refl _, fun g hg => ⟨h.ltR g hg, h.2.1.2 g hg, Ke.refl _ _ _, fun _ => Nat.le_refl _⟩, fun g hg => ⟨h.ltA g hg, h.2.2.2 g hg, Ke.refl _ _ _, fun _ => ⟨Nat.le_refl _, fun t' ht => by
    obtain rfl : t' = 0 := by omega
    exact List.prefix_refl _⟩⟩⟩
theorem XR.step (h : XR w9 w o b rv0 av0 S0 ops k t rv av) (hs : Step L w o w' o') (hi : ∀ l, Own 2 l → ¬ L l) : XR w9 w' o' b rv0 av0 S0 ops k t rv av := by
  refine ⟨h.ses.step hs hi, Nat.le_trans h.size hs.size, fun g hg => ?_, fun g hg => ?_⟩
  · obtain ⟨a1, a2, a3, a4⟩ := h.kr g hg
    have hlt := Nat.lt_of_lt_of_le a1 h.size
    exact ⟨a1, by rw [hs.lab g hlt]; exact a2, a3.trans (Ke.same (hs.block g hlt (by rw [a2]; exact hi _ (Own.at1 2))) _) (Nat.le_refl _), a4⟩
  · obtain ⟨a1, a2, a3, a4⟩ := h.ka g hg
    have hlt := Nat.lt_of_lt_of_le a1 h.size
    exact ⟨a1, by rw [hs.lab g hlt]; exact a2, a3.trans (Ke.same (hs.block g hlt (by rw [a2]; exact hi _ (Own.at2 2))) _) (Nat.le_refl _), a4⟩
theorem XR.same (h : XR w9 w o b rv0 av0 S0 ops k t rv av) (hb : Below w.heap.size w w') : XR w9 w' o b rv0 av0 S0 ops k t rv av := h.step (L := fun _ => False) (Step.same hb) fun _ _ h => h
/-- What a call's history says of the row in the old block g of the requests, or of another block of that label. -/
theorem Hist.keR {w0 : World} {i : Nat} {R0 : Nat} {A0 R A : List Value} (h : Hist w0 i rv0 av0 R0 A0 w o rv av R A) {g : Nat} (hg : g < w0.heap.size) (hl : o g = 10 * i + 1) (N : Nat) (hN : rv0.ownBlock = some g → N ≤ R0) : Ke w0 w g N := by
  by_cases e : rv0.ownBlock = some g
  · exact fun cur t f hc => by
      obtain ⟨c1, h1, h2, h3⟩ := h.rk g cur t f e hc
      exact ⟨c1, h1, h2, fun j hj => h3 j (by have := hN e; omega)⟩
  · exact Ke.same (h.fr g hg (.inl hl) e fun e2 => by have := (h.la0 g e2).1; omega) _
theorem Hist.keA {w0 : World} {i : Nat} {R0 : Nat} {A0 R A : List Value} (h : Hist w0 i rv0 av0 R0 A0 w o rv av R A) {g : Nat} (hg : g < w0.heap.size) (hl : o g = 10 * i + 2) (N : Nat) (hN : av0.ownBlock = some g → N ≤ A0.length) : Ke w0 w g N := by
  by_cases e : av0.ownBlock = some g
  · exact (Ke.refl w0 g N).trans (h.a.ke e) (hN e)
  · exact Ke.same (h.fr g hg (.inr hl) (fun e2 => by have := (h.lr0 g e2).1; omega) e) _
/-- One call of the first run. -/
theorem XR.act (h : XR w9 w o b rv0 av0 S0 ops k t rv av) {m : OpM} (hm : ops[k + t]? = some m) (hkd : m.kind = 0 ∨ m.kind = 1 ∨ m.kind = 2 ∨ m.kind = 3 ∨ m.kind = 4) (hlab : ∀ g, g < w.heap.size → o' g = o g)
    (hN : m.kind ≠ 4 → SesG 60 84 w rv av ((stt S0 ops k t).rq.flatMap rqC).length ((stt S0 ops k t).an.flatMap anC) w' o' 2 b (opS (stt S0 ops k t) m))
    (h4 : m.kind = 4 → ∃ rv' av', SesVQ w' o' 2 b rv' (.slice none 0 0) (opS (stt S0 ops k t) m) ∧ Hist w 2 rv av ((stt S0 ops k t).rq.flatMap rqC).length ((stt S0 ops k t).an.flatMap anC) w' o' rv' av' ((stt S0 ops k t).rq.flatMap rqC) ((stt S0 ops k t).an.flatMap anC)) :
    ∃ rv' av', XR w9 w' o' b rv0 av0 S0 ops k (t + 1) rv' av' := by
  have hst := stt_next (S := S0) hm
  have hlt : ∀ g, g < w9.heap.size → g < w.heap.size := fun g hg => Nat.lt_of_lt_of_le hg h.size
  by_cases hk : m.kind = 4
  · obtain ⟨rv', av', hs, hh⟩ := h4 hk
    have hc : opS (stt S0 ops k t) m = clrS (stt S0 ops k t) := by unfold opS; simp [hk]
    have hz := hh.size
    refine ⟨rv', _, by rw [hst]; exact hs, Nat.le_trans h.size hz, fun g hg => ?_, fun g hg => ?_⟩
    · obtain ⟨a1, a2, a3, a4⟩ := h.kr g hg
      have hl := hlab g (hlt g a1)
      refine ⟨a1, by rw [hl]; exact a2, a3.trans (hh.keR (hlt g a1) (by rw [hl]; exact a2) _ a4) (Nat.le_refl _), fun e => ?_⟩
      rw [hst, hc]
      rcases hh.lr with ⟨q, -⟩ | q
      · exact a4 (by rw [← q]; exact e)
      · have := q g e; have := hlt g a1; omega
    · obtain ⟨a1, a2, a3, a4⟩ := h.ka g hg
      have hl := hlab g (hlt g a1)
      exact ⟨a1, by rw [hl]; exact a2, a3.trans (hh.keA (hlt g a1) (by rw [hl]; exact a2) _ fun e => (a4 e).1) (Nat.le_refl _), fun e => by simp [Value.ownBlock] at e⟩
  · obtain ⟨rv', av', hs, hh⟩ := hN hk
    have hz := hh.size
    have hp := op_pre (stt S0 ops k t) hk hkd
    refine ⟨rv', av', by rw [hst]; exact hs, Nat.le_trans h.size hz, fun g hg => ?_, fun g hg => ?_⟩
    · obtain ⟨a1, a2, a3, a4⟩ := h.kr g hg
      have hl := hlab g (hlt g a1)
      refine ⟨a1, by rw [hl]; exact a2, a3.trans (hh.keR (hlt g a1) (by rw [hl]; exact a2) _ a4) (Nat.le_refl _), fun e => ?_⟩
      rw [hst]
      rcases hh.lr with ⟨q, q2⟩ | q
      · have := a4 (by rw [← q]; exact e); omega
      · have := q g e; have := hlt g a1; omega
    · obtain ⟨a1, a2, a3, a4⟩ := h.ka g hg
      have hl := hlab g (hlt g a1)
      refine ⟨a1, by rw [hl]; exact a2, a3.trans (hh.keA (hlt g a1) (by rw [hl]; exact a2) _ fun e => (a4 e).1) (Nat.le_refl _), fun e => ?_⟩
      rcases hh.a.loc with q | q
      · obtain ⟨b1, b2⟩ := a4 (by rw [← q]; exact e)
        rw [hst]
        refine ⟨Nat.le_trans b1 (flat_pre hp).length_le, fun t' ht => ?_⟩
        by_cases ht2 : t' = t + 1
        · rw [ht2, hst]; exact List.prefix_refl _
        · exact (b2 t' (by omega)).trans hp
      · have := q g e; have := hlt g a1; omega
end

/-- What the second run, at the model y, leaves of the answers of x. -/
def YD (w : World) (o : Nat → Nat) (avX : Value) (X : SesS) (S0 : SesS) (ops : List OpM) (k T : Nat) (av : Value) : Prop :=
  ∀ g, avX.ownBlock = some g → g < w.heap.size ∧ o g = 22 ∧ (∃ cur t f, w.heap[g]? = some (.cells cur t f) ∧ ∀ j : Nat, j < (X.an.flatMap anC).length → cur[j]? = (X.an.flatMap anC)[j]?) ∧ (av.ownBlock = some g → ∀ t', t' ≤ T → (stt S0 ops k t').an <+: X.an)
section
variable {w w' : World} {o o' : Nat → Nat} {b : Nat} {avX rv av : Value} {X S0 : SesS} {ops : List OpM} {k t T : Nat} {L : Nat → Prop}
theorem YD.step (h : YD w o avX X S0 ops k T av) (hs : Step L w o w' o') (h2 : ¬ L 22) : YD w' o' avX X S0 ops k T av := fun g hg => by
  obtain ⟨a1, a2, ⟨cur, t, f, a3, a4⟩, a5⟩ := h g hg
  exact ⟨Nat.lt_of_lt_of_le a1 hs.size, by rw [hs.lab g a1]; exact a2, ⟨cur, t, f, (hs.block g a1 (by rw [a2]; exact h2)).trans a3, a4⟩, a5⟩
theorem YD.same (h : YD w o avX X S0 ops k T av) (hb : Below w.heap.size w w') : YD w' o avX X S0 ops k T av := h.step (L := fun _ => False) (Step.same hb) fun h => h
/-- One call of the second run. -/
theorem YD.act (h : YD w o avX X S0 ops k T av) (hses : SesVQ w o 2 b rv av (stt S0 ops k t)) (htT : t < T) {m : OpM} (hm : ops[k + t]? = some m) (hlab : ∀ g, g < w.heap.size → o' g = o g)
    (hN : m.kind ≠ 4 → SesG 60 84 w rv av ((stt S0 ops k t).rq.flatMap rqC).length ((stt S0 ops k t).an.flatMap anC) w' o' 2 b (opS (stt S0 ops k t) m))
    (h4 : m.kind = 4 → ∃ rv' av', SesVQ w' o' 2 b rv' (.slice none 0 0) (opS (stt S0 ops k t) m) ∧ Hist w 2 rv av ((stt S0 ops k t).rq.flatMap rqC).length ((stt S0 ops k t).an.flatMap anC) w' o' rv' av' ((stt S0 ops k t).rq.flatMap rqC) ((stt S0 ops k t).an.flatMap anC)) :
    ∃ rv' av', SesVQ w' o' 2 b rv' av' (stt S0 ops k (t + 1)) ∧ YD w' o' avX X S0 ops k T av' := by
  have hst := stt_next (S := S0) hm
  by_cases hk : m.kind = 4
  · obtain ⟨rv', av', hs, hh⟩ := h4 hk
    refine ⟨rv', _, by rw [hst]; exact hs, fun g hg => ?_⟩
    obtain ⟨a1, a2, ⟨cur, tt, f, a3, a4⟩, a5⟩ := h g hg
    have hl := hlab g a1
    refine ⟨Nat.lt_of_lt_of_le a1 hh.size, by rw [hl]; exact a2, ?_, fun e => by simp [Value.ownBlock] at e⟩
    by_cases e : av.ownBlock = some g
    · obtain ⟨c1, k1, k2, k3⟩ := hh.a.wr g cur tt f e a3
      refine ⟨c1, tt, f, k1, fun j hj => ?_⟩
      rcases k3 j with q | ⟨q1, q2, -⟩
      · exact q.trans (a4 j hj)
      · omega
    · exact ⟨cur, tt, f, (hh.fr g a1 (.inr (by rw [hl]; exact a2)) (fun e2 => by have := hses.2.1.2 g e2; omega) e).trans a3, a4⟩
  · obtain ⟨rv', av', hs, hh⟩ := hN hk
    refine ⟨rv', av', by rw [hst]; exact hs, fun g hg => ?_⟩
    obtain ⟨a1, a2, ⟨cur, tt, f, a3, a4⟩, a5⟩ := h g hg
    have hl := hlab g a1
    refine ⟨Nat.lt_of_lt_of_le a1 hh.size, by rw [hl]; exact a2, ?_, fun e => ?_⟩
    · by_cases e : av.ownBlock = some g
      · obtain ⟨c1, k1, k2, k3⟩ := hh.a.wr g cur tt f e a3
        refine ⟨c1, tt, f, k1, fun j hj => ?_⟩
        rcases k3 j with q | ⟨q1, q2, q3⟩
        · exact q.trans (a4 j hj)
        · rw [q3]
          have hp := a5 e (t + 1) (by omega)
          rw [hst] at hp
          exact pre_get (flat_pre hp) q2
      · exact ⟨cur, tt, f, (hh.fr g a1 (.inr (by rw [hl]; exact a2)) (fun e2 => by have := hses.2.1.2 g e2; omega) e).trans a3, a4⟩
    · rcases hh.a.loc with q | q
      · exact a5 (by rw [← q]; exact e)
      · have := q g e; omega
/-- At the end x's answers can still be read. -/
theorem YD.recAt {ta : TypeId} {w0 : World} {o0 : Nat → Nat} {a : Option Addr} {c : Nat} (h : YD w o (.slice a X.an.length c) X S0 ops k T av) (hr : RecL anC 4 ta w0 o0 22 (.slice a X.an.length c) X.an) : RecAt anC 4 w a c X.an := by
  have h0 := hr.recAt.2
  refine ⟨h0.1, h0.2.1, h0.2.2.1, h0.2.2.2.1, fun hp => ?_⟩
  have hpl : 0 < X.an.length := by
    rcases Nat.eq_zero_or_pos X.an.length with e | e
    · have := List.eq_nil_of_length_eq_zero e
      rw [this] at hp
      simp at hp
    · exact e
  obtain ⟨g, c', he, -, -⟩ := hr.own hpl
  simp only [Value.slice.injEq] at he
  obtain ⟨rfl, -, rfl⟩ := he
  obtain ⟨a1, a2, ⟨cur, t, f, a3, a4⟩, -⟩ := h g rfl
  refine ⟨g, 0, rfl, fun i v hi => ?_⟩
  rw [Nat.zero_add, cell_of_row w g i cur t f a3, a4 i (List.getElem?_eq_some_iff.1 hi).1]
  exact hi
end

/-! ### New labels -/
theorem RowL.relab {w : World} {o o' : Nat → Nat} {l : Nat} {e : TypeId} {size n : Nat} {v : Value} {xs : List Value} (h : RowL w o l e size v n xs) (hl : ∀ k, o k = l → o' k = l) : RowL w o' l e size v n xs := ⟨h.1, fun k hk => hl k (h.2 k hk)⟩
theorem SesAt.relab {tr ta : TypeId} {w : World} {o o' : Nat → Nat} {i b : Nat} {S : SesS} (h : SesAt tr ta w o i b S) (hl : ∀ k, Own i (o k) → o' k = o k) : SesAt tr ta w o' i b S := by
  obtain ⟨rv, av, h1, h2, h3⟩ := h
  have e1 : ∀ k, o k = 10 * i + 1 → o' k = 10 * i + 1 := fun k e => by rw [hl k (by rw [e]; exact Own.at1 i)]; exact e
  have e2 : ∀ k, o k = 10 * i + 2 → o' k = 10 * i + 2 := fun k e => by rw [hl k (by rw [e]; exact Own.at2 i)]; exact e
  exact ⟨rv, av, h1.relab (hl b (by rw [h1.lab]; exact Own.at0 i)), RowL.relab h2 e1, RowL.relab h3 e2⟩
theorem OpsL.relab {w : World} {o o' : Nat → Nat} {lo : Nat} {v : Value} {ops : List OpM} (h : OpsL w o lo v ops) (h0 : ∀ k, o k = 0 → o' k = 0) (h1 : ∀ k, o k = lo → o' k = lo) : OpsL w o' lo v ops :=
  ⟨RowL.relab h.1 h1, fun m hm => ⟨(h.2 m hm).1, (h.2 m hm).2.1, fun hp b off ha => ⟨h0 b ((h.2 m hm).2.2 hp b off ha).1, ((h.2 m hm).2.2 hp b off ha).2⟩⟩⟩
end Go.Proofs.Ytaonhmdifinadaa
