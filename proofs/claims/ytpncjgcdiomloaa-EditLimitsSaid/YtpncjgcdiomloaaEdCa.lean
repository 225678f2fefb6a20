/-
  Composition: the list that the loop makes, part by part; appending to the consumer's row is nothing that the iterator minds. No program's code in sight.
-/
import Derived.Test.YtpncjgcdiomloaaEdZ2
import Derived.Test.YtpncjgcdiomloaaEdN
import Derived.Maps.AppendAt
namespace Go.Proofs.Ytpncjgcdiomloaa
open Go Go.Proofs
open Go.RowKit
set_option linter.unusedVariables false
set_option linter.unusedSimpArgs false

def oldE : Nat → List Prt → Nat
  | o, [] => o
  | _, R :: Rs => oldE (R.1 + R.2.2) Rs
def newE : Nat → List Prt → Nat
  | p, [] => p
  | _, R :: Rs => newE (R.2.1 + R.2.2) Rs
def gapsI (u : List UInt8) : Nat → Nat → List Prt → List Ed
  | _, _, [] => []
  | o, p, R :: Rs => ⟨o, R.1, cutL u p R.2.1⟩ :: gapsI u (R.1 + R.2.2) (R.2.1 + R.2.2) Rs
theorem oldE_snoc (R : Prt) : ∀ (Rs : List Prt) (o : Nat), oldE o (Rs ++ [R]) = R.1 + R.2.2
  | [], _ => rfl
  | _ :: Rs, _ => oldE_snoc R Rs _
theorem newE_snoc (R : Prt) : ∀ (Rs : List Prt) (o : Nat), newE o (Rs ++ [R]) = R.2.1 + R.2.2
  | [], _ => rfl
  | _ :: Rs, _ => newE_snoc R Rs _
theorem gapsI_snoc (u : List UInt8) (R : Prt) : ∀ (Rs : List Prt) (o p : Nat), gapsI u o p (Rs ++ [R]) = gapsI u o p Rs ++ [⟨oldE o Rs, R.1, cutL u (newE p Rs) R.2.1⟩]
  | [], _, _ => rfl
  | Q :: Rs, o, p => by simp only [List.cons_append, gapsI, gapsI_snoc u R Rs, oldE, newE]
theorem gapsI_length (u : List UInt8) : ∀ (Rs : List Prt) (o p : Nat), (gapsI u o p Rs).length = Rs.length
  | [], _, _ => rfl
  | _ :: Rs, _, _ => by simp [gapsI, gapsI_length u Rs]
theorem gapsP_eq (n : Nat) (u : List UInt8) : ∀ (Rs : List Prt) (o p : Nat), gapsP n u o p Rs = gapsI u o p Rs ++ [⟨oldE o Rs, n, u.drop (newE p Rs)⟩]
  | [], _, _ => rfl
  | R :: Rs, o, p => by simp only [gapsP, gapsI, gapsP_eq n u Rs, List.cons_append, oldE, newE]
theorem gapsI_x (u : List UInt8) : ∀ (Rs : List Prt) (o p : Nat), ∀ e ∈ gapsI u o p Rs, e.x.length ≤ u.length
  | [], _, _, e, h => by simp [gapsI] at h
  | R :: Rs, o, p, e, h => by
    simp only [gapsI, List.mem_cons] at h
    rcases h with rfl | h
    · simp only [cutL, List.length_take, List.length_drop]; omega
    · exact gapsI_x u Rs _ _ e h
theorem gapsP_x (n : Nat) (u : List UInt8) (Rs : List Prt) (o p : Nat) : ∀ e ∈ gapsP n u o p Rs, e.x.length ≤ u.length := by
  intro e h
  rw [gapsP_eq] at h
  rcases List.mem_append.1 h with h | h
  · exact gapsI_x u Rs o p e h
  · simp only [List.mem_singleton] at h
    subst h
    simp only [List.length_drop]
    omega
theorem ends_le {R : Prt} : ∀ {pre : List Prt} {o p : Nat}, (pre ++ [R]).Pairwise Before → (∀ Q ∈ pre ++ [R], o ≤ Q.1 ∧ p ≤ Q.2.1) → oldE o pre ≤ R.1 ∧ newE p pre ≤ R.2.1
  | [], o, p, _, h => h R (by simp)
  | Q :: pre, o, p, hp, h => by
    rw [List.cons_append, List.pairwise_cons] at hp
    exact ends_le (pre := pre) (o := Q.1 + Q.2.2) (p := Q.2.1 + Q.2.2) hp.2 fun Q' hQ' => hp.1 Q' hQ'
theorem newE_le (n : Nat) : ∀ {pre : List Prt} {p : Nat}, p ≤ n → (∀ Q ∈ pre, Q.2.1 + Q.2.2 ≤ n) → newE p pre ≤ n
  | [], _, hp, _ => hp
  | Q :: pre, _, _, h => newE_le n (pre := pre) (p := Q.2.1 + Q.2.2) (h Q (by simp)) fun Q' hQ' => h Q' (List.mem_cons_of_mem _ hQ')
theorem oldE_le (n : Nat) : ∀ {pre : List Prt} {p : Nat}, p ≤ n → (∀ Q ∈ pre, Q.1 + Q.2.2 ≤ n) → oldE p pre ≤ n
  | [], _, hp, _ => hp
  | Q :: pre, _, _, h => oldE_le n (pre := pre) (p := Q.1 + Q.2.2) (h Q (by simp)) fun Q' hQ' => h Q' (List.mem_cons_of_mem _ hQ')
/-- A part that both keep, and what lies ahead of it. -/
theorem comp_part {s : List UInt8} {a b : List Ed} (ha : Snd s.length 0 a) (hb : Snd (applyL s 0 a).length 0 b) {pre : List Prt} {R : Prt} (hp : pre ++ [R] <+: bothL (partsL s.length 0 0 a) (partsL (applyL s 0 a).length 0 0 b)) :
    oldE 0 pre ≤ R.1 ∧ newE 0 pre ≤ R.2.1 ∧ R.1 + R.2.2 ≤ s.length ∧ R.2.1 + R.2.2 ≤ (applyL (applyL s 0 a) 0 b).length := by
  have hR : R ∈ bothL (partsL s.length 0 0 a) (partsL (applyL s 0 a).length 0 0 b) := hp.subset (by simp)
  have hord := (both_order (parts_order ha (q := 0)) (parts_order hb (q := 0))).sublist hp.sublist
  obtain ⟨h1, h2⟩ := ends_le (o := 0) (p := 0) hord fun Q _ => ⟨Nat.zero_le _, Nat.zero_le _⟩
  have h3 := (both_in ha hb R hR).2
  have h4 := both_pos R hR
  have h5 : (R.1 + (R.2.2 - 1), R.2.1 + (R.2.2 - 1)) ∈ (bothL (partsL s.length 0 0 a) (partsL (applyL s 0 a).length 0 0 b)).flatMap expP := by
    rw [List.mem_flatMap]
    exact ⟨R, hR, mem_expP.2 ⟨by omega, by omega, by omega⟩⟩
  have h6 := comp_byte ha hb _ h5
  have h7 : R.2.1 + (R.2.2 - 1) < (applyL (applyL s 0 a) 0 b).length := by
    have h8 := h6.2.2.2
    have h9 := h6.2.2.1
    rw [List.getElem?_eq_getElem (l := s) h9] at h8
    exact (List.getElem?_eq_some_iff.1 h8).1
  exact ⟨h1, h2, h3, by omega⟩
theorem comp_end {s : List UInt8} {a b : List Ed} (ha : Snd s.length 0 a) (hb : Snd (applyL s 0 a).length 0 b) :
    oldE 0 (bothL (partsL s.length 0 0 a) (partsL (applyL s 0 a).length 0 0 b)) ≤ s.length ∧ newE 0 (bothL (partsL s.length 0 0 a) (partsL (applyL s 0 a).length 0 0 b)) ≤ (applyL (applyL s 0 a) 0 b).length := by
  generalize hC : bothL (partsL s.length 0 0 a) (partsL (applyL s 0 a).length 0 0 b) = C
  cases List.eq_nil_or_concat C with
  | inl h => subst h; exact ⟨Nat.zero_le _, Nat.zero_le _⟩
  | inr h =>
    obtain ⟨pre, R, rfl⟩ := h
    rw [List.concat_eq_append] at hC ⊢
    obtain ⟨h1, h2, h3, h4⟩ := comp_part ha hb (pre := pre) (R := R) (by rw [hC]; exact List.prefix_refl _)
    rw [oldE_snoc, newE_snoc]
    exact ⟨h3, h4⟩

/-! ### What the iterator does not mind -/
section
variable {X : Nat → Prop} {Bl : Nat} {W w1 : World}
/-- A store into another box of the consumer's. -/
theorem KpB.store {b : Nat} (hx : X b) (hne : b ≠ Bl) (u : Value) : KpB X Bl W (W.setCell ⟨b, 0, none⟩ u) := by
  have hk : ∀ k, k ≠ b → (W.setCell ⟨b, 0, none⟩ u).heap[k]? = W.heap[k]? := fun k h => Below.heap_setCell W ⟨b, 0, none⟩ u k h
  have hz := (KeepsOthers.setCell W ⟨b, 0, none⟩ u).size
  refine ⟨hz, fun ⟨a, n, c, t, h1, h2⟩ => ⟨a, n, c, t, by rw [hk _ (Ne.symm hne)]; exact h1, fun ad e => by have := h2 ad e; omega⟩, fun k o ⟨⟨a, n, c, t, h1, h2⟩, h3, h4, h5⟩ => ?_⟩
  exact ⟨⟨a, n, c, t, by rw [hk _ (Ne.symm hne)]; exact h1, h2⟩, h3, by rw [hk _ (fun e => h3 (by rw [e]; exact hx))]; exact h4, h5⟩
/-- 'l = append(l, x)'. -/
theorem KpB.append {tmp : Obj} {t e : TypeId} {n0 n m c' size : Nat} {a : Option Addr} {c : Nat} {a' : Option Addr} {ys : List Value} (hX : X Bl) (hv : Boxed W Bl t (.slice a n c)) (hv1 : Boxed w1 Bl t (.slice a n c))
    (hgrow : (W.alloc tmp).grownBy w1 (Value.slice a n c).ownBlock) (hown : w1.ownsRow n0 e size (.slice a' m c') m ys)
    (hat : (Value.slice a' m c').ownBlock = (Value.slice a n c).ownBlock ∨ (Value.slice a' m c').ownBlock = some (W.alloc tmp).heap.size) : KpB X Bl W (w1.setCell ⟨Bl, 0, none⟩ (.slice a' m c')) := by
  have hz1 : W.heap.size + 1 ≤ w1.heap.size := by have := hgrow.size; simp at this; exact this
  have hz : w1.heap.size ≤ (w1.setCell ⟨Bl, 0, none⟩ (.slice a' m c')).heap.size := (KeepsOthers.setCell w1 ⟨Bl, 0, none⟩ (.slice a' m c')).size
  have hb2 : Boxed (w1.setCell ⟨Bl, 0, none⟩ (.slice a' m c')) Bl t (.slice a' m c') := hv1.set _
  refine ⟨by omega, fun _ => ⟨a', m, c', t, hb2, fun ad e' => ?_⟩, fun k o ⟨⟨a2, n2, c2, t2, h1, h2⟩, h3, h4, h5⟩ => ?_⟩
  · have := (hown.lt ad.block (by rw [e']; rfl)).2
    omega
  · have e1 := (show W.heap[Bl]? = _ from hv).symm.trans h1
    simp only [Option.some.injEq, Obj.cells.injEq, Array.mk.injEq, List.cons.injEq, Value.slice.injEq, and_true] at e1
    obtain ⟨⟨rfl, rfl, rfl⟩, rfl⟩ := e1
    have hlt := (Array.getElem?_eq_some_iff.1 h4).1
    have hne : k ≠ Bl := fun e => h3 (by rw [e]; exact hX)
    refine ⟨⟨a', m, c', t, hb2, fun ad e' => ?_⟩, h3, ?_, h5⟩
    · rcases hat with hat | hat
      · rw [e'] at hat
        cases a with
        | none => simp [Value.ownBlock] at hat
        | some a0 =>
          have := h2 a0 rfl
          simp [Value.ownBlock] at hat
          omega
      · rw [e'] at hat
        simp [Value.ownBlock] at hat
        omega
    · rw [Below.heap_setCell w1 ⟨Bl, 0, none⟩ _ k hne, hgrow.block k (by simp; omega) (fun e' => ?_), Below.heap_alloc W tmp k hlt]
      · exact h4
      · cases a with
        | none => simp [Value.ownBlock] at e'
        | some a0 =>
          have := h2 a0 rfl
          simp [Value.ownBlock] at e'
          omega
end
/-- A block of another type is not the row. -/
theorem row_ne {W : World} {b : Nat} {cs : Array Value} {t e : TypeId} (h : W.heap[b]? = some (.cells cs t (0, 0))) (hte : t ≠ e) {base size k : Nat} {v : Value} {xs : List Value} (hr : W.ownsRow base e size v k xs) : some b ≠ v.ownBlock := by
  rcases hr.2 with ⟨rfl, _⟩ | ⟨g, cap, cur, rfl, _, hgb, _⟩
  · simp [Value.ownBlock]
  · intro e'
    obtain rfl : b = g := by simpa [Value.ownBlock] using e'
    have := h.symm.trans hgb
    simp at this
    exact hte this.2
/-- 'append' to what is owned, in a region that draws: where the new row lies. -/
theorem run_append_at {P : Program} (w : World) {t e : TypeId} {z : Value} {size bytes : Nat} (E : ElemT P t e z size bytes) (ty : TypeId) (base : Nat)
    (v : Value) (n : Nat) (xs : List Value) (hown : w.ownsRow base e size v n xs) (ad : Addr) (m c : Nat) (news : List Value)
    (hsrc : RowAt w (some ad) m c size news) (h1 : ∀ u ∈ news, u.oneCell' = true)
    (h63 : n + m ≤ 9223372036854775807) (hbytes : (n + m) * bytes ≤ 140737488355328) (hbase : base ≤ w.heap.size) :
    ∃ v' w', (Builtin.append_ #[t, t] ty #[v, .slice (some ad) m c]).run P w = .ok v' w' ∧ w'.ownsRow base e size v' (n + m) (xs ++ news) ∧ w.grownBy w' v.ownBlock ∧ (v'.ownBlock = v.ownBlock ∨ v'.ownBlock = some w.heap.size) := by
  obtain ⟨i, hi, hz0, hz1, hz2⟩ := E.info
  have hcells : ∀ j u, news[j]? = some u → w.cell? (ad.add j) = some u := by
    intro j u hj
    have hp : 0 < news.length := by
      have := (List.getElem?_eq_some_iff.1 hj).1
      omega
    obtain ⟨b, off, ha, hc⟩ := hsrc.2.2.2.2 hp
    simp only [Option.some.injEq] at ha
    subst ha
    rw [Addr.add_lit]
    exact hc j u hj
  obtain ⟨v', w', hr, h2, h3, _, h5⟩ := run_append_own_at (P := P) (w := w) base t ty e i z size bytes E.und hi hz0 hz1 hz2 E.zs E.pos v n xs hown ad m c news hsrc.1 hcells h1 (by simpa [maxLen] using h63) hbytes hbase
  exact ⟨v', w', hr, h2, h3, h5⟩
theorem step_append_at {P : Program} {w : World} {ops : Array Oper} {q : Oper} {a : Act} {K : Act → World → Prop} {Q : Exit → Act → World → Prop} {E' : Prop}
    (hg : q.guard = none) (s x : Operand) (t : TypeId) (ho : q.op = .call { callee := .builtin .append, args := #[s, x], argTypes := #[t, t] })
    {e : TypeId} {z : Value} {size bytes : Nat} (E : ElemT P t e z size bytes) (base : Nat)
    (v : Value) (n : Nat) (xs : List Value) (hs : a.eval s = v) (hown : w.ownsRow base e size v n xs) (ad : Addr) (m c : Nat) (news : List Value) (hx : a.eval x = .slice (some ad) m c)
    (hsrc : RowAt w (some ad) m c size news) (h1 : ∀ u ∈ news, u.oneCell' = true)
    (h63 : n + m ≤ 9223372036854775807) (hbytes : (n + m) * bytes ≤ 140737488355328) (hbase : base ≤ w.heap.size)
    (h : ∀ v' w', w'.ownsRow base e size v' (n + m) (xs ++ news) → w.grownBy w' v.ownBlock → (v'.ownBlock = v.ownBlock ∨ v'.ownBlock = some w.heap.size) → K (a.put q.dst v') w') :
    if Region.wanted q (yielded ops a.tmps) = true then Oper.wp P q a w K Q else E' := by
  have hw : Region.wanted q (yielded ops a.tmps) = true := by simp [Region.wanted, hg]
  rw [if_pos hw]
  obtain ⟨v', w', hr, h2, h3, h4⟩ := run_append_at (P := P) w E q.type base v n xs hown ad m c news hsrc h1 h63 hbytes hbase
  unfold Oper.wp execOp
  simp only [ho, resolve, invoke, builtin, Sem.run_bind, Sem.run_pure, Result.andThen_ok, List.map_toArray, List.map_cons, List.map_nil, hs, hx, hr]
  exact h v' w' h2 h3 h4
end Go.Proofs.Ytpncjgcdiomloaa
