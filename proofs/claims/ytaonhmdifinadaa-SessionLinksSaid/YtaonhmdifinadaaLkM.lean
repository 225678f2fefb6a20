/-
  The law SessionLinks: its memory; bounds of the ends.
-/
import Derived.Test.YtaonhmdifinadaaLkR
import Derived.Test.YtaonhmdifinadaaSesE
import Derived.Test.YtaonhmdifinadaaSesG
namespace Go.Proofs.Ytaonhmdifinadaa
open Go Go.Proofs
open Go.RowKit
set_option linter.unusedVariables false
set_option linter.unusedSimpArgs false

/-- The ends a and b, the session, the versions, the IDs begun (label 40), the IDs that came back (label 41). -/
structure KW (w wr : World) (o : Nat → Nat) (b1 b2 sb : Nat) (A B : EndS) (S : SesS) (bs gs : List Int) (bv gv : Value) (va : Option Addr) (vc : Nat) (vl : List Vn) : Prop where
  two : Two w wr o (pr b1 b2) (pr A B)
  s : SesP wr o 5 sb S
  vs : RecD vnC 2 wr o 0 va vc vl
  bg : RowL wr o 40 3 1 bv bs.length (bs.map intV)
  gt : RowL wr o 41 3 1 gv gs.length (gs.map intV)
section
variable {L : Nat → Prop} {w wr w' : World} {o o' : Nat → Nat} {b1 b2 sb vc l : Nat} {A B A' B' : EndS} {S S' : SesS} {bs gs bs' gs' : List Int} {bv gv bv' gv' : Value} {va : Option Addr} {vl : List Vn}
theorem KW.step (h : KW w wr o b1 b2 sb A B S bs gs bv gv va vc vl) (hs : Step L wr o w' o') (h0 : ∀ l, L l → (30 ≤ l ∧ l < 40) ∨ (42 ≤ l ∧ l < 50) ∨ 60 ≤ l) : KW w w' o' b1 b2 sb A B S bs gs bv gv va vc vl :=
  ⟨h.two.step hs fun l hl hx => by have := h0 l hx; omega, h.s.step hs fun l hl hx => by have := h0 l hx; unfold Own at hl; omega, h.vs.step hs fun hx => by have := h0 0 hx; omega, h.bg.step hs fun hx => by have := h0 40 hx; omega, h.gt.step hs fun hx => by have := h0 41 hx; omega⟩
theorem KW.same (h : KW w wr o b1 b2 sb A B S bs gs bv gv va vc vl) (hb : Below wr.heap.size wr w') : KW w w' o b1 b2 sb A B S bs gs bv gv va vc vl := h.step (L := fun _ => False) (Step.same hb) fun _ h => h.elim
theorem KW.setA (h : KW w wr o b1 b2 sb A B S bs gs bv gv va vc vl) (hs : Step (fun x => 10 ≤ x ∧ x < 30 ∨ x = l) wr o w' o') (hl : (30 ≤ l ∧ l < 40) ∨ (42 ≤ l ∧ l < 50)) (ht : Two w w' o' (pr b1 b2) (upd (pr A B) 0 A')) : KW w w' o' b1 b2 sb A' B S bs gs bv gv va vc vl :=
  ⟨ht.pr0, h.s.step hs fun l hl => by unfold Own at hl; omega, h.vs.step hs (by omega), h.bg.step hs (by omega), h.gt.step hs (by omega)⟩
theorem KW.setB (h : KW w wr o b1 b2 sb A B S bs gs bv gv va vc vl) (hs : Step (fun x => 10 ≤ x ∧ x < 30 ∨ x = l) wr o w' o') (hl : (30 ≤ l ∧ l < 40) ∨ (42 ≤ l ∧ l < 50)) (ht : Two w w' o' (pr b1 b2) (upd (pr A B) 1 B')) : KW w w' o' b1 b2 sb A B' S bs gs bv gv va vc vl :=
  ⟨ht.pr1, h.s.step hs fun l hl => by unfold Own at hl; omega, h.vs.step hs (by omega), h.bg.step hs (by omega), h.gt.step hs (by omega)⟩
theorem KW.setS (h : KW w wr o b1 b2 sb A B S bs gs bv gv va vc vl) (hs : Step (Own 5) wr o w' o') (hS : SesP w' o' 5 sb S') : KW w w' o' b1 b2 sb A B S' bs gs bv gv va vc vl :=
  ⟨h.two.step hs fun l hl => by unfold Own; omega, hS, h.vs.step hs (by unfold Own; omega), h.bg.step hs (by unfold Own; omega), h.gt.step hs (by unfold Own; omega)⟩
theorem KW.setBg (h : KW w wr o b1 b2 sb A B S bs gs bv gv va vc vl) (hs : Step (· = 40) wr o w' o') (hr : RowL w' o' 40 3 1 bv' bs'.length (bs'.map intV)) : KW w w' o' b1 b2 sb A B S bs' gs bv' gv va vc vl :=
  ⟨h.two.step hs fun l hl => by omega, h.s.step hs fun l hl => by unfold Own at hl; omega, h.vs.step hs (by omega), hr, h.gt.step hs (by omega)⟩
theorem KW.setGt (h : KW w wr o b1 b2 sb A B S bs gs bv gv va vc vl) (hs : Step (· = 41) wr o w' o') (hr : RowL w' o' 41 3 1 gv' gs'.length (gs'.map intV)) : KW w w' o' b1 b2 sb A B S bs gs' bv gv' va vc vl :=
  ⟨h.two.step hs fun l hl => by omega, h.s.step hs fun l hl => by unfold Own at hl; omega, h.vs.step hs (by omega), h.bg.step hs (by omega), hr⟩
theorem KW.below (h : KW w wr o b1 b2 sb A B S bs gs bv gv va vc vl) : Below w.heap.size w wr := h.two.below
end
/-! ### Bounds of the ends -/
theorem ackE_keep (E : EndS) (n : Int) : (ackE E n).window = E.window ∧ (ackE E n).held = E.held := by unfold ackE; split <;> exact ⟨rfl, rfl⟩
theorem inE_win (E : EndS) (q : Pkt) : (inE E q).window = E.window := by
  unfold inE
  split
  · rfl
  · split
    · exact (ackE_keep E q.ack).1
    · exact (ackE_keep E q.ack).1
theorem inE_grow (E : EndS) (q : Pkt) : (inE E q).got + (inE E q).held.length ≤ E.got + E.held.length + 1 := by
  have h1 := (ackE_low E q.ack).2.2
  have h2 := (ackE_keep E q.ack).2
  unfold inE
  split
  · omega
  · split
    · rw [h1, h2]; omega
    · have h3 := drain_sum (holdE (ackE E q.ack) q.seq q.b).held.length (holdE (ackE E q.ack) q.seq q.b).got (holdE (ackE E q.ack) q.seq q.b).held
      have h4 : (holdE (ackE E q.ack) q.seq q.b).got = E.got := h1
      have h5 : (holdE (ackE E q.ack) q.seq q.b).held.length ≤ E.held.length + 1 := by
        unfold holdE
        simp only
        split
        · unfold put; rw [List.length_append, h2]; simp
        · rw [h2]; omega
      show (drain _ _ _).1 + (drain _ _ _).2.1.length ≤ _
      omega
theorem Ch2.fitA {S R : List (List UInt8)} {A B : EndS} (h : Ch2 S R A B) (h1 : 1 ≤ A.window) (h2 : A.window ≤ 16) (hS : S.length ≤ 900) {N : Nat} (hSN : S.length ≤ N) (hN : A.got + A.held.length ≤ N) : Fit A N := by
  have hl := h.a.len
  have ha := h.a.acked
  have hg := h.a.go_le
  refine ⟨h1, h2, by omega, fun m hm => ?_, by omega, hN⟩
  rw [h.a.wait] at hm
  exact h.sa m (List.mem_of_mem_drop hm)
end Go.Proofs.Ytaonhmdifinadaa
