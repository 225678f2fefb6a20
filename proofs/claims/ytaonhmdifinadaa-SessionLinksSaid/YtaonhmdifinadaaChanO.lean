/-
  Two ends over a link that loses, repeats and reorders: what is delivered are the first messages sent. No program in sight.
-/
import Derived.Test.YtaonhmdifinadaaChanP
namespace Go.Proofs.Ytaonhmdifinadaa
open Go Go.Proofs
set_option linter.unusedVariables false

/-- Held messages, each a message that the other end has sent. -/
def HeldOf (So : List (List UInt8)) (h : List (Int × List UInt8)) : Prop := ∀ p, p ∈ h → ∃ j : Nat, p.1 = (j : Int) + 1 ∧ So[j]? = some p.2
theorem HeldOf.drp {So : List (List UInt8)} {h : List (Int × List UInt8)} (H : HeldOf So h) (k : Int) : HeldOf So (drp h k) := fun p hp => H p (List.mem_filter.1 hp).1
/-- An end that has sent S, where the other one has sent So and has delivered go. -/
structure GoodE (S So : List (List UInt8)) (E : EndS) (go : Nat) : Prop where
  wait : E.waiting = S.drop E.acked
  acked : E.acked ≤ go
  go_le : go ≤ S.length
  got : E.got ≤ So.length
  held : HeldOf So E.held
/-- A packet of the other end, which has sent So and has delivered go of ours. -/
structure PGood (q : Pkt) (So : List (List UInt8)) (go : Nat) : Prop where
  ack : 0 ≤ q.ack ∧ q.ack ≤ go
  data : (q.seq = 0 ∧ q.b = []) ∨ ∃ j : Nat, q.seq = (j : Int) + 1 ∧ So[j]? = some q.b
theorem GoodE.new (W : Nat) : GoodE [] [] (newE W) 0 := ⟨rfl, Nat.le_refl _, Nat.le_refl _, Nat.le_refl _, fun p hp => by cases hp⟩
theorem GoodE.len {S So : List (List UInt8)} {E : EndS} {go : Nat} (h : GoodE S So E go) : E.waiting.length = S.length - E.acked := by rw [h.wait]; simp
theorem get_snoc {S : List (List UInt8)} {j : Nat} {m x : List UInt8} (h : S[j]? = some m) : (S ++ [x])[j]? = some m := by
  rw [List.getElem?_append_left (List.getElem?_eq_some_iff.1 h).1]; exact h
theorem GoodE.send {S So : List (List UInt8)} {E : EndS} {go : Nat} {m : List UInt8} (h : GoodE S So E go) (hm : m.length ≤ 65536) (hS : S.length < 1000) :
    sendErr E m = 0 ∧ GoodE (S ++ [m]) So (sendE E m) go := by
  have hc : ¬ (65536 < m.length ∨ 1000 ≤ E.waiting.length) := by rw [h.len]; omega
  refine ⟨if_neg hc, ?_⟩
  unfold sendE
  rw [if_neg hc]
  refine ⟨?_, h.acked, by simp; have := h.go_le; omega, h.got, h.held⟩
  simp only [h.wait]
  rw [List.drop_append_of_le_length (by have := h.acked; have := h.go_le; omega)]
theorem GoodE.other {S So : List (List UInt8)} {E : EndS} {go : Nat} (h : GoodE S So E go) (m : List UInt8) : GoodE S (So ++ [m]) E go :=
  ⟨h.wait, h.acked, h.go_le, by simp; have := h.got; omega, fun p hp => by obtain ⟨j, h1, h2⟩ := h.held p hp; exact ⟨j, h1, get_snoc h2⟩⟩
theorem PGood.more {q : Pkt} {So : List (List UInt8)} {go : Nat} (h : PGood q So go) (m : List UInt8) : PGood q (So ++ [m]) go :=
  ⟨h.ack, h.data.imp id fun ⟨j, h1, h2⟩ => ⟨j, h1, get_snoc h2⟩⟩
theorem PGood.mono {q : Pkt} {So : List (List UInt8)} {go go' : Nat} (h : PGood q So go) (hg : go ≤ go') : PGood q So go' := ⟨⟨h.ack.1, by have := h.ack.2; omega⟩, h.data⟩
theorem GoodE.mono {S So : List (List UInt8)} {E : EndS} {go go' : Nat} (h : GoodE S So E go) (hg : go ≤ go') (hl : go' ≤ S.length) : GoodE S So E go' := ⟨h.wait, Nat.le_trans h.acked hg, hl, h.got, h.held⟩
theorem GoodE.out {S So : List (List UInt8)} {E : EndS} {go : Nat} (h : GoodE S So E go) : GoodE S So (outE E) go := ⟨h.wait, h.acked, h.go_le, h.got, h.held⟩
/-- The packets of Out are packets of this end. -/
theorem GoodE.pkts {S So : List (List UInt8)} {E : EndS} {go : Nat} (h : GoodE S So E go) {j : Nat} {q : Pkt} (hq : (outP E)[j]? = some q) : PGood q S E.got := by
  unfold outP at hq
  split at hq
  · cases j with
    | zero => simp at hq; subst hq; exact ⟨⟨by simp, by simp⟩, .inl ⟨rfl, rfl⟩⟩
    | succ j => simp at hq
  · rw [pktsFrom_get, List.getElem?_take] at hq
    split at hq
    · rw [h.wait, List.getElem?_drop] at hq
      cases hs : S[E.acked + j]? with
      | none => rw [hs] at hq; simp at hq
      | some m =>
        rw [hs] at hq
        simp at hq
        subst hq
        exact ⟨⟨by simp, by simp⟩, .inr ⟨E.acked + j, by simp, hs⟩⟩
    · simp at hq
theorem outP_len {E : EndS} (hw : E.window ≤ 16) : (outP E).length ≤ 16 := by
  unfold outP
  split
  · simp
  · rw [pktsFrom_length, List.length_take]; omega
theorem drain_of {So : List (List UInt8)} : ∀ (n g : Nat) (h : List (Int × List UInt8)), HeldOf So h →
    (drain n g h).1 = g + (drain n g h).2.2.length ∧ HeldOf So (drain n g h).2.1 ∧ ∀ r m, (drain n g h).2.2[r]? = some m → So[g + r]? = some m
  | 0, g, h, H => ⟨rfl, H, fun r m hm => by simp [drain] at hm⟩
  | n + 1, g, h, H => by
    unfold drain
    cases hl : look h (g + 1) with
    | none => exact ⟨rfl, H, fun r m hm => by simp at hm⟩
    | some b =>
      obtain ⟨h1, h2, h3⟩ := drain_of n (g + 1) (drp h (g + 1)) (H.drp _)
      simp only [List.length_cons]
      refine ⟨by omega, h2, fun r m hm => ?_⟩
      cases r with
      | zero =>
        simp at hm
        subst hm
        obtain ⟨j, e1, e2⟩ := H _ (look_some_mem hl)
        simp only at e1 e2
        rw [show g + 0 = j by omega]
        exact e2
      | succ r =>
        have := h3 r m (by simpa using hm)
        rw [show g + (r + 1) = g + 1 + r by omega]
        exact this
theorem GoodE.inn {S So : List (List UInt8)} {E : EndS} {go : Nat} {q : Pkt} (h : GoodE S So E go) (hq : PGood q So go) :
    GoodE S So (inE E q) go ∧ (inE E q).got = E.got + (inO E q).length ∧ ∀ r m, (inO E q)[r]? = some m → So[E.got + r]? = some m := by
  unfold inE inO
  split
  · exact ⟨h, rfl, fun r m hm => by simp at hm⟩
  have ha : GoodE S So (ackE E q.ack) go ∧ (ackE E q.ack).got = E.got := by
    unfold ackE
    split
    · refine ⟨⟨?_, ?_, h.go_le, h.got, h.held⟩, rfl⟩
      · simp only [h.wait, List.drop_drop]
        congr 1
        omega
      · simp only
        have := hq.ack.2
        omega
    · exact ⟨h, rfl⟩
  split
  · exact ⟨ha.1, ha.2, fun r m hm => by simp at hm⟩
  rename_i h0
  obtain ⟨ha, hg⟩ := ha
  rw [← hg]
  generalize ackE E q.ack = X at ha
  have hh : HeldOf So (holdE X q.seq q.b).held := by
    unfold holdE
    simp only
    split
    · intro p hp
      rcases List.mem_append.1 hp with hp | hp
      · exact ha.held p hp
      · simp at hp
        subst hp
        rcases hq.data with hd | hd
        · exact absurd hd.1 h0
        · exact hd
    · exact ha.held
  obtain ⟨h1, h2, h3⟩ := drain_of (So := So) (holdE X q.seq q.b).held.length (holdE X q.seq q.b).got (holdE X q.seq q.b).held hh
  refine ⟨⟨ha.wait, ha.acked, ha.go_le, ?_, h2⟩, h1, h3⟩
  show (drain (holdE X q.seq q.b).held.length (holdE X q.seq q.b).got (holdE X q.seq q.b).held).1 ≤ So.length
  rw [h1]
  cases hx : (drain (holdE X q.seq q.b).held.length (holdE X q.seq q.b).got (holdE X q.seq q.b).held).2.2 with
  | nil => exact ha.got
  | cons a tl =>
    have := h3 tl.length ((a :: tl)[tl.length]) (by rw [hx]; exact List.getElem?_eq_getElem _)
    have := (List.getElem?_eq_some_iff.1 this).1
    simp
    omega
end Go.Proofs.Ytaonhmdifinadaa
