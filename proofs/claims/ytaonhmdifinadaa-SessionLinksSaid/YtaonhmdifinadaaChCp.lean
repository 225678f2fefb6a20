/-
  Changes sent over a channel: what the ends keep, and that everything is delivered. No program in sight.
-/
import Derived.Test.YtaonhmdifinadaaChanO
namespace Go.Proofs.Ytaonhmdifinadaa
open Go Go.Proofs
set_option linter.unusedVariables false
set_option linter.unusedSimpArgs false

/-- One end sends S, the other one nothing. -/
structure ChS (S : List (List UInt8)) (A B : EndS) : Prop where
  a : GoodE S [] A B.got
  b : GoodE [] S B A.got
  z : A.got = 0
  small : ∀ m ∈ S, m.length ≤ 65536
theorem ChS.new (W V : Nat) : ChS [] (newE W) (newE V) := ⟨GoodE.new W, GoodE.new V, rfl, fun m h => by simp at h⟩
theorem ChS.send {S : List (List UInt8)} {A B : EndS} {m : List UInt8} (h : ChS S A B) (hm : m.length ≤ 65536) (hS : S.length < 1000) : sendErr A m = 0 ∧ ChS (S ++ [m]) (sendE A m) B := by
  obtain ⟨h1, h2⟩ := h.a.send hm hS
  have hg : (sendE A m).got = A.got := by unfold sendE; split <;> rfl
  refine ⟨h1, h2, ?_, by rw [hg]; exact h.z, fun x hx => ?_⟩
  · rw [hg]; exact h.b.other m
  · rcases List.mem_append.1 hx with hx | hx
    · exact h.small x hx
    · simp only [List.mem_singleton] at hx; subst hx; exact hm
section
variable {S : List (List UInt8)} {A B : EndS} {q : Pkt}
theorem ChS.outA (h : ChS S A B) : ChS S (outE A) B := ⟨h.a.out, h.b, h.z, h.small⟩
theorem ChS.outB (h : ChS S A B) : ChS S A (outE B) := ⟨h.a, h.b.out, h.z, h.small⟩
theorem ChS.pktA (h : ChS S A B) {j : Nat} (hq : (outP A)[j]? = some q) : PGood q S 0 := by have := h.a.pkts hq; rw [h.z] at this; exact this
theorem ChS.pktB (h : ChS S A B) {j : Nat} (hq : (outP B)[j]? = some q) : PGood q [] B.got := h.b.pkts hq
/-- A packet of the sender arrives. -/
theorem ChS.inB (h : ChS S A B) (hq : PGood q S 0) : ChS S A (inE B q) ∧ (inE B q).got = B.got + (inO B q).length ∧ ∀ r m, (inO B q)[r]? = some m → S[B.got + r]? = some m := by
  have hq' : PGood q S A.got := by rw [h.z]; exact hq
  obtain ⟨h1, h2, h3⟩ := h.b.inn hq'
  exact ⟨⟨h.a.mono (by omega) h1.got, h1, h.z, h.small⟩, h2, h3⟩
/-- An acknowledgement arrives. -/
theorem ChS.inA (h : ChS S A B) (hq : PGood q [] B.got) : ChS S (inE A q) B := by
  obtain ⟨h1, h2, h3⟩ := h.a.inn hq
  have hz : (inE A q).got = 0 := by have := h1.got; simp at this; exact this
  refine ⟨h1, ?_, hz, h.small⟩
  rw [hz, ← h.z]
  exact h.b
theorem ackE_low (E : EndS) (n : Int) : E.acked ≤ (ackE E n).acked ∧ (ackE E n).owing = E.owing ∧ (ackE E n).got = E.got := by
  unfold ackE
  split
  · refine ⟨?_, rfl, rfl⟩
    simp only
    omega
  · exact ⟨Nat.le_refl _, rfl, rfl⟩
theorem inE_acked (E : EndS) (q : Pkt) : E.acked ≤ (inE E q).acked := by
  unfold inE
  split
  · exact Nat.le_refl _
  · split
    · exact (ackE_low E q.ack).1
    · exact (ackE_low E q.ack).1
theorem inE_owing {E : EndS} (q : Pkt) (h : E.owing = true) : (inE E q).owing = true := by
  unfold inE
  split
  · exact h
  · split
    · rw [(ackE_low E q.ack).2.1]; exact h
    · rfl
/-- The first message that is not acknowledged arrives. -/
theorem ChS.next (h : ChS S A B) {j : Nat} {m : List UInt8} {a : Int} (hq : PGood ⟨(j : Int) + 1, a, m⟩ S 0) (hj : j ≤ B.got) : j + 1 ≤ (inE B ⟨(j : Int) + 1, a, m⟩).got ∧ (inE B ⟨(j : Int) + 1, a, m⟩).owing = true := by
  have ha : a = 0 := by have := hq.ack; simp at this; omega
  subst ha
  have hm : m.length ≤ 65536 := by
    rcases hq.data with ⟨h1, _⟩ | ⟨i, h1, h2⟩
    · simp at h1; omega
    · exact h.small m (List.mem_of_getElem? h2)
  have hr : refuses B ⟨(j : Int) + 1, 0, m⟩ = false := by
    have h6 : ¬ (((B.acked + B.waiting.length : Nat) : Int) < (0 : Int)) := by omega
    have h7 : ¬ (((B.got + 16 : Nat) : Int) < (j : Int) + 1) := by omega
    have h8 : pvalid ⟨(j : Int) + 1, 0, m⟩ = true := by
      unfold pvalid
      simp only [Bool.and_eq_true, Bool.or_eq_true, decide_eq_true_eq]
      exact ⟨by omega, by omega, hm, .inl (by omega)⟩
    unfold refuses
    simp only [decide_eq_false h6, decide_eq_false h7, h8]
    rfl
  have he : inE B ⟨(j : Int) + 1, 0, m⟩ = drainE (holdE (ackE B 0) ((j : Int) + 1) m) := by
    unfold inE
    rw [hr, if_neg (by decide), if_neg (by simp only; omega)]
  rw [he]
  refine ⟨?_, rfl⟩
  have hg : (ackE B 0).got = B.got := (ackE_low B 0).2.2
  generalize ackE B 0 = X at hg
  by_cases hjg : j < B.got
  · have hd : B.got ≤ (drainE (holdE X ((j : Int) + 1) m)).got := by
      show _ ≤ (drain _ _ _).1
      have : (holdE X ((j : Int) + 1) m).got = B.got := hg
      have hge : ∀ (n g : Nat) (hh : List (Int × List UInt8)), g ≤ (drain n g hh).1 := by
        intro n
        induction n with
        | zero => intro g hh; exact Nat.le_refl _
        | succ n ih =>
          intro g hh
          unfold drain
          split
          · exact Nat.le_refl _
          · have := ih (g + 1) (drp hh (g + 1)); simp only; omega
      have h2 := hge (holdE X ((j : Int) + 1) m).held.length (holdE X ((j : Int) + 1) m).got (holdE X ((j : Int) + 1) m).held
      omega
    omega
  · have hje : j = B.got := by omega
    subst hje
    have hl : ∃ b, look (holdE X ((B.got : Int) + 1) m).held ((B.got : Int) + 1) = some b := by
      unfold holdE
      simp only
      by_cases hc : (X.got : Int) < (B.got : Int) + 1 ∧ look X.held ((B.got : Int) + 1) = none
      · rw [if_pos hc]
        refine ⟨m, ?_⟩
        have h0 : X.held.find? (fun p => p.1 == (B.got : Int) + 1) = none := by
          have := hc.2; unfold look at this; simpa using this
        unfold look put
        rw [List.find?_append, h0]
        simp
      · rw [if_neg hc]
        cases hx : look X.held ((B.got : Int) + 1) with
        | none => exact absurd ⟨by omega, hx⟩ hc
        | some b => exact ⟨b, rfl⟩
    obtain ⟨b, hb⟩ := hl
    have hg2 : (holdE X ((B.got : Int) + 1) m).got = B.got := hg
    show B.got + 1 ≤ (drain _ _ _).1
    rw [hg2]
    have hds := drain_some (g := B.got) (h := (holdE X ((B.got : Int) + 1) m).held) hb
    rw [hds]
    have hge : ∀ (n g : Nat) (hh : List (Int × List UInt8)), g ≤ (drain n g hh).1 := by
      intro n
      induction n with
      | zero => intro g hh; exact Nat.le_refl _
      | succ n ih =>
        intro g hh
        unfold drain
        split
        · exact Nat.le_refl _
        · have := ih (g + 1) (drp hh (g + 1)); simp only; omega
    exact hge _ _ _
/-- What the receiver sends when it owes. -/
theorem ChS.owe (h : ChS S A B) (ho : B.owing = true) : outP B = [⟨0, B.got, []⟩] := by
  have hw : B.waiting = [] := by rw [h.b.wait]; simp
  unfold outP
  rw [if_pos ⟨by rw [hw]; simp, ho⟩]
theorem ChS.acks (h : ChS S A B) : B.got ≤ (inE A ⟨0, B.got, []⟩).acked := by
  have hle := h.a.go_le
  have hl := h.a.len
  have hac := h.a.acked
  have hr : refuses A ⟨0, B.got, []⟩ = false := by
    have h6 : ¬ (((A.acked + A.waiting.length : Nat) : Int) < (B.got : Int)) := by omega
    have h7 : ¬ (((A.got + 16 : Nat) : Int) < (0 : Int)) := by omega
    have h8 : pvalid ⟨0, B.got, []⟩ = true := by
      unfold pvalid
      simp only [Bool.and_eq_true, Bool.or_eq_true, decide_eq_true_eq]
      exact ⟨by omega, by omega, by simp, .inr (by simp)⟩
    unfold refuses
    simp only [decide_eq_false h6, decide_eq_false h7, h8]
    rfl
  unfold inE
  rw [hr, if_neg (by decide), if_pos rfl]
  show B.got ≤ (ackE A (B.got : Int)).acked
  unfold ackE
  split
  · simp
  · omega
/-- The first packet of the sender. -/
theorem ChS.first (h : ChS S A B) (hn : A.acked < S.length) (hw : 1 ≤ A.window) : ∃ m, (outP A)[0]? = some ⟨(A.acked : Int) + 1, A.got, m⟩ := by
  have hl : (A.waiting.take A.window).length ≠ 0 := by rw [List.length_take, h.a.len]; omega
  have hwl : 0 < A.waiting.length := by rw [h.a.len]; omega
  unfold outP
  rw [if_neg (fun x => hl x.1), pktsFrom_get, List.getElem?_take, if_pos (by omega), List.getElem?_eq_getElem hwl]
  exact ⟨_, rfl⟩
end
end Go.Proofs.Ytaonhmdifinadaa
