/-
  Two ends that both send: what a packet does, and what comes of the first packet. No program in sight.
-/
import Derived.Test.YtaonhmdifinadaaChCp
namespace Go.Proofs.Ytaonhmdifinadaa
open Go Go.Proofs
set_option linter.unusedVariables false
set_option linter.unusedSimpArgs false

/-- A has sent S, B has sent R. -/
structure Ch2 (S R : List (List UInt8)) (A B : EndS) : Prop where
  a : GoodE S R A B.got
  b : GoodE R S B A.got
  sa : ∀ m ∈ S, m.length ≤ 65536
  sb : ∀ m ∈ R, m.length ≤ 65536
theorem sendE_got (E : EndS) (m : List UInt8) : (sendE E m).got = E.got := by unfold sendE; split <;> rfl
section
variable {S R : List (List UInt8)} {A B : EndS} {q : Pkt} {m : List UInt8}
theorem Ch2.new (W V : Nat) : Ch2 [] [] (newE W) (newE V) := ⟨GoodE.new W, GoodE.new V, fun m h => by simp at h, fun m h => by simp at h⟩
theorem Ch2.swap (h : Ch2 S R A B) : Ch2 R S B A := ⟨h.b, h.a, h.sb, h.sa⟩
theorem Ch2.sendA (h : Ch2 S R A B) (hm : m.length ≤ 65536) (hS : S.length < 1000) : sendErr A m = 0 ∧ Ch2 (S ++ [m]) R (sendE A m) B := by
  obtain ⟨h1, h2⟩ := h.a.send hm hS
  refine ⟨h1, h2, ?_, fun x hx => ?_, h.sb⟩
  · rw [sendE_got]; exact h.b.other m
  · rcases List.mem_append.1 hx with hx | hx
    · exact h.sa x hx
    · simp only [List.mem_singleton] at hx; subst hx; exact hm
theorem Ch2.sendB (h : Ch2 S R A B) (hm : m.length ≤ 65536) (hR : R.length < 1000) : sendErr B m = 0 ∧ Ch2 S (R ++ [m]) A (sendE B m) :=
  ⟨(h.swap.sendA hm hR).1, (h.swap.sendA hm hR).2.swap⟩
theorem Ch2.outA (h : Ch2 S R A B) : Ch2 S R (outE A) B := ⟨h.a.out, h.b, h.sa, h.sb⟩
theorem Ch2.outB (h : Ch2 S R A B) : Ch2 S R A (outE B) := ⟨h.a, h.b.out, h.sa, h.sb⟩
/-- A packet of A arrives at B. -/
theorem Ch2.inB (h : Ch2 S R A B) (hq : PGood q S A.got) : Ch2 S R A (inE B q) ∧ (inE B q).got = B.got + (inO B q).length ∧ ∀ r m, (inO B q)[r]? = some m → S[B.got + r]? = some m := by
  obtain ⟨h1, h2, h3⟩ := h.b.inn hq
  exact ⟨⟨h.a.mono (by omega) h1.got, h1, h.sa, h.sb⟩, h2, h3⟩
theorem Ch2.inA (h : Ch2 S R A B) (hq : PGood q R B.got) : Ch2 S R (inE A q) B ∧ (inE A q).got = A.got + (inO A q).length ∧ ∀ r m, (inO A q)[r]? = some m → R[A.got + r]? = some m := by
  obtain ⟨h1, h2, h3⟩ := h.swap.inB hq
  exact ⟨h1.swap, h2, h3⟩
theorem drain_ge : ∀ (n g : Nat) (hh : List (Int × List UInt8)), g ≤ (drain n g hh).1 := by
  intro n
  induction n with
  | zero => intro g hh; exact Nat.le_refl _
  | succ n ih =>
    intro g hh
    unfold drain
    split
    · exact Nat.le_refl _
    · have := ih (g + 1) (drp hh (g + 1)); simp only; omega
theorem drain_has {E : EndS} {b : List UInt8} (h : look E.held ((E.got : Int) + 1) = some b) : E.got + 1 ≤ (drainE E).got := by
  show _ ≤ (drain _ _ _).1
  rw [drain_some h]
  exact drain_ge _ _ _
theorem hold_has (E : EndS) (m : List UInt8) : ∃ b, look (holdE E ((E.got : Int) + 1) m).held ((E.got : Int) + 1) = some b := by
  unfold holdE
  simp only
  by_cases hc : (E.got : Int) < (E.got : Int) + 1 ∧ look E.held ((E.got : Int) + 1) = none
  · rw [if_pos hc]
    refine ⟨m, ?_⟩
    have h0 : E.held.find? (fun p => p.1 == (E.got : Int) + 1) = none := by
      have := hc.2; unfold look at this; simpa using this
    unfold look put
    rw [List.find?_append, h0]
    simp
  · rw [if_neg hc]
    cases hx : look E.held ((E.got : Int) + 1) with
    | none => exact absurd ⟨by omega, hx⟩ hc
    | some b => exact ⟨b, rfl⟩
theorem ackE_acks (E : EndS) (n : Nat) : n ≤ (ackE E (n : Int)).acked := by
  unfold ackE
  split
  · simp
  · omega
/-- A packet of A that is not too far ahead is taken: its acknowledgement counts; the next message is delivered. -/
theorem Ch2.takes (h : Ch2 S R A B) {g : Nat} (hq : PGood ⟨0, g, []⟩ S A.got) : g ≤ (inE B ⟨0, g, []⟩).acked := by
  have hl := h.b.len
  have hac := h.b.acked
  have hgl := h.b.go_le
  have hg := hq.ack.2
  simp only at hg
  have hr : refuses B ⟨0, g, []⟩ = false := by
    have h6 : ¬ (((B.acked + B.waiting.length : Nat) : Int) < (g : Int)) := by omega
    have h7 : ¬ (((B.got + 16 : Nat) : Int) < (0 : Int)) := by omega
    have h8 : pvalid ⟨0, g, []⟩ = true := by
      unfold pvalid
      simp only [Bool.and_eq_true, Bool.or_eq_true, decide_eq_true_eq]
      exact ⟨by omega, by omega, by simp, .inr (by simp)⟩
    unfold refuses
    simp only [decide_eq_false h6, decide_eq_false h7, h8]
    rfl
  unfold inE
  rw [hr, if_neg (by decide), if_pos rfl]
  exact ackE_acks B g
theorem Ch2.next (h : Ch2 S R A B) {j g : Nat} (hq : PGood ⟨(j : Int) + 1, g, m⟩ S A.got) (hj : j ≤ B.got) :
    j + 1 ≤ (inE B ⟨(j : Int) + 1, g, m⟩).got ∧ (inE B ⟨(j : Int) + 1, g, m⟩).owing = true ∧ g ≤ (inE B ⟨(j : Int) + 1, g, m⟩).acked := by
  have hl := h.b.len
  have hac := h.b.acked
  have hgl := h.b.go_le
  have hg := hq.ack.2
  simp only at hg
  have hm : m.length ≤ 65536 := by
    rcases hq.data with ⟨h1, _⟩ | ⟨i, h1, h2⟩
    · simp at h1; omega
    · exact h.sa m (List.mem_of_getElem? h2)
  have hr : refuses B ⟨(j : Int) + 1, g, m⟩ = false := by
    have h6 : ¬ (((B.acked + B.waiting.length : Nat) : Int) < (g : Int)) := by omega
    have h7 : ¬ (((B.got + 16 : Nat) : Int) < (j : Int) + 1) := by omega
    have h8 : pvalid ⟨(j : Int) + 1, g, m⟩ = true := by
      unfold pvalid
      simp only [Bool.and_eq_true, Bool.or_eq_true, decide_eq_true_eq]
      exact ⟨by omega, by omega, hm, .inl (by omega)⟩
    unfold refuses
    simp only [decide_eq_false h6, decide_eq_false h7, h8]
    rfl
  have he : inE B ⟨(j : Int) + 1, g, m⟩ = drainE (holdE (ackE B g) ((j : Int) + 1) m) := by
    unfold inE
    rw [hr, if_neg (by decide), if_neg (by simp only; omega)]
  rw [he]
  refine ⟨?_, rfl, ackE_acks B g⟩
  have hg2 : (ackE B g).got = B.got := (ackE_low B g).2.2
  generalize ackE B g = X at hg2
  by_cases hjg : j < B.got
  · have h2 : (holdE X ((j : Int) + 1) m).got ≤ (drainE (holdE X ((j : Int) + 1) m)).got := drain_ge _ _ _
    have h3 : (holdE X ((j : Int) + 1) m).got = B.got := hg2
    omega
  · have hje : j = X.got := by omega
    subst hje
    obtain ⟨b, hb⟩ := hold_has X m
    exact drain_has (E := holdE X ((X.got : Int) + 1) m) hb
/-- The first packet of Out. -/
theorem Ch2.first (h : Ch2 S R A B) (hw : 1 ≤ A.window) :
    (A.acked < S.length ∧ ∃ m, (outP A)[0]? = some ⟨(A.acked : Int) + 1, A.got, m⟩) ∨ (A.acked = S.length ∧ A.owing = true ∧ outP A = [⟨0, A.got, []⟩]) ∨ (A.acked = S.length ∧ A.owing = false ∧ outP A = []) := by
  have hle := h.a.acked
  have hgl := h.a.go_le
  by_cases hn : A.acked < S.length
  · refine .inl ⟨hn, ?_⟩
    have hl : (A.waiting.take A.window).length ≠ 0 := by rw [List.length_take, h.a.len]; omega
    have hwl : 0 < A.waiting.length := by rw [h.a.len]; omega
    unfold outP
    rw [if_neg (fun x => hl x.1), pktsFrom_get, List.getElem?_take, if_pos (by omega), List.getElem?_eq_getElem hwl]
    exact ⟨_, rfl⟩
  · have hwt : A.waiting = [] := List.eq_nil_of_length_eq_zero (by rw [h.a.len]; omega)
    right
    cases ho : A.owing with
    | true => exact .inl ⟨by omega, rfl, by unfold outP; rw [if_pos ⟨by rw [hwt]; simp, ho⟩]⟩
    | false => exact .inr ⟨by omega, rfl, by unfold outP; rw [if_neg (fun x => by rw [ho] at x; simp at x), hwt]; simp [pktsFrom]⟩
end
/-- Behind t of the packets P of A's Out (those not lost), at B. L: none is lost. -/
structure Half (S R : List (List UInt8)) (A B0 : EndS) (L : Bool) (t : Nat) (B : EndS) : Prop where
  ch : Ch2 S R (outE A) B
  low : B0.acked ≤ B.acked ∧ B0.got ≤ B.got
  ow : B0.owing = true → B.owing = true
  pr : L = true → 1 ≤ t → A.got ≤ B.acked ∧ (A.acked < S.length → A.acked + 1 ≤ B.got ∧ B.owing = true)
section
variable {S R : List (List UInt8)} {A B0 B : EndS} {q : Pkt} {t : Nat} {L : Bool}
theorem inE_gotle (E : EndS) (q : Pkt) : E.got ≤ (inE E q).got := by
  have h1 := (ackE_low E q.ack).2.2
  unfold inE
  split
  · exact Nat.le_refl _
  · split
    · omega
    · have h2 : (holdE (ackE E q.ack) q.seq q.b).got ≤ (drainE (holdE (ackE E q.ack) q.seq q.b)).got := drain_ge _ _ _
      have h3 : (holdE (ackE E q.ack) q.seq q.b).got = E.got := h1
      omega
theorem Half.start (h : Ch2 S R A B) (L : Bool) : Half S R A B L 0 B := ⟨h.outA, ⟨Nat.le_refl _, Nat.le_refl _⟩, fun h => h, fun _ h => by omega⟩
theorem Half.skip (h : Half S R A B0 false t B) : Half S R A B0 false (t + 1) B := ⟨h.ch, h.low, h.ow, fun h => by simp at h⟩
theorem Half.next (h0 : Ch2 S R A B0) (h : Half S R A B0 L t B) (hw : 1 ≤ A.window) (hq : (outP A)[t]? = some q) : Half S R A B0 L (t + 1) (inE B q) := by
  have hp : PGood q S (outE A).got := h0.a.pkts hq
  obtain ⟨h1, h2, h3⟩ := h.ch.inB hp
  refine ⟨h1, ⟨Nat.le_trans h.low.1 (inE_acked B q), Nat.le_trans h.low.2 (inE_gotle B q)⟩, fun e => inE_owing q (h.ow e), fun hL _ => ?_⟩
  by_cases ht : 1 ≤ t
  · obtain ⟨e1, e2⟩ := h.pr hL ht
    exact ⟨Nat.le_trans e1 (inE_acked B q), fun ha => ⟨Nat.le_trans (e2 ha).1 (inE_gotle B q), inE_owing q (e2 ha).2⟩⟩
  · obtain rfl : t = 0 := by omega
    rcases h0.first hw with ⟨ha, m, hm⟩ | ⟨ha, ho, hm⟩ | ⟨ha, ho, hm⟩
    · rw [hm] at hq
      simp only [Option.some.injEq] at hq
      subst hq
      have hle : A.acked ≤ B.got := Nat.le_trans h0.a.acked h.low.2
      obtain ⟨k1, k2, k3⟩ := h.ch.next hp hle
      exact ⟨k3, fun _ => ⟨k1, k2⟩⟩
    · rw [hm] at hq
      simp at hq
      subst hq
      exact ⟨h.ch.takes hp, fun hx => by omega⟩
    · rw [hm] at hq
      simp at hq
end
end Go.Proofs.Ytaonhmdifinadaa
