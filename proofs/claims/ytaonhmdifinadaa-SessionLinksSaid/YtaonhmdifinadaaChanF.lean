/-
  The contracts of an end in one form: with one bound for all its numbers; what is read off rows of packets and of messages.
-/
import Derived.Test.YtaonhmdifinadaaChanE
namespace Go.Proofs.Ytaonhmdifinadaa
open Go Go.Proofs
open Go.RowKit
set_option linter.unusedVariables false

/-- The bounds of an end, after some calls. -/
structure Fit (E : EndS) (n : Nat) : Prop where
  w1 : 1 ≤ E.window
  w2 : E.window ≤ 16
  wait : E.waiting.length ≤ 1000
  small : ∀ m ∈ E.waiting, m.length ≤ 65536
  acked : E.acked ≤ n
  got : E.got + E.held.length ≤ n
theorem Fit.mono {E : EndS} {n n' : Nat} (h : Fit E n) (hn : n ≤ n') : Fit E n' := ⟨h.w1, h.w2, h.wait, h.small, Nat.le_trans h.acked hn, Nat.le_trans h.got hn⟩
theorem Fit.new {k : Nat} (h1 : 1 ≤ k) (h2 : k ≤ 16) : Fit (newE k) 0 := ⟨h1, h2, by simp [newE], by simp [newE], by simp [newE], by simp [newE]⟩
theorem Fit.send {E : EndS} {n : Nat} (h : Fit E n) (m : List UInt8) : Fit (sendE E m) n := by
  unfold sendE
  split
  · exact h
  · rename_i hc
    refine ⟨h.w1, h.w2, by simp; omega, fun x hx => ?_, h.acked, h.got⟩
    rcases List.mem_append.1 hx with hx | hx
    · exact h.small x hx
    · simp at hx; subst hx; omega
theorem Fit.out {E : EndS} {n : Nat} (h : Fit E n) : Fit (outE E) n := ⟨h.w1, h.w2, h.wait, h.small, h.acked, h.got⟩
theorem drain_sum : ∀ (n g : Nat) (h : List (Int × List UInt8)), (drain n g h).1 + (drain n g h).2.1.length ≤ g + h.length
  | 0, g, h => Nat.le_refl _
  | n + 1, g, h => by
    unfold drain
    cases hl : look h (g + 1) with
    | none => simp
    | some b =>
      have h1 := drain_sum n (g + 1) (drp h (g + 1))
      have h2 := drp_length hl
      simp only
      omega
theorem Fit.inn {E : EndS} {n : Nat} (h : Fit E n) (p : Pkt) : Fit (inE E p) (n + 1000) := by
  unfold inE
  split
  · exact h.mono (by omega)
  rename_i hr
  have ha : Fit (ackE E p.ack) (n + 1000) ∧ (ackE E p.ack).got = E.got ∧ (ackE E p.ack).held = E.held := by
    unfold ackE
    split
    · have hk : p.ack ≤ E.acked + E.waiting.length := by
        unfold refuses at hr
        simp at hr
        omega
      have := h.wait
      have := h.acked
      have := h.got
      refine ⟨⟨h.w1, h.w2, by simp; omega, fun x hx => h.small x (List.mem_of_mem_drop hx), ?_, ?_⟩, rfl, rfl⟩
      · simp only; omega
      · simp only; omega
    · exact ⟨h.mono (by omega), rfl, rfl⟩
  split
  · exact ha.1
  have hg := h.got
  obtain ⟨ha, h1, h2⟩ := ha
  generalize ackE E p.ack = X at *
  have hh : (holdE X p.seq p.b).got = X.got ∧ (holdE X p.seq p.b).held.length ≤ X.held.length + 1 := by
    unfold holdE
    refine ⟨rfl, ?_⟩
    simp only
    split
    · simp [put]
    · omega
  have hd := drain_sum (holdE X p.seq p.b).held.length (holdE X p.seq p.b).got (holdE X p.seq p.b).held
  refine ⟨ha.w1, ha.w2, ha.wait, ha.small, ha.acked, ?_⟩
  have h3 := congrArg List.length h2
  have h4 := hh.1
  have h5 := hh.2
  unfold drainE
  simp only
  omega

theorem send_c (i b n : Nat) (E : EndS) (a : Option Addr) (c : Nat) (m : List UInt8) (w : World) (o : Nat → Nat) (hi : 1 ≤ i) (hE : EndAt w o i b E) (hF : Fit E n) (hm : SliceAt w a c (m.map byteV)) :
    Calls Try.prog 56 #[.pointer (some ⟨b, 0, none⟩), .slice a m.length c] w fun e w' => e = .returned (.int .i64 (sendErr E m)) ∧ ∃ o', Step (Own i) w o w' o' ∧ EndAt w' o' i b (sendE E m) :=
  send_any i b E a c m w o hi hE hm (by have := hF.wait; omega)
theorem out_c (i b n : Nat) (E : EndS) (w : World) (o : Nat → Nat) (l : Nat) (f : Nat → Nat) (hi : 1 ≤ i) (hE : EndAt w o i b E) (hF : Fit E n) (hn : n ≤ 1000000) (hl : ¬ Own i l) (hf : ∀ j, ¬ Own i (f j)) (hfl : ∀ j, f j ≠ l) (hl0 : l ≠ 0) :
    Calls Try.prog 57 #[.pointer (some ⟨b, 0, none⟩)] w fun e w' => ∃ v, e = .returned v ∧ ∃ o', Step (fun x => Own i x ∨ x = l) w o w' o' ∧ EndAt w' o' i b (outE E) ∧ PRow w' o' f l v (outP E) :=
  out_any i b E w o l f hi hE hl hf hfl hF.w1 hF.w2 (by have := hF.wait; omega) (by have := hF.acked; omega) (by have := hF.got; omega) hl0 fun m hm => by have := hF.small m hm; omega
theorem in_c (i b n : Nat) (E : EndS) (p : Pkt) (a : Option Addr) (c lm lr : Nat) (w : World) (o : Nat → Nat) (hi : 1 ≤ i) (hE : EndAt w o i b E) (hF : Fit E n) (hn : n ≤ 1000000) (hm : Dat w o lm a c (p.b.map byteV)) (hlm : ¬ Own i lm) (hlr : ¬ Own i lr) (hlr0 : lr ≠ 0) (hlrm : lr ≠ lm) :
    Calls Try.prog 58 #[.pointer (some ⟨b, 0, none⟩), .agg #[.int .i64 p.seq, .int .i64 p.ack, .slice a p.b.length c]] w fun e w' =>
      ∃ v, e = .returned v ∧ ∃ o', Step (fun x => Own i x ∨ x = lr) w o w' o' ∧ EndAt w' o' i b (inE E p) ∧ MRow w' o' lr v (inO E p) := by
  have h1 := hF.wait
  have h2 := hF.acked
  have h3 := hF.got
  cases hr : refuses E p with
  | false => exact in_yes i b E p a c lm lr w o hi hE hm hlm hlr hlr0 hlrm (by omega) (by omega) (by omega) (by omega) hr
  | true =>
    refine (in_no i b E p a c w o hi hE hm.slice (by omega) (by omega) (by omega) hr).mono ?_
    rintro e w' ⟨rfl, hb⟩
    have hs : Step (fun _ => False) w o w' o := Step.same hb
    refine ⟨_, rfl, o, hs.mono fun _ h => h.elim, ?_, ?_⟩
    · unfold inE; rw [hr]; exact hE.step hs (fun h => h) (fun _ _ h => h)
    · unfold inO; rw [hr]; exact MRow.nil _ _ _

/-- What is read of a row of packets. -/
theorem PRow.cells {w : World} {o f : Nat → Nat} {l : Nat} {v : Value} {qs : List Pkt} (h : PRow w o f l v qs) :
    ∃ a c, v = .slice a qs.length c ∧ qs.length ≤ c ∧ c ≤ 9223372036854775807 ∧ (0 < qs.length → ∃ g, a = some ⟨g, 0, none⟩ ∧ g < w.heap.size ∧
      ∀ j q, qs[j]? = some q → ∃ ma mc, w.cell? ⟨g, j * 3, none⟩ = some (.int .i64 q.seq) ∧ w.cell? ⟨g, j * 3 + 1, none⟩ = some (.int .i64 q.ack) ∧ w.cell? ⟨g, j * 3 + 2, none⟩ = some (.slice ma q.b.length mc) ∧ Dat w o (f j) ma mc (q.b.map byteV)) := by
  obtain ⟨ps, h1, h2⟩ := h
  obtain ⟨a, c, rfl, h3, h4, h5, h6⟩ := h1.cells
  refine ⟨a, c, rfl, h3, h4, fun hp => ?_⟩
  obtain ⟨g, rfl, _, hlt, hc, _⟩ := h6 hp
  refine ⟨g, rfl, hlt, fun j q hq => ?_⟩
  have hj := (List.getElem?_eq_some_iff.1 hq).1
  have hpj : ps[j]? = some (ps[j]'(by rw [h2.1]; exact hj)) := List.getElem?_eq_getElem _
  obtain ⟨e1, e2, e3⟩ := pcells_get ps j _ hpj
  obtain ⟨f1, f2, ma, mc, f3, f4, -⟩ := h2.2 j _ q hpj hq
  refine ⟨ma, mc, ?_, ?_, ?_, f4⟩
  · rw [hc _ _ e1, f1]
  · rw [hc _ _ e2, f2]
  · rw [hc _ _ e3, f3]
/-- What is read of a row of messages. -/
theorem MRow.cells {w : World} {o : Nat → Nat} {l : Nat} {v : Value} {ms : List (List UInt8)} (h : MRow w o l v ms) :
    ∃ a c, v = .slice a ms.length c ∧ ms.length ≤ c ∧ c ≤ 9223372036854775807 ∧ (0 < ms.length → ∃ g, a = some ⟨g, 0, none⟩ ∧ g < w.heap.size ∧
      ∀ j m, ms[j]? = some m → ∃ ma mc, w.cell? ⟨g, j, none⟩ = some (.slice ma m.length mc) ∧ Dat w o 0 ma mc (m.map byteV)) := by
  obtain ⟨ps, h1, h2⟩ := h
  rw [h2.1] at h1
  obtain ⟨a, c, rfl, h3, h4, h5, h6⟩ := h1.cells
  refine ⟨a, c, rfl, h3, h4, fun hp => ?_⟩
  obtain ⟨g, rfl, _, hlt, hc, _⟩ := h6 hp
  refine ⟨g, rfl, hlt, fun j m hm => ?_⟩
  have hj := (List.getElem?_eq_some_iff.1 hm).1
  have hpj : ps[j]? = some (ps[j]'(by rw [h2.1]; exact hj)) := List.getElem?_eq_getElem _
  obtain ⟨ma, mc, e1, e2⟩ := h2.2 j _ m hpj hm
  exact ⟨ma, mc, by rw [hc _ _ hpj, e1], e2⟩
theorem PRow.at {w : World} {o f : Nat → Nat} {l n c : Nat} {a : Option Addr} {qs : List Pkt} (h : PRow w o f l (.slice a n c) qs) {j : Nat} {q : Pkt} (hq : qs[j]? = some q) :
    ∃ g ma mc, a = some ⟨g, 0, none⟩ ∧ n = qs.length ∧ n ≤ c ∧ w.cell? ⟨g, j * 3, none⟩ = some (.int .i64 q.seq) ∧ w.cell? ⟨g, j * 3 + 1, none⟩ = some (.int .i64 q.ack) ∧ w.cell? ⟨g, j * 3 + 2, none⟩ = some (.slice ma q.b.length mc) ∧ Dat w o (f j) ma mc (q.b.map byteV) := by
  obtain ⟨a', c', he, h1, h2, h3⟩ := h.cells
  simp only [Value.slice.injEq] at he
  obtain ⟨rfl, rfl, rfl⟩ := he
  obtain ⟨g, rfl, _, h4⟩ := h3 (by have := (List.getElem?_eq_some_iff.1 hq).1; omega)
  obtain ⟨ma, mc, h5⟩ := h4 j q hq
  exact ⟨g, ma, mc, rfl, rfl, h1, h5⟩
theorem MRow.at {w : World} {o : Nat → Nat} {l n c : Nat} {a : Option Addr} {ms : List (List UInt8)} (h : MRow w o l (.slice a n c) ms) {j : Nat} {m : List UInt8} (hm : ms[j]? = some m) :
    ∃ g ma mc, a = some ⟨g, 0, none⟩ ∧ n = ms.length ∧ n ≤ c ∧ w.cell? ⟨g, j, none⟩ = some (.slice ma m.length mc) ∧ Dat w o 0 ma mc (m.map byteV) := by
  obtain ⟨a', c', he, h1, h2, h3⟩ := h.cells
  simp only [Value.slice.injEq] at he
  obtain ⟨rfl, rfl, rfl⟩ := he
  obtain ⟨g, rfl, _, h4⟩ := h3 (by have := (List.getElem?_eq_some_iff.1 hm).1; omega)
  obtain ⟨ma, mc, h5⟩ := h4 j m hm
  exact ⟨g, ma, mc, rfl, rfl, h1, h5⟩

/-! ### Two ends -/
def upd {α : Type} (E : Nat → α) (k : Nat) (x : α) : Nat → α := fun j => if j = k then x else E j
theorem upd_at {α : Type} (E : Nat → α) (k : Nat) (x : α) : upd E k x k = x := by simp [upd]
theorem upd_not {α : Type} (E : Nat → α) {k j : Nat} (x : α) (h : j ≠ k) : upd E k x j = E j := by simp [upd, h]
def pr {α : Type} (x y : α) : Nat → α := fun k => if k = 0 then x else y
theorem upd_self {α : Type} (E : Nat → α) (k : Nat) : upd E k (E k) = E := by funext j; unfold upd; split <;> simp_all
theorem upd_upd {α : Type} (E : Nat → α) (k : Nat) (x y : α) : upd (upd E k x) k y = upd E k y := by funext j; unfold upd; split <;> simp_all
/-- Two ends, objects 1 and 2, in blocks b 0 and b 1, made since w. -/
structure Two (w w' : World) (o' : Nat → Nat) (b : Nat → Nat) (E : Nat → EndS) : Prop where
  since : Step (fun x => x ≠ 0) w (fun _ => 0) w' o'
  ends : ∀ k, k < 2 → EndAt w' o' (k + 1) (b k) (E k)
theorem Two.step {L : Nat → Prop} {w w' w'' : World} {o' o'' b : Nat → Nat} {E : Nat → EndS} (h : Two w w' o' b E) (hs : Step L w' o' w'' o'') (h0 : ∀ l, l < 30 → ¬ L l) : Two w w'' o'' b E :=
  ⟨h.since.trans (hs.mono fun l hl e => h0 l (by omega) hl), fun k hk => (h.ends k hk).step hs (h0 0 (by omega)) fun l hl => h0 l (by unfold Own at hl; omega)⟩
theorem Two.upd {w w' w'' : World} {o' o'' b : Nat → Nat} {E : Nat → EndS} {k l : Nat} {E' : EndS} (h : Two w w' o' b E) (hk : k < 2) (hs : Step (fun x => Own (k + 1) x ∨ x = l) w' o' w'' o'') (hl : 30 ≤ l) (he : EndAt w'' o'' (k + 1) (b k) E') : Two w w'' o'' b (upd E k E') := by
  refine ⟨h.since.trans (hs.mono fun l h e => ?_), fun j hj => ?_⟩
  · rcases h with h | h
    · unfold Own at h; omega
    · omega
  · by_cases hjk : j = k
    · subst hjk; rw [upd_at]; exact he
    · rw [upd_not E E' hjk]
      refine (h.ends j hj).step hs ?_ ?_
      · rintro (h | h)
        · unfold Own at h; omega
        · omega
      · intro x hx
        rintro (h | h)
        · unfold Own at h hx; omega
        · unfold Own at hx; omega
theorem Two.below {w w' : World} {o' b : Nat → Nat} {E : Nat → EndS} (h : Two w w' o' b E) : Below w.heap.size w w' := h.since.toBelow (Nat.le_refl _) fun k _ h => h rfl
theorem Two.cong {w w' : World} {o' b : Nat → Nat} {E E' : Nat → EndS} (h : Two w w' o' b E) (he : ∀ k, k < 2 → E' k = E k) : Two w w' o' b E' := ⟨h.since, fun k hk => by rw [he k hk]; exact h.ends k hk⟩
theorem Two.congb {w w' : World} {o' b b' : Nat → Nat} {E : Nat → EndS} (h : Two w w' o' b E) (he : ∀ k, k < 2 → b' k = b k) : Two w w' o' b' E := ⟨h.since, fun k hk => by rw [he k hk]; exact h.ends k hk⟩
theorem Two.pr0 {w w' : World} {o' b : Nat → Nat} {A B X : EndS} (h : Two w w' o' b (Go.Proofs.Ytaonhmdifinadaa.upd (pr A B) 0 X)) : Two w w' o' b (pr X B) := h.cong fun k hk => by
  have hk : k = 0 ∨ k = 1 := by omega
  rcases hk with rfl | rfl <;> rfl
theorem Two.pr1 {w w' : World} {o' b : Nat → Nat} {A B X : EndS} (h : Two w w' o' b (Go.Proofs.Ytaonhmdifinadaa.upd (pr A B) 1 X)) : Two w w' o' b (pr A X) := h.cong fun k hk => by
  have hk : k = 0 ∨ k = 1 := by omega
  rcases hk with rfl | rfl <;> rfl
theorem Two.made {w w1 w2 : World} {o1 o2 : Nat → Nat} {b1 b2 : Nat} {A B : EndS} (h1 : Step (Own 1) w (fun _ => 0) w1 o1) (hA : EndAt w1 o1 1 b1 A) (h2 : Step (Own 2) w1 o1 w2 o2) (hB : EndAt w2 o2 2 b2 B) :
    Two w w2 o2 (pr b1 b2) (pr A B) := by
  refine ⟨?_, fun k hk => ?_⟩
  · exact (h1.mono fun l h e => by unfold Own at h; omega).trans (h2.mono fun l h e => by unfold Own at h; omega)
  · have hk : k = 0 ∨ k = 1 := by omega
    rcases hk with rfl | rfl
    · exact hA.step h2 (by unfold Own; omega) fun l h => by unfold Own at *; omega
    · exact hB
section
variable {w wr : World} {o b : Nat → Nat} {E : Nat → EndS}
theorem send_t (hT : Two w wr o b E) {k n : Nat} (hk : k < 2) (hF : Fit (E k) n) {a : Option Addr} {c : Nat} {m : List UInt8} (hm : SliceAt wr a c (m.map byteV)) :
    Calls Try.prog 56 #[.pointer (some ⟨b k, 0, none⟩), .slice a m.length c] wr fun e w' => e = .returned (.int .i64 (sendErr (E k) m)) ∧ ∃ o', Step (fun x => 10 ≤ x ∧ x < 30) wr o w' o' ∧ Two w w' o' b (upd E k (sendE (E k) m)) := by
  refine (send_c (k + 1) (b k) n (E k) a c m wr o (by omega) (hT.ends k hk) hF hm).mono ?_
  rintro e w' ⟨rfl, o', hs, he⟩
  exact ⟨rfl, o', hs.mono fun l h => by unfold Own at h; omega, hT.upd hk (l := 30) (hs.mono fun l h => .inl h) (Nat.le_refl _) he⟩
theorem out_t (hT : Two w wr o b E) {k n : Nat} (l : Nat) (f : Nat → Nat) (hk : k < 2) (hF : Fit (E k) n) (hn : n ≤ 1000000) (hl : 30 ≤ l) (hf : ∀ j, f j = 0 ∨ 30 ≤ f j) (hfl : ∀ j, f j ≠ l) :
    Calls Try.prog 57 #[.pointer (some ⟨b k, 0, none⟩)] wr fun e w' => ∃ v, e = .returned v ∧ ∃ o', Step (fun x => 10 ≤ x ∧ x < 30 ∨ x = l) wr o w' o' ∧ Two w w' o' b (upd E k (outE (E k))) ∧ PRow w' o' f l v (outP (E k)) := by
  refine (out_c (k + 1) (b k) n (E k) wr o l f (by omega) (hT.ends k hk) hF hn (by unfold Own; omega) (fun j => by have := hf j; unfold Own; omega) hfl (by omega)).mono ?_
  rintro e w' ⟨v, rfl, o', hs, he, hr⟩
  exact ⟨v, rfl, o', hs.mono fun l h => by unfold Own at h; omega, hT.upd hk hs hl he, hr⟩
theorem in_t (hT : Two w wr o b E) {k n : Nat} (p : Pkt) (lm lr : Nat) (hk : k < 2) (hF : Fit (E k) n) (hn : n ≤ 1000000) {a : Option Addr} {c : Nat} (hm : Dat wr o lm a c (p.b.map byteV)) (hlm : lm = 0 ∨ 30 ≤ lm) (hlr : 30 ≤ lr) (hlrm : lr ≠ lm) :
    Calls Try.prog 58 #[.pointer (some ⟨b k, 0, none⟩), .agg #[.int .i64 p.seq, .int .i64 p.ack, .slice a p.b.length c]] wr fun e w' =>
      ∃ v, e = .returned v ∧ ∃ o', Step (fun x => 10 ≤ x ∧ x < 30 ∨ x = lr) wr o w' o' ∧ Two w w' o' b (upd E k (inE (E k) p)) ∧ MRow w' o' lr v (inO (E k) p) := by
  refine (in_c (k + 1) (b k) n (E k) p a c lm lr wr o (by omega) (hT.ends k hk) hF hn hm (by unfold Own; omega) (by unfold Own; omega) (by omega) hlrm).mono ?_
  rintro e w' ⟨v, rfl, o', hs, he, hr⟩
  exact ⟨v, rfl, o', hs.mono fun l h => by unfold Own at h; omega, hT.upd hk hs hlr he, hr⟩
theorem waiting_t (hT : Two w wr o b E) {k : Nat} (hk : k < 2) :
    Calls Try.prog 59 #[.pointer (some ⟨b k, 0, none⟩)] wr fun e w' => e = .returned (.int .i64 (E k).waiting.length) ∧ wr = w' :=
  waiting_any (k + 1) (b k) (E k) wr o (hT.ends k hk)
end
end Go.Proofs.Ytaonhmdifinadaa
