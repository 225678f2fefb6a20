/-
  Two ends and their models: what holds of them, as plain data; what the law's world holds.
-/
import Derived.Test.YtmonpnikdheokaaRunC
import Derived.Test.YtmonpnikdheokaaChanO
import Derived.Test.YtmonpnikdheokaaChanQ
namespace Go.Proofs.Ytmonpnikdheokaa
open Go Go.Proofs
open Go.RowKit
set_option linter.unusedVariables false
set_option linter.unusedSimpArgs false

theorem drain_dry : ∀ (n g : Nat) (h : List (Int × List UInt8)), h.length ≤ n → look (drain n g h).2.1 (((drain n g h).1 : Int) + 1) = none
  | 0, g, h, hl => by
    obtain rfl : h = [] := List.eq_nil_of_length_eq_zero (by omega)
    rfl
  | n + 1, g, h, hl => by
    unfold drain
    cases hk : look h ((g : Int) + 1) with
    | none => exact hk
    | some b =>
      have := drp_length hk
      exact drain_dry n (g + 1) (drp h ((g : Int) + 1)) (by omega)
theorem drain_keys : ∀ (n g : Nat) (h : List (Int × List UInt8)), (h.map (·.1)).Nodup → ((drain n g h).2.1.map (·.1)).Nodup
  | 0, g, h, hn => hn
  | n + 1, g, h, hn => by
    unfold drain
    cases hk : look h ((g : Int) + 1) with
    | none => exact hn
    | some b => exact drain_keys n (g + 1) _ (drp_keys _ _ hn)
theorem inE_dry {E : EndS} (p : Pkt) (h : look E.held ((E.got : Int) + 1) = none) : look (inE E p).held (((inE E p).got : Int) + 1) = none := by
  unfold inE
  split
  · exact h
  · split
    · obtain ⟨_, e2, e3, _⟩ := ackE_eq E p.ack
      rw [e2, e3]; exact h
    · exact drain_dry _ _ _ (Nat.le_refl _)
theorem inE_keys {E : EndS} (p : Pkt) (h : (E.held.map (·.1)).Nodup) : ((inE E p).held.map (·.1)).Nodup := by
  unfold inE
  split
  · exact h
  · obtain ⟨_, e2, e3, _⟩ := ackE_eq E p.ack
    split
    · rw [e3]; exact h
    · refine drain_keys _ _ _ ?_
      unfold holdE
      simp only
      split
      · rename_i hc
        exact put_keys _ _ _ (by rw [e3]; exact h) hc.2
      · rw [e3]; exact h
theorem drainE_wait (E : EndS) : (drainE E).waiting = E.waiting ∧ (drainE E).acked = E.acked := ⟨rfl, rfl⟩
theorem inE_md {E : EndS} {S : List (List UInt8)} (p : Pkt) (h : MdOk E S) : MdOk (inE E p) S := by
  have hn := h.num
  have hw := h.wait
  have hl := h.le
  unfold inE
  split
  · exact h
  · rename_i hr
    have hk : p.ack ≤ S.length := by
      have hr : refuses E p = false := by simpa using hr
      unfold refuses at hr
      simp at hr
      have := hr.2.1
      omega
    have ha : MdOk (ackE E p.ack) S := by
      unfold ackE
      split
      · rename_i hlt
        refine ⟨?_, by simp only; omega, h.len⟩
        simp only
        rw [hw, List.drop_drop]
        congr 1
        omega
      · exact h
    split
    · exact ha
    · exact ⟨ha.wait, ha.le, ha.len⟩
theorem send_md {E : EndS} {S : List (List UInt8)} (m : List UInt8) (h : MdOk E S) (hl : S.length < 1000000) : MdOk (sendE E m) (sendM E S m) := by
  unfold sendE sendM
  split
  · exact h
  · refine ⟨?_, by simp only [List.length_append]; have := h.le; omega, by simp only [List.length_append, List.length_singleton]; omega⟩
    simp only
    rw [h.wait, List.drop_append_of_le_length h.le]
theorem send_got (E : EndS) (m : List UInt8) : (sendE E m).got = E.got ∧ (sendE E m).held = E.held := by
  unfold sendE
  split <;> exact ⟨rfl, rfl⟩
theorem sendM_len (E : EndS) (S : List (List UInt8)) (m : List UInt8) : (sendM E S m).length ≤ S.length + 1 := by
  unfold sendM
  split
  · omega
  · simp

/-- Two ends, their models, and the link. -/
structure RuI (i : Nat) (E : Nat → EndS) (S : Nat → List (List UInt8)) (qs : List Pkt) (ts : List Nat) : Prop where
  ok : ∀ k, k < 2 → MdOk (E k) (S k)
  dry : ∀ k, k < 2 → look (E k).held (((E k).got : Int) + 1) = none
  keys : ∀ k, k < 2 → ((E k).held.map (·.1)).Nodup
  fit : ∀ k, k < 2 → Fit (E k) (1000 * i)
  sz : ∀ k, k < 2 → (S k).length ≤ i
  small : ∀ k, k < 2 → ∀ m ∈ S k, m.length ≤ 65536
  len : ts.length = qs.length
  many : qs.length ≤ 16 * i
  to2 : ∀ (j t : Nat), ts[j]? = some t → t < 2
theorem RuI.inOk {i : Nat} {E : Nat → EndS} {S : Nat → List (List UInt8)} {qs : List Pkt} {ts : List Nat} (h : RuI i E S qs ts) (hi : i ≤ 60) {k : Nat} (hk : k < 2) : InOk (E k) := by
  have := (h.fit k hk).got
  exact ⟨by omega, by omega, h.dry k hk, h.keys k hk⟩
theorem RuI.mono {i : Nat} {E : Nat → EndS} {S : Nat → List (List UInt8)} {qs : List Pkt} {ts : List Nat} (h : RuI i E S qs ts) : RuI (i + 1) E S qs ts :=
  ⟨h.ok, h.dry, h.keys, fun k hk => (h.fit k hk).mono (by omega), fun k hk => by have := h.sz k hk; omega, h.small, h.len, by have := h.many; omega, h.to2⟩
theorem RuI.put {i : Nat} {E : Nat → EndS} {S : Nat → List (List UInt8)} {qs : List Pkt} {ts : List Nat} (h : RuI i E S qs ts) {k : Nat} (hk : k < 2) {E' : EndS} {S' : List (List UInt8)}
    (h1 : MdOk E' S') (h2 : look E'.held ((E'.got : Int) + 1) = none) (h3 : (E'.held.map (·.1)).Nodup) (h4 : Fit E' (1000 * (i + 1))) (h5 : S'.length ≤ i + 1) (h6 : ∀ m ∈ S', m.length ≤ 65536) :
    RuI (i + 1) (upd E k E') (Go.Proofs.Ytmonpnikdheokaa.upd S k S') qs ts := by
  have hm := h.mono
  refine ⟨fun j hj => ?_, fun j hj => ?_, fun j hj => ?_, fun j hj => ?_, fun j hj => ?_, fun j hj => ?_, hm.len, hm.many, hm.to2⟩
  all_goals
    by_cases hjk : j = k
    · subst hjk
      simp only [upd_at]
      assumption
    · simp only [upd_not _ _ hjk]
      first | exact hm.ok j hj | exact hm.dry j hj | exact hm.keys j hj | exact hm.fit j hj | exact hm.sz j hj | exact hm.small j hj
theorem RuI.send {i : Nat} {E : Nat → EndS} {S : Nat → List (List UInt8)} {qs : List Pkt} {ts : List Nat} (h : RuI i E S qs ts) (hi : i ≤ 60) {k : Nat} (hk : k < 2) {m : List UInt8} (hm : m.length ≤ 65536) :
    RuI (i + 1) (Go.Proofs.Ytmonpnikdheokaa.upd E k (sendE (E k) m)) (Go.Proofs.Ytmonpnikdheokaa.upd S k (sendM (E k) (S k) m)) qs ts := by
  have hs := h.sz k hk
  obtain ⟨g1, g2⟩ := send_got (E k) m
  refine h.put hk (send_md m (h.ok k hk) (by omega)) ?_ ?_ (((h.fit k hk).send m).mono (by omega)) ?_ ?_
  · rw [g1, g2]; exact h.dry k hk
  · rw [g2]; exact h.keys k hk
  · have := sendM_len (E k) (S k) m; omega
  · intro x hx
    unfold sendM at hx
    split at hx
    · exact h.small k hk x hx
    · rcases List.mem_append.1 hx with hx | hx
      · exact h.small k hk x hx
      · simp at hx; subst hx; exact hm
theorem RuI.inn {i : Nat} {E : Nat → EndS} {S : Nat → List (List UInt8)} {qs : List Pkt} {ts : List Nat} (h : RuI i E S qs ts) {k : Nat} (hk : k < 2) (p : Pkt) :
    RuI (i + 1) (Go.Proofs.Ytmonpnikdheokaa.upd E k (inE (E k) p)) S qs ts := by
  have := h.put hk (E' := inE (E k) p) (S' := S k) (inE_md p (h.ok k hk)) (inE_dry p (h.dry k hk)) (inE_keys p (h.keys k hk)) (((h.fit k hk).inn p).mono (by omega)) (by have := h.sz k hk; omega) (h.small k hk)
  rwa [upd_self] at this
theorem outP_len16 {E : EndS} (hw : E.window ≤ 16) : (outP E).length ≤ 16 := by
  unfold outP
  split
  · simp
  · rw [pktsFrom_length, List.length_take]; omega
theorem RuI.out {i : Nat} {E : Nat → EndS} {S : Nat → List (List UInt8)} {qs : List Pkt} {ts : List Nat} (h : RuI i E S qs ts) {k t : Nat} (hk : k < 2) (ht : t < 2) :
    RuI (i + 1) (Go.Proofs.Ytmonpnikdheokaa.upd E k (outE (E k))) S (qs ++ outP (E k)) (ts ++ List.replicate (outP (E k)).length t) := by
  have := h.put hk (E' := outE (E k)) (S' := S k) ⟨(h.ok k hk).wait, (h.ok k hk).le, (h.ok k hk).len⟩ (h.dry k hk) (h.keys k hk) (((h.fit k hk).out).mono (by omega)) (by have := h.sz k hk; omega) (h.small k hk)
  rw [upd_self] at this
  have hl := outP_len16 (h.fit k hk).w2
  refine ⟨this.ok, this.dry, this.keys, this.fit, this.sz, this.small, by simp [h.len], by have := h.many; simp; omega, fun j t' ht' => ?_⟩
  by_cases hj : j < ts.length
  · rw [List.getElem?_append_left hj] at ht'; exact h.to2 j t' ht'
  · rw [List.getElem?_append_right (by omega), List.getElem?_replicate] at ht'
    split at ht'
    · simp at ht'; omega
    · cases ht'

/-- What the law's world holds: the ends and their list, the models and theirs, the link and where its packets go. -/
structure RuW (w wr : World) (o : Nat → Nat) (b mb : Nat → Nat) (E : Nat → EndS) (eb : Nat) (mv : Value) (S : Nat → List (List UInt8)) (lv tv : Value) (qs : List Pkt) (ts : List Nat) : Prop where
  two : Two w wr o b E
  md : ∀ k, k < 2 → MdAt wr o (k + 3) (mb k) (E k) (S k)
  es : Blk wr o 0 eb (L2 (ptrV b))
  ms : RowL wr o 51 26 1 mv 2 (L2 (ptrV mb))
  link : RPRow wr o 55 lv qs
  dest : RowL wr o 56 3 1 tv ts.length (ts.map fun t : Nat => Value.int .i64 (t : Int))
theorem RuW.step {L : Nat → Prop} {w wr w' : World} {o o' b mb : Nat → Nat} {E : Nat → EndS} {eb : Nat} {mv : Value} {S : Nat → List (List UInt8)} {lv tv : Value} {qs : List Pkt} {ts : List Nat} (h : RuW w wr o b mb E eb mv S lv tv qs ts) (hs : Step L wr o w' o') (h0 : ∀ l, l < 57 → ¬ L l) : RuW w w' o' b mb E eb mv S lv tv qs ts :=
  ⟨h.two.step hs fun l hl => h0 l (by omega), fun k hk => (h.md k hk).step hs (h0 0 (by omega)) fun l hl => h0 l (by unfold Own at hl; omega), h.es.step hs (h0 0 (by omega)), RowL.step h.ms hs (h0 51 (by omega)), h.link.step hs (h0 55 (by omega)) (h0 0 (by omega)), RowL.step h.dest hs (h0 56 (by omega))⟩
/-- One end has moved. -/
theorem RuW.end_ {w wr w' : World} {o o' b mb : Nat → Nat} {E E' : Nat → EndS} {eb : Nat} {mv : Value} {S : Nat → List (List UInt8)} {lv tv : Value} {qs : List Pkt} {ts : List Nat} {l : Nat} (h : RuW w wr o b mb E eb mv S lv tv qs ts) (hl : 57 ≤ l) (hs : Step (fun x => 10 ≤ x ∧ x < 30 ∨ x = l) wr o w' o') (ht : Two w w' o' b E') :
    Two w w' o' b E' ∧ (∀ k, k < 2 → MdAt w' o' (k + 3) (mb k) (E k) (S k)) ∧ Blk w' o' 0 eb (L2 (ptrV b)) ∧ RowL w' o' 51 26 1 mv 2 (L2 (ptrV mb)) ∧ RPRow w' o' 55 lv qs ∧ RowL w' o' 56 3 1 tv ts.length (ts.map fun t : Nat => Value.int .i64 (t : Int)) :=
  ⟨ht, fun k hk => (h.md k hk).step hs (by omega) fun x hx => by unfold Own at hx; omega, h.es.step hs (by omega), RowL.step h.ms hs (by omega), h.link.step hs (by omega) (by omega), RowL.step h.dest hs (by omega)⟩
/-- And its model. -/
theorem RuW.both {w wr w' w'' : World} {o o' o'' b mb : Nat → Nat} {E : Nat → EndS} {eb : Nat} {mv : Value} {S : Nat → List (List UInt8)} {lv tv : Value} {qs : List Pkt} {ts : List Nat} {l l' k : Nat} {E' : EndS} {S' : List (List UInt8)} (h : RuW w wr o b mb E eb mv S lv tv qs ts) (hk : k < 2) (hl : 57 ≤ l) (hl' : 57 ≤ l')
    (hs : Step (fun x => 10 ≤ x ∧ x < 30 ∨ x = l) wr o w' o') (ht : Two w w' o' b (upd E k E')) (hs' : Step (fun x => Own (k + 3) x ∨ x = l') w' o' w'' o'') (hm : MdAt w'' o'' (k + 3) (mb k) E' S') :
    RuW w w'' o'' b mb (upd E k E') eb mv (upd S k S') lv tv qs ts := by
  obtain ⟨h1, h2, h3, h4, h5, h6⟩ := h.end_ hl hs ht
  have n : ∀ x, x < 57 → (10 ≤ x ∧ x < 30 ∨ 50 ≤ x ∨ x = 0) → ¬ (Own (k + 3) x ∨ x = l') := by intro x hx hc; unfold Own; omega
  refine ⟨h1.step hs' fun x hx => by unfold Own; omega, fun j hj => ?_, h3.step hs' (by unfold Own; omega), RowL.step h4 hs' (by unfold Own; omega), h5.step hs' (by unfold Own; omega) (by unfold Own; omega), RowL.step h6 hs' (by unfold Own; omega)⟩
  by_cases hjk : j = k
  · subst hjk
    rw [upd_at, upd_at]
    exact hm
  · rw [upd_not _ _ hjk, upd_not _ _ hjk]
    exact (h2 j hj).step hs' (by unfold Own; omega) fun x hx => by unfold Own at *; omega
theorem elemMp : ElemT Try.prog 25 26 (.pointer none) 1 8 := ⟨Try.underlying25, info_parts (by kernel_rfl), rfl, by decide⟩
theorem RuW.setLink {w wr w' : World} {o o' b mb : Nat → Nat} {E : Nat → EndS} {eb : Nat} {mv : Value} {S : Nat → List (List UInt8)} {lv lv' tv : Value} {qs qs' : List Pkt} {ts : List Nat} (h : RuW w wr o b mb E eb mv S lv tv qs ts) (hs : Step (· = 55) wr o w' o') (hl : RPRow w' o' 55 lv' qs') : RuW w w' o' b mb E eb mv S lv' tv qs' ts :=
  ⟨h.two.step hs fun l hl => by omega, fun k hk => (h.md k hk).step hs (by omega) fun l hl => by unfold Own at hl; omega, h.es.step hs (by omega), RowL.step h.ms hs (by omega), hl, RowL.step h.dest hs (by omega)⟩
theorem RuW.setDest {w wr w' : World} {o o' b mb : Nat → Nat} {E : Nat → EndS} {eb : Nat} {mv : Value} {S : Nat → List (List UInt8)} {lv tv tv' : Value} {qs : List Pkt} {ts ts' : List Nat} (h : RuW w wr o b mb E eb mv S lv tv qs ts) (hs : Step (· = 56) wr o w' o') (hl : RowL w' o' 56 3 1 tv' ts'.length (ts'.map fun t : Nat => Value.int .i64 (t : Int))) : RuW w w' o' b mb E eb mv S lv tv' qs ts' :=
  ⟨h.two.step hs fun l hl => by omega, fun k hk => (h.md k hk).step hs (by omega) fun l hl => by unfold Own at hl; omega, h.es.step hs (by omega), RowL.step h.ms hs (by omega), h.link.step hs (by omega) (by omega), hl⟩
end Go.Proofs.Ytmonpnikdheokaa
