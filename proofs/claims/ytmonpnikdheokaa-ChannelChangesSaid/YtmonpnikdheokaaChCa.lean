/-
  The law ChannelChanges: the texts of the changes, the messages, the law's memory.
-/
import Derived.Test.YtmonpnikdheokaaChCp
import Derived.Test.YtmonpnikdheokaaChanG
import Derived.Test.YtmonpnikdheokaaRdEnc
import Derived.Test.YtmonpnikdheokaaSyL
namespace Go.Proofs.Ytmonpnikdheokaa
open Go Go.Proofs
open Go.RowKit
set_option linter.unusedVariables false
set_option linter.unusedSimpArgs false

/-- The texts that changes lead through. -/
structure Txts (cs : List (List PEd)) (ts : List (List UInt8)) : Prop where
  len : ts.length = cs.length + 1
  small : ∀ t ∈ ts, t.length ≤ 4096
  step : ∀ (j : Nat) ps, cs[j]? = some ps → ∃ t es, ts[j]? = some t ∧ OneC t ps es ∧ ts[j + 1]? = some (applyL t 0 es)
theorem chain_texts : ∀ {cs : List (List PEd)} {l l' : List UInt8}, l.length ≤ 4096 → ChainR l cs l' → ∃ ts, Txts cs ts ∧ ts[0]? = some l
  | [], l, l', hl, h => ⟨[l], ⟨rfl, fun t ht => by simp at ht; subst ht; exact hl, fun j ps h => by simp at h⟩, rfl⟩
  | ps :: cs, l, l', hl, ⟨es, h1, h2⟩ => by
    obtain ⟨ts, ht, h0⟩ := chain_texts h1.len h2
    refine ⟨l :: ts, ⟨by simp [ht.len], fun t hx => ?_, fun j qs hj => ?_⟩, rfl⟩
    · rcases List.mem_cons.1 hx with rfl | hx
      · exact hl
      · exact ht.small t hx
    · cases j with
      | zero =>
        simp at hj
        subst hj
        exact ⟨l, es, rfl, h1, by simpa using h0⟩
      | succ j =>
        obtain ⟨t, es', e1, e2, e3⟩ := ht.step j qs (by simpa using hj)
        exact ⟨t, es', by simpa using e1, e2, by simpa using e3⟩
theorem take_next {α : Type} {ts : List α} {k : Nat} {u : α} (h : ts[k + 1]? = some u) : ts.take (k + 1) ++ [u] = ts.take (k + 1 + 1) := by
  obtain ⟨h1, h2⟩ := List.getElem?_eq_some_iff.1 h
  rw [List.take_succ_eq_append_getElem h1, h2]
theorem take_at {α : Type} {ts : List α} {k j : Nat} {u : α} (h : ts[j]? = some u) (hj : j ≤ k) : (ts.take (k + 1))[j]? = some u := by
  rw [List.getElem?_take, if_pos (by omega)]; exact h
def msgsI (k : Nat) : List (List UInt8) := (List.range k).map fun i => encI ((i : Nat) : Int)
theorem msgsI_len (k : Nat) : (msgsI k).length = k := by simp [msgsI]
theorem msgsI_succ (k : Nat) : msgsI (k + 1) = msgsI k ++ [encI (k : Int)] := by simp [msgsI, List.range_succ]
theorem msgsI_get {k i : Nat} {m : List UInt8} (h : (msgsI k)[i]? = some m) : i < k ∧ m = encI (i : Int) := by
  have hlt := (List.getElem?_eq_some_iff.1 h).1
  rw [msgsI_len] at hlt
  refine ⟨hlt, ?_⟩
  unfold msgsI at h
  rw [List.getElem?_map, List.getElem?_range hlt] at h
  simpa using h.symm

/-- The ends, their list, the two documents: k changes here, g there. -/
structure CW (w wr : World) (o : Nat → Nat) (b1 b2 : Nat) (A B : EndS) (eb da db k g : Nat) (ts : List (List UInt8)) : Prop where
  two : Two w wr o (pr b1 b2) (pr A B)
  es : Blk wr o 0 eb [.pointer (some ⟨b1, 0, none⟩), .pointer (some ⟨b2, 0, none⟩)]
  da : DocH wr o 5 da k (ts.take (k + 1))
  db : DocH wr o 6 db g (ts.take (g + 1))
section
variable {L : Nat → Prop} {w wr w' : World} {o o' : Nat → Nat} {b1 b2 eb da db k g l : Nat} {A B A' B' : EndS} {ts : List (List UInt8)}
theorem CW.step (h : CW w wr o b1 b2 A B eb da db k g ts) (hs : Step L wr o w' o') (h0 : ∀ l, L l → (30 ≤ l ∧ l < 50) ∨ 70 ≤ l) : CW w w' o' b1 b2 A B eb da db k g ts :=
  ⟨h.two.step hs fun l hl hx => by have := h0 l hx; omega, h.es.step hs fun hx => by have := h0 0 hx; omega, h.da.step hs fun l hl hx => by have := h0 l hx; unfold Own at hl; omega, h.db.step hs fun l hl hx => by have := h0 l hx; unfold Own at hl; omega⟩
theorem CW.same (h : CW w wr o b1 b2 A B eb da db k g ts) (hb : Below wr.heap.size wr w') : CW w w' o b1 b2 A B eb da db k g ts := h.step (L := fun _ => False) (Step.same hb) fun _ h => h.elim
theorem CW.setA (h : CW w wr o b1 b2 A B eb da db k g ts) (hs : Step (fun x => 10 ≤ x ∧ x < 30 ∨ x = l) wr o w' o') (hl : 30 ≤ l ∧ l < 50) (ht : Two w w' o' (pr b1 b2) (upd (pr A B) 0 A')) : CW w w' o' b1 b2 A' B eb da db k g ts :=
  ⟨ht.pr0, h.es.step hs (by omega), h.da.step hs fun l hl => by unfold Own at hl; omega, h.db.step hs fun l hl => by unfold Own at hl; omega⟩
theorem CW.setB (h : CW w wr o b1 b2 A B eb da db k g ts) (hs : Step (fun x => 10 ≤ x ∧ x < 30 ∨ x = l) wr o w' o') (hl : 30 ≤ l ∧ l < 50) (ht : Two w w' o' (pr b1 b2) (upd (pr A B) 1 B')) : CW w w' o' b1 b2 A B' eb da db k g ts :=
  ⟨ht.pr1, h.es.step hs (by omega), h.da.step hs fun l hl => by unfold Own at hl; omega, h.db.step hs fun l hl => by unfold Own at hl; omega⟩
theorem CW.docA (h : CW w wr o b1 b2 A B eb da db k g ts) {k' : Nat} (hs : Step (Own 5) wr o w' o') (hd : DocH w' o' 5 da k' (ts.take (k' + 1))) : CW w w' o' b1 b2 A B eb da db k' g ts :=
  ⟨h.two.step hs fun l hl => by unfold Own; omega, h.es.step hs (by unfold Own; omega), hd, h.db.step hs fun l hl => by unfold Own at *; omega⟩
theorem CW.docB (h : CW w wr o b1 b2 A B eb da db k g ts) {g' : Nat} (hs : Step (Own 6) wr o w' o') (hd : DocH w' o' 6 db g' (ts.take (g' + 1))) : CW w w' o' b1 b2 A B eb da db k g' ts :=
  ⟨h.two.step hs fun l hl => by unfold Own; omega, h.es.step hs (by unfold Own; omega), h.da.step hs fun l hl => by unfold Own at *; omega, hd⟩
theorem CW.below (h : CW w wr o b1 b2 A B eb da db k g ts) : Below w.heap.size w wr := h.two.below
theorem CW.endA (h : CW w wr o b1 b2 A B eb da db k g ts) : wr.cell? ⟨eb, 0, none⟩ = some (.pointer (some ⟨b1, 0, none⟩)) := h.es.cell (j := 0) rfl
theorem CW.endB (h : CW w wr o b1 b2 A B eb da db k g ts) : wr.cell? ⟨eb, 1, none⟩ = some (.pointer (some ⟨b2, 0, none⟩)) := h.es.cell (j := 1) rfl
end
theorem chC_cells {w : World} {cg off cap : Nat} {vs : List Value} (h : RowAt w (some ⟨cg, off, none⟩) vs.length cap 2 (chC 0 vs)) {j : Nat} {v : Value} (hj : vs[j]? = some v) :
    w.cell? ⟨cg, off + j * 2, none⟩ = some (.int .i64 ((j : Int) + 1)) ∧ w.cell? ⟨cg, off + j * 2 + 1, none⟩ = some v := by
  obtain ⟨h1, h2⟩ := chC_get vs 0 j hj
  rw [Nat.zero_add] at h1
  have hlt := (List.getElem?_eq_some_iff.1 hj).1
  obtain ⟨b, o, he, hc⟩ := h.2.2.2.2 (by rw [chC_len]; omega)
  simp only [Option.some.injEq, Addr.mk.injEq, and_true] at he
  obtain ⟨rfl, rfl⟩ := he
  exact ⟨hc _ _ h1, by rw [Nat.add_assoc]; exact hc _ _ h2⟩
/-- A change, and what it does to a document that has had j of them. -/
theorem change_at {w wr : World} {cg off cap j n : Nat} {vs : List Value} {cs : List (List PEd)} {ts : List (List UInt8)} (h : RowAt w (some ⟨cg, off, none⟩) vs.length cap 2 (chC 0 vs)) (hcs : ChgsAt w vs cs) (ht : Txts cs ts) (hn : cs.length = n) (hj : j < n) (hb : Below w.heap.size w wr) :
    ∃ pa pc ps t es, wr.cell? ⟨cg, off + j * 2, none⟩ = some (.int .i64 ((j : Int) + 1)) ∧ wr.cell? ⟨cg, off + j * 2 + 1, none⟩ = some (.slice pa (List.length ps) pc) ∧ PEdsAt wr pa pc ps ∧ ts[j]? = some t ∧ OneC t ps es ∧ t.length ≤ 4096 ∧ ts[j + 1]? = some (applyL t 0 es) := by
  have hv : vs[j]? = some (vs[j]'(by rw [hcs.1]; omega)) := List.getElem?_eq_getElem _
  have hp : cs[j]? = some (cs[j]'(by omega)) := List.getElem?_eq_getElem _
  generalize vs[j]'(by rw [hcs.1]; omega) = v at hv
  generalize cs[j]'(by omega) = ps at hp
  obtain ⟨pa, pc, rfl, hpat⟩ := ((hcs.2 j v ps hv hp).below hb).at
  obtain ⟨c0, c1⟩ := chC_cells (h.below hb) hv
  obtain ⟨t, es, e1, e2, e3⟩ := ht.step j ps hp
  exact ⟨pa, pc, ps, t, es, c0, c1, hpat, e1, e2, ht.small t (List.mem_of_getElem? e1), e3⟩

/-! ### Bounds -/
theorem ackE_same (E : EndS) (n : Int) : (ackE E n).window = E.window ∧ (ackE E n).held = E.held := by unfold ackE; split <;> exact ⟨rfl, rfl⟩
theorem inE_window (E : EndS) (q : Pkt) : (inE E q).window = E.window := by
  unfold inE
  split
  · rfl
  · split
    · exact (ackE_same E q.ack).1
    · exact (ackE_same E q.ack).1
theorem inE_sum (E : EndS) (q : Pkt) : (inE E q).got + (inE E q).held.length ≤ E.got + E.held.length + 1 := by
  have h1 := (ackE_low E q.ack).2.2
  have h2 := (ackE_same E q.ack).2
  unfold inE
  split
  · omega
  · split
    · rw [h1, h2]; omega
    · have h3 := drain_sum (holdE (ackE E q.ack) q.seq q.b).held.length (holdE (ackE E q.ack) q.seq q.b).got (holdE (ackE E q.ack) q.seq q.b).held
      have h4 : (holdE (ackE E q.ack) q.seq q.b).got = E.got := h1
      have h5 : (holdE (ackE E q.ack) q.seq q.b).held.length ≤ E.held.length + 1 := by
        unfold holdE
        simp only
        split
        · unfold put; rw [List.length_append, h2]; simp
        · rw [h2]; omega
      show (drain _ _ _).1 + (drain _ _ _).2.1.length ≤ _
      omega
theorem ChS.fitA {S : List (List UInt8)} {A B : EndS} (h : ChS S A B) (h1 : 1 ≤ A.window) (h2 : A.window ≤ 16) (hS : S.length ≤ 900) : Fit A 1000 := by
  have hl := h.a.len
  have ha := h.a.acked
  have hg := h.a.go_le
  have hh : A.held = [] := by
    cases hc : A.held with
    | nil => rfl
    | cons p tl =>
      obtain ⟨j, _, hj⟩ := h.a.held p (by rw [hc]; simp)
      simp at hj
  refine ⟨h1, h2, by omega, fun m hm => ?_, by omega, by rw [hh, h.z]; simp⟩
  rw [h.a.wait] at hm
  exact h.small m (List.mem_of_mem_drop hm)
theorem ChS.fitB {S : List (List UInt8)} {A B : EndS} (h : ChS S A B) (h1 : 1 ≤ B.window) (h2 : B.window ≤ 16) {N : Nat} (hN : B.got + B.held.length ≤ N) : Fit B N := by
  have ha := h.b.acked
  rw [h.z] at ha
  have hw : B.waiting = [] := by rw [h.b.wait]; simp
  exact ⟨h1, h2, by rw [hw]; simp, fun m hm => by rw [hw] at hm; simp at hm, by omega, hN⟩
theorem PktsAt.append {w : World} {o : Nat → Nat} {ps ps' : List (Int × Int × Value)} {qs qs' : List Pkt} (h : PktsAt w o (fun _ => 0) ps qs) (h' : PktsAt w o (fun _ => 0) ps' qs') : PktsAt w o (fun _ => 0) (ps ++ ps') (qs ++ qs') := by
  refine ⟨by simp [h.1, h'.1], fun j p q h1 h2 => ?_⟩
  by_cases hj : j < ps.length
  · rw [List.getElem?_append_left hj] at h1
    rw [List.getElem?_append_left (by rw [← h.1]; exact hj)] at h2
    exact h.2 j p q h1 h2
  · rw [List.getElem?_append_right (by omega)] at h1
    rw [List.getElem?_append_right (by rw [← h.1]; omega), ← h.1] at h2
    exact h'.2 _ p q h1 h2
theorem pcells_app (ps ps' : List (Int × Int × Value)) : pcells (ps ++ ps') = pcells ps ++ pcells ps' := by simp [pcells]
/-- Behind i rounds. -/
structure CI (W V n i : Nat) (A B : EndS) (qs : List Pkt) : Prop where
  ch : ChS (msgsI n) A B
  wa : A.window = W
  wb : B.window = V
  hb : B.got + B.held.length ≤ 300 * i
  pk : ∀ (j : Nat) q, qs[j]? = some q → PGood q (msgsI n) 0
  ln : qs.length ≤ 16 * i
  pr : 10 ≤ i → min n (i - 10) ≤ A.acked
/-- In the middle of a round: behind t packets; the packets before the last ones of Out are p. -/
structure CJ (V n i p t : Nat) (A B : EndS) : Prop where
  ch : ChS (msgsI n) A B
  wb : B.window = V
  hb : B.got + B.held.length ≤ 300 * i + t
  pr : 10 ≤ i → A.acked < n → p < t → A.acked + 1 ≤ B.got ∧ B.owing = true
/-- Behind t acknowledgements. -/
structure CK (W n i a t : Nat) (A B : EndS) : Prop where
  ch : ChS (msgsI n) A B
  wa : A.window = W
  low : a ≤ A.acked
  pr : 10 ≤ i → a < n → 1 ≤ t → a + 1 ≤ A.acked
theorem CI.more {W V n i : Nat} {A B : EndS} {qs : List Pkt} (h : CI W V n i A B qs) (hW : W ≤ 16) (hi : i < 10) : CI W V n (i + 1) (outE A) B (qs ++ outP A) := by
  refine ⟨h.ch.outA, h.wa, h.wb, by have := h.hb; omega, fun j q hq => ?_, ?_, fun h10 => ?_⟩
  · by_cases hj : j < qs.length
    · rw [List.getElem?_append_left hj] at hq; exact h.pk j q hq
    · rw [List.getElem?_append_right (by omega)] at hq; exact h.ch.pktA hq
  · have := outP_len (E := A) (by rw [h.wa]; exact hW)
    have := h.ln
    rw [List.length_append]; omega
  · have : i + 1 - 10 = 0 := by omega
    rw [this]; simp
theorem CI.all {W V n i : Nat} {A B : EndS} {qs : List Pkt} (h : CI W V n i A B qs) {j : Nat} {q : Pkt} (hq : (qs ++ outP A)[j]? = some q) : PGood q (msgsI n) 0 := by
  by_cases hj : j < qs.length
  · rw [List.getElem?_append_left hj] at hq; exact h.pk j q hq
  · rw [List.getElem?_append_right (by omega)] at hq; exact h.ch.pktA hq
theorem CI.start {W V n i : Nat} {A B : EndS} {qs : List Pkt} (h : CI W V n i A B qs) (t : Nat) (ht : t ≤ qs.length) : CJ V n i qs.length t (outE A) B :=
  ⟨h.ch.outA, h.wb, by have := h.hb; omega, fun _ _ hp => by omega⟩
theorem CJ.next {W V n i : Nat} {A B B' : EndS} {qs : List Pkt} {t : Nat} {q : Pkt} (h0 : CI W V n i A B qs) (h : CJ V n i qs.length t (outE A) B') (hW : 1 ≤ W) (hq : (qs ++ outP A)[t]? = some q) : CJ V n i qs.length (t + 1) (outE A) (inE B' q) := by
  have hg := h0.all hq
  obtain ⟨h1, h2, h3⟩ := h.ch.inB hg
  refine ⟨h1, by rw [inE_window]; exact h.wb, by have := inE_sum B' q; have := h.hb; omega, fun h10 ha hp => ?_⟩
  have ha' : A.acked < n := ha
  by_cases hpt : qs.length < t
  · obtain ⟨e1, e2⟩ := h.pr h10 ha hpt
    exact ⟨by omega, inE_owing q e2⟩
  · have htp : t = qs.length := by omega
    subst htp
    rw [List.getElem?_append_right (Nat.le_refl _), Nat.sub_self] at hq
    obtain ⟨m, hm⟩ := h0.ch.first (by rw [msgsI_len]; exact ha') (by rw [h0.wa]; exact hW)
    rw [hm] at hq
    simp only [Option.some.injEq] at hq
    subst hq
    exact h.ch.next hg (by have := h.ch.a.acked; exact this)
theorem CJ.acks {W V n i p t : Nat} {A B B' : EndS} {qs : List Pkt} (h0 : CI W V n i A B qs) (h : CJ V n i p t (outE A) B') : CK W n i A.acked 0 (outE A) (outE B') :=
  ⟨h.ch.outB, h0.wa, Nat.le_refl _, fun _ _ h => by omega⟩
theorem CK.next {W V n i p t j : Nat} {A A' B' : EndS} {q : Pkt} (h : CJ V n i p t (outE A) B') (hp : 10 ≤ i → A.acked < n → p < t) (hk : CK W n i A.acked j A' (outE B')) (hq : (outP B')[j]? = some q) : CK W n i A.acked (j + 1) (inE A' q) (outE B') := by
  have hg : PGood q [] (outE B').got := by have := h.ch.pktB hq; exact this
  refine ⟨hk.ch.inA hg, by rw [inE_window]; exact hk.wa, Nat.le_trans hk.low (inE_acked A' q), fun h10 ha _ => ?_⟩
  by_cases hj : 1 ≤ j
  · exact Nat.le_trans (hk.pr h10 ha hj) (inE_acked A' q)
  · obtain ⟨e1, e2⟩ := h.pr h10 ha (hp h10 ha)
    have h0 : j = 0 := by omega
    subst h0
    rw [h.ch.owe e2] at hq
    simp at hq
    subst hq
    have := hk.ch.acks
    have e1' : A.acked + 1 ≤ (outE B').got := e1
    exact Nat.le_trans e1' this
theorem CK.done {W V n i p t j : Nat} {A A' B B' : EndS} {qs : List Pkt} (h0 : CI W V n i A B qs) (h : CJ V n i p t (outE A) B') (ht : t ≤ 16 * i + 16) (hi : i ≤ 16) (hk : CK W n i A.acked j A' (outE B')) (hj : 10 ≤ i → A.acked < n → 1 ≤ j) : CI W V n (i + 1) A' (outE B') [] := by
  refine ⟨hk.ch, hk.wa, h.wb, ?_, fun j q hq => by simp at hq, by simp, fun h10 => ?_⟩
  · have := h.hb
    show B'.got + B'.held.length ≤ _
    omega
  · have hlow := hk.low
    by_cases hi10 : 10 ≤ i
    · have h1 := h0.pr hi10
      by_cases ha : A.acked < n
      · have := hk.pr hi10 ha (hj hi10 ha)
        omega
      · omega
    · have : i + 1 - 10 = 0 := by omega
      rw [this]; simp
theorem CJ.owes {V n i p t : Nat} {A B' : EndS} (h : CJ V n i p t (outE A) B') (h10 : 10 ≤ i) (ha : A.acked < n) (hp : p < t) : (outP B').length = 1 := by
  obtain ⟨e1, e2⟩ := h.pr h10 ha hp
  rw [h.ch.owe e2]; rfl
theorem CI.outs {W V n i : Nat} {A B : EndS} {qs : List Pkt} (h : CI W V n i A B qs) (hW : 1 ≤ W) (ha : A.acked < n) : 0 < (outP A).length := by
  obtain ⟨m, hm⟩ := h.ch.first (by rw [msgsI_len]; exact ha) (by rw [h.wa]; exact hW)
  exact (List.getElem?_eq_some_iff.1 hm).1
theorem CI.fin {W V n : Nat} {A B : EndS} {qs : List Pkt} (h : CI W V n (10 + n) A B qs) : B.got = n := by
  have h1 := h.pr (by omega)
  have h2 := h.ch.a.acked
  have h3 := h.ch.a.go_le
  rw [msgsI_len] at h3
  omega
end Go.Proofs.Ytmonpnikdheokaa
