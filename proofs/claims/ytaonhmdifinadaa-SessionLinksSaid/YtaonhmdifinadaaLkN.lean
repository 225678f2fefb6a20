/-
  The law SessionLinks: what its loops keep. No program in sight.
-/
import Derived.Test.YtaonhmdifinadaaLkM
namespace Go.Proofs.Ytaonhmdifinadaa
open Go Go.Proofs
set_option linter.unusedVariables false
set_option linter.unusedSimpArgs false

theorem sendE_keep (E : EndS) (m : List UInt8) : (sendE E m).window = E.window ∧ (sendE E m).acked = E.acked ∧ (sendE E m).got = E.got ∧ (sendE E m).held = E.held ∧ (sendE E m).owing = E.owing := by
  unfold sendE; split <;> exact ⟨rfl, rfl, rfl, rfl, rfl⟩
theorem outP_le16 {E : EndS} (hw : E.window ≤ 16) : (outP E).length ≤ 16 := outP_len hw

/-- The messages of a: codes of valid requests. -/
def LMsgs (M : List (List UInt8)) (bs : List Int) : Prop := ∀ m ∈ M, ∃ r, okR r = true ∧ m = encRq r ∧ r.id ∈ bs
theorem LMsgs.add {M : List (List UInt8)} {bs : List Int} (h : LMsgs M bs) {r : Rq} (hr : okR r = true) {bs' : List Int} (hb : ∀ i ∈ bs, i ∈ bs') (hi : r.id ∈ bs') : LMsgs (M ++ [encRq r]) bs' := fun m hm => by
  rcases List.mem_append.1 hm with hm | hm
  · obtain ⟨x, h1, h2, h3⟩ := h m hm
    exact ⟨x, h1, h2, hb _ h3⟩
  · simp only [List.mem_singleton] at hm
    exact ⟨r, hr, hm, hi⟩

/-- Behind k calls. -/
structure LSI (k W V : Nat) (A : EndS) (M : List (List UInt8)) (bs : List Int) : Prop where
  ch : Ch2 M [] A (newE V)
  wa : A.window = W
  gt : A.got = 0 ∧ A.held = []
  ml : M.length ≤ k
  bl : bs.length ≤ k
  ms : LMsgs M bs
section
variable {k W V : Nat} {A : EndS} {M : List (List UInt8)} {bs : List Int} {r : Rq}
theorem LSI.new (W V : Nat) : LSI 0 W V (newE W) [] [] := ⟨Ch2.new W V, rfl, ⟨rfl, rfl⟩, by simp, by simp, fun m h => by simp at h⟩
theorem LSI.skip (h : LSI k W V A M bs) : LSI (k + 1) W V A M bs := ⟨h.ch, h.wa, h.gt, by have := h.ml; omega, by have := h.bl; omega, h.ms⟩
theorem LSI.err (h : LSI k W V A M bs) (hk : k < 900) (hr : okR r = true) : sendErr A (encRq r) = 0 := (h.ch.sendA (enc_rq_len hr) (by have := h.ml; omega)).1
theorem LSI.old (h : LSI k W V A M bs) (hk : k < 900) (hr : okR r = true) (hi : r.id ∈ bs) : LSI (k + 1) W V (sendE A (encRq r)) (M ++ [encRq r]) bs := by
  obtain ⟨e1, e2, e3, e4, e5⟩ := sendE_keep A (encRq r)
  exact ⟨(h.ch.sendA (enc_rq_len hr) (by have := h.ml; omega)).2, by rw [e1]; exact h.wa, by rw [e3, e4]; exact h.gt, by have := h.ml; simp; omega, by have := h.bl; omega, h.ms.add hr (fun _ h => h) hi⟩
theorem LSI.more (h : LSI k W V A M bs) (hk : k < 900) (hr : okR r = true) : LSI (k + 1) W V (sendE A (encRq r)) (M ++ [encRq r]) (bs ++ [r.id]) := by
  obtain ⟨e1, e2, e3, e4, e5⟩ := sendE_keep A (encRq r)
  exact ⟨(h.ch.sendA (enc_rq_len hr) (by have := h.ml; omega)).2, by rw [e1]; exact h.wa, by rw [e3, e4]; exact h.gt, by have := h.ml; simp; omega, by have := h.bl; simp; omega, h.ms.add hr (fun i hi => List.mem_append_left _ hi) (by simp)⟩
theorem LSI.fit (h : LSI k W V A M bs) (hk : k ≤ 900) (h1 : 1 ≤ W) (h2 : W ≤ 16) : Fit A 1000 :=
  h.ch.fitA (by rw [h.wa]; exact h1) (by rw [h.wa]; exact h2) (by have := h.ml; omega) (by have := h.ml; omega) (by rw [h.gt.1, h.gt.2]; simp)
end
/-- Behind r rounds, with bounds. -/
structure LRI (M : List (List UInt8)) (bs : List Int) (r W V : Nat) (A B : EndS) (U : List An) (S : SesS) (t : Nat) : Prop where
  rr : RR M bs r A B U S t
  ms : LMsgs M bs
  ml : M.length ≤ 30
  bl : bs.length ≤ 30
  wa : A.window = W
  wb : B.window = V
  ha : A.got + A.held.length ≤ 16 * r
  hb : B.got + B.held.length ≤ 16 * r
/-- Behind j packets of a. -/
structure LPI (M : List (List UInt8)) (bs : List Int) (r V : Nat) (A B : EndS) (U : List An) (S : SesS) (t j : Nat) (B' : EndS) (S' : SesS) (t' : Nat) : Prop where
  half : Half M (U.map encAn) A B (decide (10 ≤ r)) j B'
  ls : LS bs U S' t'
  wb : B'.window = V
  hb : B'.got + B'.held.length ≤ 16 * r + j
  fx : B.got = M.length → S' = S ∧ t' = t
/-- Behind k answers. -/
structure LAI (M : List (List UInt8)) (A B1 : EndS) (U an : List An) (k : Nat) (B' : EndS) : Prop where
  ch : Ch2 M ((U ++ an.take k).map encAn) (outE A) B'
  keep : B'.window = B1.window ∧ B'.acked = B1.acked ∧ B'.got = B1.got ∧ B'.held = B1.held ∧ B'.owing = B1.owing
/-- Behind j packets of b. -/
structure LQI (M : List (List UInt8)) (r W : Nat) (A B2 : EndS) (U : List An) (j : Nat) (A' : EndS) : Prop where
  half : Half (U.map encAn) M B2 (outE A) true j A'
  wa : A'.window = W
  ha : A'.got + A'.held.length ≤ 16 * r + j
section
variable {M : List (List UInt8)} {bs : List Int} {r W V t j t' k : Nat} {A B B' A' B1 B2 : EndS} {U an : List An} {S S' : SesS} {q : Pkt}
theorem LS.ul (h : LS bs U S t) (hb : bs.length ≤ 30) : U.length ≤ 30 ∧ t ≤ 30 ∧ S.rq.length ≤ 30 := by
  have := h.le
  have := h.cnt
  omega
theorem LRI.start (h : LSI k W V A M bs) (hk : k ≤ 30) : LRI M bs 0 W V A (newE V) [] newS 0 :=
  ⟨RR.start h.ch h.gt.1 rfl, h.ms, by have := h.ml; omega, by have := h.bl; omega, h.wa, rfl, by rw [h.gt.1, h.gt.2]; simp, by simp [newE]⟩
theorem LRI.fitA (h : LRI M bs r W V A B U S t) (h1 : 1 ≤ W) (h2 : W ≤ 16) (hr : r ≤ 200) : Fit A 10000 :=
  h.rr.ch.fitA (by rw [h.wa]; exact h1) (by rw [h.wa]; exact h2) (by have := h.ml; omega) (by have := h.ml; omega) (by have := h.ha; omega)
theorem LRI.pi (h : LRI M bs r W V A B U S t) : LPI M bs r V A B U S t 0 B S t := ⟨Half.start h.rr.ch _, h.rr.ls, h.wb, by have := h.hb; omega, fun _ => ⟨rfl, rfl⟩⟩
theorem LRI.gul (h : LRI M bs r W V A B U S t) : A.got ≤ U.length := by
  have := h.rr.ch.b.go_le
  rwa [List.length_map] at this
theorem LPI.skip (h : LPI M bs r V A B U S t j B' S' t') (hr : r < 10) : LPI M bs r V A B U S t (j + 1) B' S' t' := by
  have hd : decide (10 ≤ r) = false := decide_eq_false (by omega)
  have hh := h.half
  rw [hd] at hh
  exact ⟨by rw [hd]; exact hh.skip, h.ls, h.wb, by have := h.hb; omega, h.fx⟩
theorem LPI.fit (h0 : LRI M bs r W V A B U S t) (h : LPI M bs r V A B U S t j B' S' t') (h1 : 1 ≤ V) (h2 : V ≤ 16) (hr : r ≤ 200) (hj : j ≤ 16) : Fit B' 10000 := by
  have hu := h.ls.ul h0.bl
  exact h.half.ch.swap.fitA (by rw [h.wb]; exact h1) (by rw [h.wb]; exact h2) (by rw [List.length_map]; omega) (by rw [List.length_map]; omega) (by have := h.hb; omega)
theorem LPI.next (h0 : LRI M bs r W V A B U S t) (h : LPI M bs r V A B U S t j B' S' t') (hW : 1 ≤ W) (hq : (outP A)[j]? = some q) :
    LPI M bs r V A B U S t (j + 1) (inE B' q) S' t' ∧ (inE B' q).got = B'.got + (inO B' q).length ∧ (inE B' q).got ≤ M.length ∧ ∀ (k : Nat) m, (inO B' q)[k]? = some m → ∃ x, okR x = true ∧ m = encRq x ∧ x.id ∈ bs ∧ B.got ≠ M.length := by
  have hp : PGood q M (outE A).got := h0.rr.ch.a.pkts hq
  obtain ⟨h1, h2, h3⟩ := h.half.ch.inB hp
  have hn := Half.next h0.rr.ch h.half (by rw [h0.wa]; exact hW) hq
  refine ⟨⟨hn, h.ls, by rw [inE_win]; exact h.wb, by have := inE_grow B' q; have := h.hb; omega, h.fx⟩, h2, h1.a.go_le, fun k m hk => ?_⟩
  have hm := h3 k m hk
  obtain ⟨x, e1, e2, e3⟩ := h0.ms m (List.mem_of_getElem? hm)
  refine ⟨x, e1, e2, e3, ?_⟩
  have := (List.getElem?_eq_some_iff.1 hm).1
  have := h.half.low.2
  omega
theorem LPI.beg (h : LPI M bs r V A B U S t j B' S' t') {x : Rq} (hx : x.id ∈ bs) (hne : B.got ≠ M.length) : LPI M bs r V A B U S t j B' (begS S' x) (if begE S' x = 0 then t' + 1 else t') :=
  ⟨h.half, h.ls.beg x hx, h.wb, h.hb, fun e => absurd e hne⟩
theorem LAI.start (h : LPI M bs r V A B U S t j B1 S' t') : LAI M A B1 U an 0 B1 := ⟨by simpa using h.half.ch, rfl, rfl, rfl, rfl, rfl⟩
theorem LAI.fit (h : LAI M A B1 U an k B') (hp : LPI M bs r V A B U S t j B1 S' t') (hU : (U ++ an).length ≤ 30) (h1 : 1 ≤ V) (h2 : V ≤ 16) (hr : r ≤ 200) (hj : j ≤ 16) : Fit B' 10000 := by
  obtain ⟨e1, e2, e3, e4, e5⟩ := h.keep
  have hl : ((U ++ an.take k).map encAn).length ≤ 30 := by
    rw [List.length_append] at hU
    rw [List.length_map, List.length_append, List.length_take]
    omega
  exact h.ch.swap.fitA (by rw [e1, hp.wb]; exact h1) (by rw [e1, hp.wb]; exact h2) (by omega) (by omega) (by rw [e3, e4]; have := hp.hb; omega)
theorem LAI.send (h : LAI M A B1 U an k B') {x : An} (hx : an[k]? = some x) (ho : okB x) (hU : (U ++ an).length ≤ 30) : sendErr B' (encAn x) = 0 ∧ LAI M A B1 U an (k + 1) (sendE B' (encAn x)) := by
  have hl : ((U ++ an.take k).map encAn).length ≤ 30 := by
    rw [List.length_append] at hU
    rw [List.length_map, List.length_append, List.length_take]
    omega
  obtain ⟨h1, h2⟩ := h.ch.sendB (m := encAn x) (enc_an_len ho) (by omega)
  obtain ⟨e1, e2, e3, e4, e5⟩ := sendE_keep B' (encAn x)
  obtain ⟨hlt, hxe⟩ := List.getElem?_eq_some_iff.1 hx
  refine ⟨h1, ?_, ?_⟩
  · rw [List.take_succ_eq_append_getElem hlt, hxe, ← List.append_assoc, List.map_append]
    exact h2
  · rw [e1, e2, e3, e4, e5]; exact h.keep
theorem LAI.all (h : LAI M A B1 U an an.length B') : Ch2 M ((U ++ an).map encAn) (outE A) B' := by
  have := h.ch
  rwa [List.take_length] at this
theorem LQI.start (h0 : LRI M bs r W V A B U S t) (h : Ch2 M ((U ++ an).map encAn) (outE A) B2) : LQI M r W A B2 (U ++ an) 0 (outE A) := ⟨Half.start h.swap true, h0.wa, h0.ha⟩
theorem LQI.fit (h : LQI M r W A B2 U j A') (hM : M.length ≤ 30) (h1 : 1 ≤ W) (h2 : W ≤ 16) (hr : r ≤ 200) (hj : j ≤ 16) : Fit A' 10000 :=
  h.half.ch.swap.fitA (by rw [h.wa]; exact h1) (by rw [h.wa]; exact h2) (by omega) (by omega) (by have := h.ha; omega)
theorem LQI.next (h0 : Ch2 M (U.map encAn) (outE A) B2) (h : LQI M r W A B2 U j A') (hV : 1 ≤ B2.window) (hq : (outP B2)[j]? = some q) :
    LQI M r W A B2 U (j + 1) (inE A' q) ∧ (inE A' q).got = A'.got + (inO A' q).length ∧ (inE A' q).got ≤ U.length ∧ ∀ (k : Nat) m, (inO A' q)[k]? = some m → ∃ x, U[A'.got + k]? = some x ∧ m = encAn x := by
  have hp : PGood q (U.map encAn) (outE B2).got := h0.b.pkts hq
  obtain ⟨h1, h2, h3⟩ := h.half.ch.inB hp
  have hn := Half.next h0.swap h.half hV hq
  have hgl := h1.a.go_le
  rw [List.length_map] at hgl
  refine ⟨⟨hn, by rw [inE_win]; exact h.wa, by have := inE_grow A' q; have := h.ha; omega⟩, h2, hgl, fun k m hk => ?_⟩
  have hm := h3 k m hk
  rw [List.getElem?_map] at hm
  obtain ⟨x, e1, e2⟩ := Option.map_eq_some_iff.1 hm
  exact ⟨x, e1, e2.symm⟩
theorem LRI.round {v : List Vn} {tx : ByteArray} {S1 : SesS} {t1 : Nat} (h : LRI M bs r W V A B U S t) (hp : LPI M bs r V A B U S t (outP A).length B1 S1 t1) (ha : LAI M A B1 U (midS S1 v tx).an (midS S1 v tx).an.length B2)
    (hq : LQI M r W A B2 (U ++ (midS S1 v tx).an) (outP B2).length A') (htx : tx.size ≤ 1) (h1 : 1 ≤ W) (h2 : W ≤ 16) (h3 : 1 ≤ V) (h4 : V ≤ 16) :
    LRI M bs (r + 1) W V A' (outE B2) (U ++ (midS S1 v tx).an) (clrS (midS S1 v tx)) t1 := by
  obtain ⟨e1, e2, e3, e4, e5⟩ := ha.keep
  have hpl := outP_len (E := A) (by rw [h.wa]; exact h2)
  have hql := outP_len (E := B2) (by rw [e1, hp.wb]; exact h4)
  refine ⟨RR.round h.rr h.ml (by rw [h.wa]; exact h1) (by rw [e1, hp.wb]; exact h3) htx hp.half hp.ls hp.fx e2 e3 e5 ha.all hq.half, h.ms, h.ml, h.bl, hq.wa, by show B2.window = V; rw [e1]; exact hp.wb, by have := hq.ha; omega, ?_⟩
  show B2.got + B2.held.length ≤ _
  rw [e3, e4]
  have := hp.hb
  omega
theorem lastG_nil (g : Nat) : lastG [] g = 0 := by unfold lastG; rw [dif_neg]; simp; omega
theorem lastG_app (X : List An) {g : Nat} (hg : g ≤ U.length) : lastG (U ++ X) g = lastG U g := by
  unfold lastG
  by_cases h : 0 < g
  · rw [dif_pos ⟨h, by simp; omega⟩, dif_pos ⟨h, hg⟩, List.getElem_append_left (by omega)]
  · rw [dif_neg (by omega), dif_neg (by omega)]
theorem takeG_app (X : List An) {g : Nat} (hg : g ≤ U.length) : idsA ((U ++ X).take g) = idsA (U.take g) := by rw [List.take_append_of_le_length hg]
theorem ids_len (U : List An) (g : Nat) (hg : g ≤ U.length) : (idsA (U.take g)).length = g := by
  rw [idsA, List.length_map, List.length_take]; omega
end
end Go.Proofs.Ytaonhmdifinadaa
