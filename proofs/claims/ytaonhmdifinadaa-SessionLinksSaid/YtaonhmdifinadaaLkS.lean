/-
  The law SessionLinks: what a session keeps over its rounds, as plain data. No program in sight.
-/
import Derived.Test.YtaonhmdifinadaaSesN
namespace Go.Proofs.Ytaonhmdifinadaa
set_option linter.unusedVariables false
set_option linter.unusedSimpArgs false

theorem sub_len {α : Type} [BEq α] [LawfulBEq α] : ∀ (l m : List α), l.Nodup → (∀ x ∈ l, x ∈ m) → l.length ≤ m.length
  | [], m, _, _ => by simp
  | x :: l, m, hn, hs => by
    rw [List.nodup_cons] at hn
    have hx := hs x List.mem_cons_self
    have h1 := sub_len l (m.erase x) hn.2 fun y hy => (List.mem_erase_of_ne (fun e => hn.1 (by rw [← e]; exact hy))).2 (hs y (List.mem_cons_of_mem _ hy))
    rw [List.length_erase_of_mem hx] at h1
    have := List.length_pos_of_mem hx
    simp only [List.length_cons]
    omega
/-- The answers that a round gives, and the state behind it. -/
def midS (S : SesS) (v : List Vn) (t : ByteArray) : SesS := match nextO S v with
  | none => nextS S v
  | some r => finS (nextS S v) r.id 0 t v
def okB (a : An) : Prop := 1 ≤ a.id ∧ a.id ≤ 1099511627776 ∧ (a.err = 0 ∨ a.err = 17) ∧ 0 ≤ a.ver ∧ a.ver ≤ 1099511627776 ∧ a.txt.size ≤ 1
theorem mid_eq {S : SesS} (hr : S.run = false) (ha : S.an = []) (v : List Vn) (t : ByteArray) :
    (∃ P, S.rq = P ∧ (∀ r ∈ P, stale v r = true) ∧ nextO S v = none ∧ midS S v t = ⟨[], false, S.last, P.map staA⟩) ∨
    (∃ P r D, S.rq = P ++ r :: D ∧ (∀ r ∈ P, stale v r = true) ∧ stale v r = false ∧ nextO S v = some r ∧ nextS S v = ⟨r :: D, true, S.last, P.map staA⟩ ∧ midS S v t = ⟨D, false, S.last, P.map staA ++ [⟨r.id, 0, r.ver, t⟩]⟩) := by
  obtain ⟨rq, run, last, an⟩ := S
  simp only at hr ha
  subst hr ha
  have hsplit : rq.takeWhile (stale v) ++ rq.dropWhile (stale v) = rq := List.takeWhile_append_dropWhile
  have hP : ∀ r ∈ rq.takeWhile (stale v), stale v r = true := fun r hr => List.all_eq_true.1 (List.all_takeWhile (p := stale v) (l := rq)) r hr
  cases hd : rq.dropWhile (stale v) with
  | nil =>
    left
    rw [hd, List.append_nil] at hsplit
    refine ⟨rq, rfl, by rw [← hsplit]; exact hP, ?_, ?_⟩
    · simp [nextO, hd]
    · simp [midS, nextO, nextS, dropS, hd, hsplit, staA]
  | cons r D =>
    right
    have hs : stale v r = false := by
      have := List.head?_dropWhile_not (stale v) rq
      rw [hd] at this
      simpa using this
    rw [hd] at hsplit
    refine ⟨rq.takeWhile (stale v), r, D, hsplit.symm, hP, hs, ?_, ?_, ?_⟩
    · simp [nextO, hd]
    · simp [nextS, dropS, hd, staA]
    · simp [midS, nextO, nextS, dropS, hd, finS, hs, ansS, staA]

/-- Behind a round: bs were sent, U was answered, t were taken. -/
structure LS (bs : List Int) (U : List An) (S : SesS) (t : Nat) : Prop where
  good : Good S
  run : S.run = false
  an : S.an = []
  ids : (idsA U ++ idsR S.rq).Pairwise (· < ·)
  hi : ∀ i ∈ idsA U, i ≤ S.last
  mem : ∀ i ∈ idsA U ++ idsR S.rq, i ∈ bs
  cnt : t = U.length + S.rq.length
  ok : ∀ a ∈ U, okB a
theorem LS.new (bs : List Int) : LS bs [] newS 0 := ⟨good_new, rfl, rfl, by simp [idsA, idsR, newS], fun i h => by simp [idsA] at h, fun i h => by simp [idsA, idsR, newS] at h, rfl, fun a h => by simp at h⟩
theorem LS.le {bs : List Int} {U : List An} {S : SesS} {t : Nat} (h : LS bs U S t) : t ≤ bs.length := by
  have h1 := sub_len (idsA U ++ idsR S.rq) bs (List.Pairwise.imp (fun h => Int.ne_of_lt h) h.ids) h.mem
  rw [List.length_append] at h1
  simp only [idsA, idsR, List.length_map] at h1
  have := h.cnt
  omega
theorem LS.beg {bs : List Int} {U : List An} {S : SesS} {t : Nat} (h : LS bs U S t) (r : Rq) (hr : r.id ∈ bs) : LS bs U (begS S r) (if begE S r = 0 then t + 1 else t) := by
  by_cases hb : begE S r = 0
  · have hg := good_beg h.good r
    rw [if_pos hb]
    rw [begS_ok hb] at hg ⊢
    obtain ⟨h1, h2, h3⟩ := begE_ok.1 hb
    refine ⟨hg, h.run, h.an, ?_, fun i hi => ?_, fun i hi => ?_, ?_, h.ok⟩
    · simp only [idsR, List.map_append, List.map_cons, List.map_nil]
      rw [← List.append_assoc, List.pairwise_append]
      refine ⟨h.ids, by simp, fun a ha b hb' => ?_⟩
      simp only [List.mem_singleton] at hb'
      subst hb'
      rcases List.mem_append.1 ha with ha | ha
      · have := h.hi a ha; omega
      · obtain ⟨x, hx, rfl⟩ := List.mem_map.1 ha
        have := h.good.last x hx; omega
    · have := h.hi i hi
      show i ≤ r.id
      omega
    · simp only [idsR, List.map_append, List.map_cons, List.map_nil] at hi
      rw [← List.append_assoc] at hi
      rcases List.mem_append.1 hi with hi | hi
      · exact h.mem i hi
      · simp only [List.mem_singleton] at hi; subst hi; exact hr
    · have := h.cnt
      simp only [List.length_append, List.length_singleton]
      omega
  · rw [if_neg hb, begS_no hb]; exact h
theorem sta_ids (P : List Rq) : idsA (P.map staA) = idsR P := by simp [idsA, idsR, staA]
theorem ids_app (P D : List Rq) : idsR (P ++ D) = idsR P ++ idsR D := by simp [idsR]
theorem idsA_app (P D : List An) : idsA (P ++ D) = idsA P ++ idsA D := by simp [idsA]
theorem LS.mid {bs : List Int} {U : List An} {S : SesS} {t : Nat} (h : LS bs U S t) (v : List Vn) {tx : ByteArray} (htx : tx.size ≤ 1) :
    LS bs (U ++ (midS S v tx).an) (clrS (midS S v tx)) t ∧ (midS S v tx).rq.length ≤ S.rq.length ∧ (S.rq ≠ [] → (midS S v tx).rq.length + 1 ≤ S.rq.length) := by
  have hok : ∀ r ∈ S.rq, ∀ (e : Int) (u : ByteArray), (e = 0 ∨ e = 17) → u.size ≤ 1 → okB ⟨r.id, e, r.ver, u⟩ := fun r hr e u he hu => by
    have := okR_iff.1 (h.good.ok r hr)
    exact ⟨this.1, this.2.1, he, this.2.2.2.2.2.1, this.2.2.2.2.2.2.1, hu⟩
  have hids := h.ids
  have hmem := h.mem
  have hcnt := h.cnt
  have hsub : ∀ D : List Rq, D.Sublist S.rq → Good ⟨D, false, S.last, []⟩ := fun D hD => by
    refine ⟨fun e => (by cases e), ?_, h.good.sorted.sublist (hD.map _), fun r hr => h.good.last r (hD.subset hr), h.good.lo, h.good.hi, fun r hr => h.good.ok r (hD.subset hr)⟩
    have h1 := h.good.wait
    have h2 := hD.length_le
    have h3 := h.run
    unfold waitN at *
    rw [h3] at h1
    simp at h1 ⊢
    omega
  rcases mid_eq h.run h.an v tx with ⟨P, e1, e2, e3, e4⟩ | ⟨P, r, D, e1, e2, e3, e4, -, e5⟩
  · rw [e4]
    rw [e1] at hids hmem hcnt hok
    refine ⟨⟨?_, rfl, rfl, ?_, ?_, ?_, ?_, ?_⟩, by simp, fun hne => ?_⟩
    · exact hsub [] (List.nil_sublist _)
    · show (idsA (U ++ P.map staA) ++ idsR []).Pairwise _
      rw [idsA_app, sta_ids]
      simpa [idsR] using hids
    · intro i hi
      rw [idsA_app, sta_ids] at hi
      rcases List.mem_append.1 hi with hi | hi
      · exact h.hi i hi
      · obtain ⟨x, hx, rfl⟩ := List.mem_map.1 hi
        exact h.good.last x (by rw [e1]; exact hx)
    · intro i hi
      rw [idsA_app, sta_ids] at hi
      exact hmem i (by simpa [idsR, clrS] using hi)
    · simp [clrS]; omega
    · intro a ha
      rcases List.mem_append.1 ha with ha | ha
      · exact h.ok a ha
      · obtain ⟨x, hx, rfl⟩ := List.mem_map.1 ha
        exact hok x hx 17 _ (.inr rfl) (by simp)
    · have := List.length_pos_iff.2 hne
      simp only [List.length_nil]
      omega
  · rw [e5]
    rw [e1] at hids hmem hcnt hok
    have hle : S.rq.length = P.length + (D.length + 1) := by rw [e1]; simp
    refine ⟨⟨?_, rfl, rfl, ?_, ?_, ?_, ?_, ?_⟩, by simp only; omega, fun _ => by simp only; omega⟩
    · exact hsub D (by rw [e1]; exact (List.sublist_cons_self _ _).trans (List.sublist_append_right _ _))
    · show (idsA (U ++ (P.map staA ++ [_])) ++ idsR D).Pairwise _
      rw [idsA_app, idsA_app, sta_ids]
      rw [ids_app] at hids
      simpa [idsA, idsR] using hids
    · intro i hi
      rw [idsA_app, idsA_app, sta_ids] at hi
      rcases List.mem_append.1 hi with hi | hi
      · exact h.hi i hi
      · rcases List.mem_append.1 hi with hi | hi
        · obtain ⟨x, hx, rfl⟩ := List.mem_map.1 hi
          exact h.good.last x (by rw [e1]; exact List.mem_append_left _ hx)
        · simp [idsA] at hi
          subst hi
          exact h.good.last r (by rw [e1]; simp)
    · intro i hi
      rw [idsA_app, idsA_app, sta_ids] at hi
      refine hmem i ?_
      rw [ids_app]
      simpa [idsA, idsR, clrS, or_assoc] using hi
    · simp [clrS] at hcnt ⊢; omega
    · intro a ha
      rcases List.mem_append.1 ha with ha | ha
      · exact h.ok a ha
      · rcases List.mem_append.1 ha with ha | ha
        · obtain ⟨x, hx, rfl⟩ := List.mem_map.1 ha
          exact hok x (List.mem_append_left _ hx) 17 _ (.inr rfl) (by simp)
        · simp only [List.mem_singleton] at ha
          subst ha
          exact hok r (by simp) 0 tx (.inl rfl) htx
/-- The greatest ID that came back. -/
def lastG (U : List An) (g : Nat) : Int := if h : 0 < g ∧ g ≤ U.length then (U[g - 1]'(by omega)).id else 0
/-- The next answer that comes back is a new one. -/
theorem LS.back {bs : List Int} {U : List An} {S : SesS} {t : Nat} (h : LS bs U S t) {g : Nat} {a : An} (ha : U[g]? = some a) : lastG U g < a.id ∧ a.id ∉ idsA (U.take g) ∧ lastG U (g + 1) = a.id ∧ idsA (U.take (g + 1)) = idsA (U.take g) ++ [a.id] := by
  obtain ⟨hlt, hae⟩ := List.getElem?_eq_some_iff.1 ha
  have hp : (idsA U).Pairwise (· < ·) := (List.pairwise_append.1 h.ids).1
  have hg : ∀ (i j : Nat) (hi : i < U.length) (hj : j < U.length), i < j → U[i].id < U[j].id := fun i j hi hj hij => by
    have := List.pairwise_iff_getElem.1 hp i j (by simpa [idsA] using hi) (by simpa [idsA] using hj) hij
    simpa [idsA] using this
  refine ⟨?_, fun hm => ?_, ?_, ?_⟩
  · unfold lastG
    split
    · next hh =>
      rw [← hae]
      exact hg (g - 1) g (by omega) hlt (by omega)
    · have := (h.ok a (List.mem_of_getElem? ha)).1
      omega
  · obtain ⟨x, hx, hxe⟩ := List.mem_map.1 hm
    obtain ⟨i, hi, hxi⟩ := List.getElem_of_mem hx
    rw [List.length_take] at hi
    rw [List.getElem_take] at hxi
    have := hg i g (by omega) hlt (by omega)
    rw [hxi, hae] at this
    omega
  · unfold lastG
    rw [dif_pos ⟨by omega, by omega⟩]
    simp only [Nat.add_sub_cancel]
    rw [hae]
  · rw [List.take_succ_eq_append_getElem hlt, idsA_app, hae]
    simp [idsA]
end Go.Proofs.Ytaonhmdifinadaa
