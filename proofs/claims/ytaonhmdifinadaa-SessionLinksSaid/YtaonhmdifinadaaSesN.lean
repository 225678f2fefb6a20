/-
  The order of answers, as plain data. No program in sight.
-/
import Derived.Test.YtaonhmdifinadaaSesM
namespace Go.Proofs.Ytaonhmdifinadaa
set_option linter.unusedVariables false
set_option linter.unusedSimpArgs false

/-- The greatest ID among answers other than ErrCancel, as the law keeps it. -/
def lastA (last : Int) (l : List An) : Int := l.foldl (fun m a => if a.err = 18 then m else a.id) last
theorem lastA_snoc (last : Int) (l : List An) (a : An) : lastA last (l ++ [a]) = if a.err = 18 then lastA last l else a.id := by simp [lastA]
theorem lastA_take (last : Int) (l : List An) {k : Nat} (h : k < l.length) : lastA last (l.take (k + 1)) = if l[k].err = 18 then lastA last (l.take k) else l[k].id := by
  rw [List.take_succ_eq_append_getElem h, lastA_snoc]
def staA (r : Rq) : An := ⟨r.id, 17, r.ver, ByteArray.empty⟩
theorem lastA_lt (D : List Rq) : ∀ (P : List Rq) (last : Int), (idsR (P ++ D)).Pairwise (· < ·) → (∀ r ∈ P ++ D, last < r.id) → ∀ r ∈ D, lastA last (P.map staA) < r.id
  | [], last, _, h, r, hr => h r (by simpa using hr)
  | p :: P, last, hs, h, r, hr => by
    have e : lastA last ((p :: P).map staA) = lastA p.id (P.map staA) := rfl
    rw [e]
    simp only [List.cons_append, idsR, List.map_cons, List.pairwise_cons] at hs
    exact lastA_lt D P p.id hs.2 (fun x hx => hs.1 _ (List.mem_map.2 ⟨x, hx, rfl⟩)) r hr
theorem lastA_le {B : Int} : ∀ (l : List An) (last : Int), last ≤ B → (∀ a ∈ l, a.id ≤ B) → lastA last l ≤ B
  | [], last, h, _ => h
  | a :: l, last, h, hl => by
    have e : lastA last (a :: l) = lastA (if a.err = 18 then last else a.id) l := rfl
    rw [e]
    refine lastA_le l _ ?_ (fun x hx => hl x (List.mem_cons_of_mem _ hx))
    split
    · exact h
    · exact hl a List.mem_cons_self
/-- What the law asks of answer k. -/
structure AnsOk (taken : Rq) (ats v : List Vn) (t : ByteArray) (last : Int) (l : List An) (k : Nat) (h : k < l.length) : Prop where
  ok : l[k].err = 0 → l[k].id = taken.id ∧ l[k].ver = taken.ver ∧ l[k].txt = t ∧ stale ats taken = false ∧ stale v taken = false
  no : l[k].err ≠ 0 → l[k].txt = ByteArray.empty
  lt : l[k].err ≠ 18 → lastA last (l.take k) < l[k].id
/-- The state of the law at a round's end. -/
structure Ord (last : Int) (taken : Rq) (ats : List Vn) (S : SesS) : Prop where
  good : Good S
  an : S.an = []
  lt : ∀ r ∈ S.rq, last < r.id
  le : last ≤ S.last
  head : S.run = true → S.rq.head? = some taken ∧ stale ats taken = false
theorem ord_new (taken : Rq) (ats : List Vn) : Ord 0 taken ats newS := ⟨good_new, rfl, fun r h => (by cases h), by decide, fun h => (by cases h)⟩
/-- Behind a call: the answers are in order, and the state goes on. -/
structure OrdStep (last : Int) (taken : Rq) (ats v : List Vn) (t : ByteArray) (S : SesS) : Prop where
  each : ∀ k (h : k < S.an.length), AnsOk taken ats v t last S.an k h
  next : Ord (lastA last S.an) taken ats (clrS S)
theorem Ord.none {last : Int} {taken : Rq} {ats : List Vn} {S : SesS} (h : Ord last taken ats S) (v : List Vn) (t : ByteArray) : OrdStep last taken ats v t S := by
  have hz := h.an
  refine ⟨fun k hk => (by rw [hz] at hk; cases hk), ?_⟩
  rw [hz]
  exact ⟨good_clr h.good, rfl, h.lt, h.le, h.head⟩
theorem Ord.beg {last : Int} {taken : Rq} {ats : List Vn} {S : SesS} (h : Ord last taken ats S) (r : Rq) : Ord last taken ats (begS S r) := by
  by_cases hb : begE S r = 0
  · have hg := good_beg h.good r
    rw [begS_ok hb] at hg ⊢
    obtain ⟨h1, h2, h3⟩ := begE_ok.1 hb
    have hle := h.le
    refine ⟨hg, h.an, ?_, ?_, ?_⟩
    · intro x hx
      rcases List.mem_append.1 hx with hx | hx
      · exact h.lt x hx
      · simp only [List.mem_singleton] at hx
        subst hx
        omega
    · show last ≤ r.id
      omega
    · intro hr
      obtain ⟨h4, h5⟩ := h.head hr
      refine ⟨?_, h5⟩
      show (S.rq ++ [r]).head? = _
      rw [List.head?_append, h4]
      rfl
  · rw [begS_no hb]; exact h
theorem head_erase {α : Type} {l : List α} {i : Nat} (h : 0 < i) : (l.eraseIdx i).head? = l.head? := by
  cases l with
  | nil => rfl
  | cons x xs =>
    cases i with
    | zero => omega
    | succ i => rfl
theorem Ord.can {last : Int} {taken : Rq} {ats : List Vn} {S : SesS} (h : Ord last taken ats S) (id : Int) (v : List Vn) (t : ByteArray) : OrdStep last taken ats v t (canS S id) := by
  have hg := good_can h.good id
  unfold canS at hg ⊢
  generalize ixR S.rq id = i at *
  by_cases hi : i < S.rq.length
  · have hs : S.rq[i]? = some S.rq[i] := List.getElem?_eq_getElem hi
    rw [ans_eq hs, h.an] at hg ⊢
    have hsub : (S.rq.eraseIdx i).Sublist S.rq := List.eraseIdx_sublist ..
    refine ⟨?_, ?_⟩
    · intro k hk
      simp only [List.nil_append, List.length_singleton] at hk
      obtain rfl : k = 0 := by omega
      exact ⟨fun he => (by cases he), fun _ => rfl, fun he => absurd rfl he⟩
    · have e : lastA last ([] ++ [(⟨S.rq[i].id, 18, S.rq[i].ver, ByteArray.empty⟩ : An)]) = last := rfl
      refine ⟨good_clr hg, rfl, ?_, ?_, ?_⟩
      · intro r hr
        show lastA last ([] ++ [_]) < _
        rw [e]
        exact h.lt r (hsub.subset hr)
      · show lastA last ([] ++ [_]) ≤ _
        rw [e]
        exact h.le
      · intro hr
        have hr' : (S.run && decide (0 < i)) = true := hr
        simp only [Bool.and_eq_true, decide_eq_true_eq] at hr'
        obtain ⟨h1, h2⟩ := h.head hr'.1
        refine ⟨?_, h2⟩
        show (S.rq.eraseIdx i).head? = _
        rw [head_erase hr'.2]
        exact h1
  · rw [ans_none (by omega)]
    exact h.none v t
theorem take_map_sta {P : List Rq} {k : Nat} : ((P.map staA).take k) = (P.take k).map staA := by rw [List.map_take]
theorem Ord.next {last : Int} {taken : Rq} {ats : List Vn} {S : SesS} (h : Ord last taken ats S) (v : List Vn) (t : ByteArray) :
    match nextO S v with
    | some r => OrdStep last r v v t (nextS S v) ∧ stale v r = false
    | .none => OrdStep last taken ats v t (nextS S v) := by
  have hg := good_next h.good v
  unfold nextO
  by_cases hr : S.run = true
  · rw [if_pos hr]
    have e : nextS S v = S := by unfold nextS; rw [if_pos hr]
    show OrdStep _ _ _ _ _ (nextS S v)
    rw [e]
    exact h.none v t
  · rw [if_neg hr]
    have e : nextS S v = { dropS v S with run := !(dropS v S).rq.isEmpty } := by unfold nextS; rw [if_neg hr]
    rw [e] at hg
    have hsplit : S.rq.takeWhile (stale v) ++ S.rq.dropWhile (stale v) = S.rq := List.takeWhile_append_dropWhile
    have hso := h.good.sorted
    have hlt := h.lt
    rw [← hsplit] at hso hlt
    have hle : ∀ r ∈ S.rq.takeWhile (stale v), r.id ≤ S.last := fun r hr => h.good.last r (by rw [← hsplit]; exact List.mem_append_left _ hr)
    have han : (dropS v S).an = (S.rq.takeWhile (stale v)).map staA := by
      unfold dropS
      rw [h.an]
      rfl
    have hrq : (dropS v S).rq = S.rq.dropWhile (stale v) := rfl
    have hpre : ∀ r, (S.rq.dropWhile (stale v)).head? = some r → stale v r = false := by
      intro r hr
      have := List.head?_dropWhile_not (stale v) S.rq
      rw [hr] at this
      simpa using this
    have hnx : ∀ (tk : Rq) (A : List Vn), (∀ r, (S.rq.dropWhile (stale v)).head? = some r → tk = r ∧ stale A tk = false) → OrdStep last tk A v t { dropS v S with run := !(dropS v S).rq.isEmpty } := by
      intro tk A htk
      refine ⟨?_, ?_⟩
      · intro k hk
        have hk' : k < (dropS v S).an.length := hk
        rw [han] at hk'
        have hk2 : k < (S.rq.takeWhile (stale v)).length := by simpa using hk'
        have hget : (dropS v S).an[k]'hk = staA (S.rq.takeWhile (stale v))[k] := by
          have : ∀ (l : List An) (hl : l = (S.rq.takeWhile (stale v)).map staA) (h : k < l.length), l[k] = staA (S.rq.takeWhile (stale v))[k] := by
            intro l hl h
            subst hl
            simp
          exact this _ han _
        refine ⟨?_, ?_, ?_⟩
        · intro he
          rw [show ({ dropS v S with run := !(dropS v S).rq.isEmpty } : SesS).an[k] = staA (S.rq.takeWhile (stale v))[k] from hget] at he
          cases he
        · intro _
          rw [show ({ dropS v S with run := !(dropS v S).rq.isEmpty } : SesS).an[k] = staA (S.rq.takeWhile (stale v))[k] from hget]
          rfl
        · intro _
          rw [show ({ dropS v S with run := !(dropS v S).rq.isEmpty } : SesS).an[k] = staA (S.rq.takeWhile (stale v))[k] from hget]
          show lastA last (List.take k (dropS v S).an) < _
          rw [han, ← List.map_take]
          refine lastA_lt ((S.rq.takeWhile (stale v)).drop k ++ S.rq.dropWhile (stale v)) ((S.rq.takeWhile (stale v)).take k) last ?_ ?_ _ ?_
          · rw [← List.append_assoc, List.take_append_drop]; exact hso
          · rw [← List.append_assoc, List.take_append_drop]; exact hlt
          · refine List.mem_append_left _ ?_
            rw [List.drop_eq_getElem_cons hk2]
            exact List.mem_cons_self
      · refine ⟨good_clr hg, rfl, ?_, ?_, ?_⟩
        · intro r hr
          show lastA last (dropS v S).an < _
          rw [han]
          exact lastA_lt _ _ last hso hlt r hr
        · show lastA last (dropS v S).an ≤ S.last
          rw [han]
          refine lastA_le _ _ h.le ?_
          intro a ha
          obtain ⟨r, hr, rfl⟩ := List.mem_map.1 ha
          exact hle r hr
        · intro hr
          have hne : S.rq.dropWhile (stale v) ≠ [] := by
            have : (!(S.rq.dropWhile (stale v)).isEmpty) = true := hr
            simpa using this
          obtain ⟨r, hh⟩ : ∃ r, (S.rq.dropWhile (stale v)).head? = some r := by
            cases hd : S.rq.dropWhile (stale v) with
            | nil => exact absurd hd hne
            | cons x xs => exact ⟨x, rfl⟩
          obtain ⟨rfl, h2⟩ := htk r hh
          exact ⟨hh, h2⟩
    cases hh : (S.rq.dropWhile (stale v)).head? with
    | none =>
      show OrdStep _ _ _ _ _ (nextS S v)
      rw [e]
      exact hnx taken ats fun r hr => by rw [hh] at hr; cases hr
    | some r =>
      show OrdStep _ _ _ _ _ (nextS S v) ∧ _
      rw [e]
      refine ⟨hnx r v fun r' hr => ?_, hpre r hh⟩
      rw [hh] at hr
      cases hr
      exact ⟨rfl, hpre r hh⟩
theorem Ord.fin {last : Int} {taken : Rq} {ats : List Vn} {S : SesS} (h : Ord last taken ats S) (v : List Vn) (t : ByteArray) : OrdStep last taken ats v t (finS S taken.id 0 t v) := by
  have hg := good_fin h.good taken.id 0 t v
  have hh := h.head
  obtain ⟨rq, run, lst, an⟩ := S
  have han : an = [] := h.an
  subst han
  cases run with
  | false => exact h.none v t
  | true =>
    obtain ⟨h1, h2⟩ := hh rfl
    cases rq with
    | nil => cases h1
    | cons x xs =>
      simp only [List.head?_cons, Option.some.injEq] at h1
      subst h1
      have hso := h.good.sorted
      simp only [idsR, List.map_cons, List.pairwise_cons] at hso
      have hlx : last < x.id := h.lt x List.mem_cons_self
      have hxl : x.id ≤ lst := h.good.last x List.mem_cons_self
      have key : ∀ (e : Int) (u : ByteArray), e ≠ 18 → (e = 0 → u = t ∧ stale v x = false) → (e ≠ 0 → u = ByteArray.empty) → Good (ansS ⟨x :: xs, true, lst, []⟩ 0 e u) → OrdStep last x ats v t (ansS ⟨x :: xs, true, lst, []⟩ 0 e u) := by
        intro e u he h0 hn hgg
        rw [ans_eq (r := x) rfl] at hgg ⊢
        refine ⟨?_, ?_⟩
        · intro k hk
          simp only [List.nil_append, List.length_singleton] at hk
          obtain rfl : k = 0 := by omega
          exact ⟨fun hz => ⟨rfl, rfl, (h0 hz).1, h2, (h0 hz).2⟩, hn, fun _ => hlx⟩
        · have e1 : lastA last ([] ++ [(⟨x.id, e, x.ver, u⟩ : An)]) = x.id := by simp [lastA, he]
          refine ⟨good_clr hgg, rfl, ?_, ?_, ?_⟩
          · intro r hr
            show lastA last ([] ++ [_]) < _
            rw [e1]
            exact hso.1 _ (List.mem_map.2 ⟨r, hr, rfl⟩)
          · show lastA last ([] ++ [_]) ≤ _
            rw [e1]
            exact hxl
          · intro hr
            have : (true && decide ((0 : Nat) < 0)) = true := hr
            simp at this
      unfold finS at hg ⊢
      simp only [if_true] at hg ⊢
      by_cases hs : stale v x = true
      · rw [if_pos hs] at hg ⊢
        exact key 17 _ (by decide) (fun h => by cases h) (fun _ => rfl) hg
      · rw [if_neg hs] at hg ⊢
        exact key 0 t (by decide) (fun _ => ⟨rfl, by simpa using hs⟩) (fun h => absurd rfl h) hg
end Go.Proofs.Ytaonhmdifinadaa
