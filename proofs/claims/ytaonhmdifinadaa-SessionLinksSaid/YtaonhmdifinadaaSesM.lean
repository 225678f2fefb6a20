/-
  Sessions as plain data: what each call does; the laws of requests and answers. No program in sight.
-/
import Derived.WalkKit
namespace Go.Proofs.Ytaonhmdifinadaa
set_option linter.unusedVariables false
set_option linter.unusedSimpArgs false

structure Rq where
  id : Int
  kind : Int
  doc : ByteArray
  ver : Int
  off : Int
  txt : ByteArray
structure An where
  id : Int
  err : Int
  ver : Int
  txt : ByteArray
structure Vn where
  doc : ByteArray
  ver : Int
structure SesS where
  rq : List Rq
  run : Bool
  last : Int
  an : List An

def newS : SesS := ⟨[], false, 0, []⟩
def okR (r : Rq) : Bool := decide (1 ≤ r.id ∧ r.id ≤ 1099511627776 ∧ 0 ≤ r.kind ∧ r.kind ≤ 4 ∧ r.doc.size ≤ 16 ∧ 0 ≤ r.ver ∧ r.ver ≤ 1099511627776 ∧ 0 ≤ r.off ∧ r.off ≤ 1099511627776 ∧ r.txt.size ≤ 4096)
def waitN (S : SesS) : Nat := S.rq.length - if S.run = true then 1 else 0
def begE (S : SesS) (r : Rq) : Int := if okR r = false then 1 else if r.id ≤ S.last then 8 else if 64 ≤ waitN S then 4 else 0
def begS (S : SesS) (r : Rq) : SesS := if begE S r = 0 then { S with last := r.id, rq := S.rq ++ [r] } else S
/-- Request i is answered. -/
def ansS (S : SesS) (i : Nat) (e : Int) (t : ByteArray) : SesS := match S.rq[i]? with
  | none => S
  | some r => { S with an := S.an ++ [⟨r.id, e, r.ver, t⟩], rq := S.rq.eraseIdx i, run := S.run && decide (0 < i) }
def ixR (l : List Rq) (id : Int) : Nat := l.findIdx fun r => r.id == id
def canE (S : SesS) (id : Int) : Int := if ixR S.rq id < S.rq.length then 0 else 7
def canS (S : SesS) (id : Int) : SesS := ansS S (ixR S.rq id) 18 ByteArray.empty
def stale (l : List Vn) (r : Rq) : Bool := match l.find? fun v => decide (v.doc = r.doc) with
  | none => true
  | some v => v.ver != r.ver
def dropS (l : List Vn) (S : SesS) : SesS := { S with rq := S.rq.dropWhile (stale l), an := S.an ++ (S.rq.takeWhile (stale l)).map fun r => ⟨r.id, 17, r.ver, ByteArray.empty⟩ }
def nextO (S : SesS) (l : List Vn) : Option Rq := if S.run = true then none else (S.rq.dropWhile (stale l)).head?
def nextS (S : SesS) (l : List Vn) : SesS := if S.run = true then S else { dropS l S with run := !(dropS l S).rq.isEmpty }
def finE (S : SesS) (id : Int) : Int := match S.run, S.rq with
  | true, r :: _ => if r.id = id then 0 else 7
  | _, _ => 7
def finS (S : SesS) (id e : Int) (t : ByteArray) (l : List Vn) : SesS := match S.run, S.rq with
  | true, r :: _ => if r.id = id then (if stale l r = true then ansS S 0 17 ByteArray.empty else if e = 0 then ansS S 0 0 t else ansS S 0 e ByteArray.empty) else S
  | _, _ => S
def clrS (S : SesS) : SesS := { S with an := [] }
def idsR (l : List Rq) : List Int := l.map fun r => r.id
def idsA (l : List An) : List Int := l.map fun a => a.id

/-- What a session always meets. -/
structure Good (S : SesS) : Prop where
  run : S.run = true → S.rq ≠ []
  wait : waitN S ≤ 64
  sorted : (idsR S.rq).Pairwise (· < ·)
  last : ∀ r ∈ S.rq, r.id ≤ S.last
  lo : 0 ≤ S.last
  hi : S.last ≤ 1099511627776
  ok : ∀ r ∈ S.rq, okR r = true

theorem Good.len {S : SesS} (h : Good S) : S.rq.length ≤ 65 := by
  have := h.wait
  unfold waitN at this
  split at this <;> omega
theorem good_new : Good newS := ⟨fun h => (by cases h), by decide, List.Pairwise.nil, fun r h => (by cases h), by decide, by decide, fun r h => (by cases h)⟩
theorem okR_iff {r : Rq} : okR r = true ↔ (1 ≤ r.id ∧ r.id ≤ 1099511627776 ∧ 0 ≤ r.kind ∧ r.kind ≤ 4 ∧ r.doc.size ≤ 16 ∧ 0 ≤ r.ver ∧ r.ver ≤ 1099511627776 ∧ 0 ≤ r.off ∧ r.off ≤ 1099511627776 ∧ r.txt.size ≤ 4096) := by
  unfold okR; rw [decide_eq_true_eq]
theorem begE_ok {S : SesS} {r : Rq} : begE S r = 0 ↔ okR r = true ∧ S.last < r.id ∧ waitN S < 64 := by
  unfold begE
  by_cases h1 : okR r = false
  · rw [if_pos h1]; simp [h1]
  · rw [if_neg h1]
    have h1' : okR r = true := by simpa using h1
    by_cases h2 : r.id ≤ S.last
    · rw [if_pos h2]; constructor
      · intro h; cases h
      · rintro ⟨_, h, _⟩; omega
    · rw [if_neg h2]
      by_cases h3 : 64 ≤ waitN S
      · rw [if_pos h3]; constructor
        · intro h; cases h
        · rintro ⟨_, _, h⟩; omega
      · rw [if_neg h3]; simp only [true_iff]; exact ⟨h1', by omega, by omega⟩
theorem begS_ok {S : SesS} {r : Rq} (h : begE S r = 0) : begS S r = { S with last := r.id, rq := S.rq ++ [r] } := by unfold begS; rw [if_pos h]
theorem begS_no {S : SesS} {r : Rq} (h : begE S r ≠ 0) : begS S r = S := by unfold begS; rw [if_neg h]
theorem good_beg {S : SesS} (h : Good S) (r : Rq) : Good (begS S r) := by
  by_cases hb : begE S r = 0
  · rw [begS_ok hb]
    obtain ⟨h1, h2, h3⟩ := begE_ok.1 hb
    refine ⟨fun _ => by simp, ?_, ?_, ?_, ?_, ?_, ?_⟩
    · unfold waitN at h3 ⊢
      have := h.run
      split at h3
      · rename_i hr
        rw [if_pos hr]
        simp only [List.length_append, List.length_singleton]
        have := List.length_pos_iff.2 (this hr)
        omega
      · rename_i hr
        rw [if_neg hr]
        simp only [List.length_append, List.length_singleton]
        omega
    · simp only [idsR, List.map_append, List.map_cons, List.map_nil]
      rw [List.pairwise_append]
      refine ⟨h.sorted, by simp, ?_⟩
      intro a ha b hb'
      simp only [List.mem_singleton] at hb'
      subst hb'
      obtain ⟨x, hx, rfl⟩ := List.mem_map.1 ha
      have := h.last x hx
      omega
    · intro x hx
      rcases List.mem_append.1 hx with hx | hx
      · have := h.last x hx; show x.id ≤ r.id; omega
      · simp only [List.mem_singleton] at hx; subst hx; exact Int.le_refl _
    · have := h.lo; show 0 ≤ r.id; omega
    · exact (okR_iff.1 h1).2.1
    · intro x hx
      rcases List.mem_append.1 hx with hx | hx
      · exact h.ok x hx
      · simp only [List.mem_singleton] at hx; subst hx; exact h1
  · rw [begS_no hb]; exact h
theorem ans_eq {S : SesS} {i : Nat} {r : Rq} (h : S.rq[i]? = some r) (e : Int) (t : ByteArray) : ansS S i e t = { S with an := S.an ++ [⟨r.id, e, r.ver, t⟩], rq := S.rq.eraseIdx i, run := S.run && decide (0 < i) } := by
  unfold ansS; rw [h]
theorem ans_none {S : SesS} {i : Nat} (h : S.rq.length ≤ i) (e : Int) (t : ByteArray) : ansS S i e t = S := by
  unfold ansS; rw [List.getElem?_eq_none h]
theorem good_ans {S : SesS} (h : Good S) (i : Nat) (e : Int) (t : ByteArray) : Good (ansS S i e t) := by
  by_cases hi : i < S.rq.length
  · have hs : S.rq[i]? = some S.rq[i] := List.getElem?_eq_getElem hi
    rw [ans_eq hs]
    have hsub : (S.rq.eraseIdx i).Sublist S.rq := List.eraseIdx_sublist ..
    refine ⟨?_, ?_, ?_, fun r hr => h.last r (hsub.subset hr), h.lo, h.hi, fun r hr => h.ok r (hsub.subset hr)⟩
    · intro hr
      simp only [Bool.and_eq_true, decide_eq_true_eq] at hr
      intro hn
      have h1 : (S.rq.eraseIdx i).length = 0 := by simp only at hn; rw [hn]; rfl
      rw [List.length_eraseIdx_of_lt hi] at h1
      omega
    · unfold waitN
      simp only
      rw [List.length_eraseIdx_of_lt hi]
      have := h.wait
      unfold waitN at this
      by_cases hr : S.run = true
      · rw [if_pos hr] at this
        split <;> omega
      · rw [if_neg hr] at this
        split <;> omega
    · exact List.Pairwise.sublist (hsub.map _) h.sorted
  · rw [ans_none (by omega)]; exact h
theorem good_can {S : SesS} (h : Good S) (id : Int) : Good (canS S id) := good_ans h _ _ _
theorem good_next {S : SesS} (h : Good S) (l : List Vn) : Good (nextS S l) := by
  unfold nextS
  by_cases hr : S.run = true
  · rw [if_pos hr]; exact h
  · rw [if_neg hr]
    have hsub : (S.rq.dropWhile (stale l)).Sublist S.rq := List.dropWhile_sublist _
    have hw := h.wait
    unfold waitN at hw
    rw [if_neg hr] at hw
    refine ⟨?_, ?_, List.Pairwise.sublist (hsub.map _) h.sorted, fun r hr => h.last r (hsub.subset hr), h.lo, h.hi, fun r hr => h.ok r (hsub.subset hr)⟩
    · intro hx; simpa [dropS] using hx
    · unfold waitN
      have := hsub.length_le
      simp only [dropS]
      omega
theorem good_fin {S : SesS} (h : Good S) (id e : Int) (t : ByteArray) (l : List Vn) : Good (finS S id e t l) := by
  unfold finS
  split
  · split
    · split
      · exact good_ans h _ _ _
      · split <;> exact good_ans h _ _ _
    · exact h
  · exact h
theorem good_clr {S : SesS} (h : Good S) : Good (clrS S) := ⟨h.run, h.wait, h.sorted, h.last, h.lo, h.hi, h.ok⟩

/-! ### Every request once: all IDs, of the requests and of the answers -/
def tot (S : SesS) : List Int := idsR S.rq ++ idsA S.an
theorem perm_erase {l : List Rq} {i : Nat} {r : Rq} (h : l[i]? = some r) : (r :: l.eraseIdx i).Perm l := by
  induction l generalizing i with
  | nil => simp at h
  | cons x xs ih =>
    cases i with
    | zero => simp at h; subst h; exact List.Perm.refl _
    | succ i =>
      simp only [List.getElem?_cons_succ] at h
      simp only [List.eraseIdx_cons_succ]
      exact (List.Perm.swap x r _).trans ((ih h).cons x)
theorem tot_ans (S : SesS) (i : Nat) (e : Int) (t : ByteArray) : (tot (ansS S i e t)).Perm (tot S) := by
  by_cases hi : i < S.rq.length
  · have hs : S.rq[i]? = some S.rq[i] := List.getElem?_eq_getElem hi
    rw [ans_eq hs]
    unfold tot
    simp only [idsA, List.map_append, List.map_cons, List.map_nil]
    have h1 : (idsR (S.rq.eraseIdx i) ++ [S.rq[i].id]).Perm (idsR S.rq) := (List.perm_append_comm).trans ((perm_erase hs).map _)
    have h2 : (idsR (S.rq.eraseIdx i) ++ ((S.an.map fun a => a.id) ++ [S.rq[i].id])).Perm ((idsR (S.rq.eraseIdx i) ++ [S.rq[i].id]) ++ S.an.map fun a => a.id) := by
      rw [List.append_assoc]
      exact List.Perm.append_left _ List.perm_append_comm
    exact h2.trans (h1.append_right _)
  · rw [ans_none (by omega)]
theorem tot_beg {S : SesS} {r : Rq} (h : begE S r = 0) : (tot (begS S r)).Perm (tot S ++ [r.id]) := by
  rw [begS_ok h]
  unfold tot
  simp only [idsR, List.map_append, List.map_cons, List.map_nil, List.append_assoc]
  exact List.Perm.append_left _ List.perm_append_comm
theorem tot_next (S : SesS) (l : List Vn) : (tot (nextS S l)).Perm (tot S) := by
  unfold nextS
  split
  · exact List.Perm.refl _
  · unfold tot dropS idsA
    simp only [List.map_append, List.map_map]
    have h1 : idsR (S.rq.takeWhile (stale l)) ++ idsR (S.rq.dropWhile (stale l)) = idsR S.rq := by
      unfold idsR
      rw [← List.map_append, List.takeWhile_append_dropWhile]
    have h2 : (S.rq.takeWhile (stale l)).map ((fun a : An => a.id) ∘ fun r => ⟨r.id, 17, r.ver, ByteArray.empty⟩) = idsR (S.rq.takeWhile (stale l)) := rfl
    rw [h2, ← h1]
    refine (List.Perm.append_left _ List.perm_append_comm).trans ?_
    rw [← List.append_assoc]
    exact List.Perm.append_right _ List.perm_append_comm
theorem tot_fin (S : SesS) (id e : Int) (t : ByteArray) (l : List Vn) : (tot (finS S id e t l)).Perm (tot S) := by
  unfold finS
  split
  · split
    · split
      · exact tot_ans _ _ _ _
      · split <;> exact tot_ans _ _ _ _
    · exact List.Perm.refl _
  · exact List.Perm.refl _

/-- The state of the law: what was begun, what was answered. -/
structure Once (begun answered : List Int) (S : SesS) : Prop where
  good : Good S
  sorted : begun.Pairwise (· < ·)
  last : ∀ x ∈ begun, x ≤ S.last
  perm : (answered ++ tot S).Perm begun
theorem once_new : Once [] [] newS := ⟨good_new, List.Pairwise.nil, fun x h => (by cases h), List.Perm.refl _⟩
theorem Once.keep {b a : List Int} {S S' : SesS} (h : Once b a S) (hg : Good S') (hl : S'.last = S.last) (hp : (tot S').Perm (tot S)) : Once b a S' :=
  ⟨hg, h.sorted, by rw [hl]; exact h.last, (List.Perm.append_left _ hp).trans h.perm⟩
theorem Once.beg {b a : List Int} {S : SesS} (h : Once b a S) (r : Rq) : Once (if begE S r = 0 then b ++ [r.id] else b) a (begS S r) := by
  by_cases hb : begE S r = 0
  · rw [if_pos hb]
    obtain ⟨h1, h2, h3⟩ := begE_ok.1 hb
    refine ⟨good_beg h.good r, ?_, ?_, ?_⟩
    · rw [List.pairwise_append]
      refine ⟨h.sorted, by simp, fun x hx y hy => ?_⟩
      simp only [List.mem_singleton] at hy
      subst hy
      have := h.last x hx
      omega
    · rw [begS_ok hb]
      intro x hx
      show x ≤ r.id
      rcases List.mem_append.1 hx with hx | hx
      · have := h.last x hx; omega
      · simp only [List.mem_singleton] at hx; omega
    · refine (List.Perm.append_left _ (tot_beg hb)).trans ?_
      rw [← List.append_assoc]
      exact h.perm.append_right _
  · rw [if_neg hb, begS_no hb]; exact h
theorem ans_last (S : SesS) (i : Nat) (e : Int) (t : ByteArray) : (ansS S i e t).last = S.last := by
  unfold ansS; split <;> rfl
theorem next_last (S : SesS) (l : List Vn) : (nextS S l).last = S.last := by unfold nextS; split <;> rfl
theorem fin_last (S : SesS) (id e : Int) (t : ByteArray) (l : List Vn) : (finS S id e t l).last = S.last := by
  unfold finS
  split
  · split
    · split
      · exact ans_last _ _ _ _
      · split <;> exact ans_last _ _ _ _
    · rfl
  · rfl
theorem Once.can {b a : List Int} {S : SesS} (h : Once b a S) (id : Int) : Once b a (canS S id) := h.keep (good_can h.good id) (ans_last _ _ _ _) (tot_ans _ _ _ _)
theorem Once.next {b a : List Int} {S : SesS} (h : Once b a S) (l : List Vn) : Once b a (nextS S l) := h.keep (good_next h.good l) (next_last _ _) (tot_next _ _)
theorem Once.fin {b a : List Int} {S : SesS} (h : Once b a S) (id e : Int) (t : ByteArray) (l : List Vn) : Once b a (finS S id e t l) := h.keep (good_fin h.good ..) (fin_last ..) (tot_fin ..)
theorem Once.clr {b a : List Int} {S : SesS} (h : Once b a S) : Once b (a ++ idsA S.an) (clrS S) := by
  refine ⟨good_clr h.good, h.sorted, h.last, ?_⟩
  refine List.Perm.trans ?_ h.perm
  unfold tot clrS
  simp only [idsA, List.map_nil, List.append_nil, List.append_assoc]
  exact List.Perm.append_left _ List.perm_append_comm
theorem Once.nodup {b a : List Int} {S : SesS} (h : Once b a S) : (a ++ tot S).Nodup := by
  rw [h.perm.nodup_iff]
  exact h.sorted.imp fun h => by omega
/-- What the law asks of each answer, in order. -/
theorem Once.each {b a : List Int} {S : SesS} (h : Once b a S) {k : Nat} (hk : k < S.an.length) : S.an[k].id ∉ a ++ (idsA S.an).take k ∧ S.an[k].id ∈ b := by
  have hn := h.nodup
  have hka : k < (idsA S.an).length := by simpa [idsA] using hk
  have hkk : (idsA S.an)[k] = S.an[k].id := by simp [idsA]
  constructor
  · intro hm
    rw [List.nodup_append] at hn
    obtain ⟨h1, h2, h3⟩ := hn
    rcases List.mem_append.1 hm with hm | hm
    · refine h3 _ hm _ ?_ rfl
      unfold tot
      exact List.mem_append_right _ (by rw [← hkk]; exact List.getElem_mem hka)
    · unfold tot at h2
      rw [List.nodup_append] at h2
      have h4 := h2.2.1
      rw [← List.take_append_drop k (idsA S.an), List.nodup_append] at h4
      refine h4.2.2 _ hm _ ?_ rfl
      rw [List.drop_eq_getElem_cons hka, hkk]
      exact List.mem_cons_self
  · refine h.perm.subset (List.mem_append_right _ ?_)
    unfold tot
    exact List.mem_append_right _ (by rw [← hkk]; exact List.getElem_mem hka)
theorem Once.count {b a : List Int} {S : SesS} (h : Once b a S) (hz : S.an = []) : a.length + S.rq.length = b.length := by
  have := h.perm.length_eq
  unfold tot at this
  rw [hz] at this
  simpa [idsR, idsA] using this
/-- Taking and finishing the first request makes the list shorter. -/
theorem drain_step {S : SesS} (h : Good S) (l : List Vn) (t : ByteArray) (hn : (nextS S l).rq ≠ []) : ∀ r, (nextS S l).rq.head? = some r → (finS (nextS S l) r.id 0 t l).rq.length + 1 ≤ S.rq.length := by
  intro r hr
  have hrun : (nextS S l).run = true := by
    unfold nextS at hn ⊢
    split
    · assumption
    · rename_i hx
      rw [if_neg hx] at hn
      simpa [dropS] using hn
  have hlen : (nextS S l).rq.length ≤ S.rq.length := by
    unfold nextS
    split
    · exact Nat.le_refl _
    · exact (List.dropWhile_sublist _).length_le
  generalize nextS S l = T at *
  obtain ⟨rq, run, last, an⟩ := T
  simp only at hrun hlen hr
  subst hrun
  cases rq with
  | nil => simp at hr
  | cons x xs =>
    simp only [List.head?_cons, Option.some.injEq] at hr
    subst hr
    unfold finS
    simp only [List.length_cons] at hlen
    simp only [if_true]
    have key : ∀ e (t : ByteArray), (ansS ⟨x :: xs, true, last, an⟩ 0 e t).rq.length + 1 ≤ S.rq.length := by
      intro e t
      rw [ans_eq (r := x) rfl]
      simpa using hlen
    split
    · exact key _ _
    · exact key _ _
theorem next_le (S : SesS) (l : List Vn) : (nextS S l).rq.length ≤ S.rq.length := by
  unfold nextS
  split
  · exact Nat.le_refl _
  · exact (List.dropWhile_sublist _).length_le
end Go.Proofs.Ytaonhmdifinadaa
