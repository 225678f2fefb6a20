/-
  The law SessionTexts, plain: the running request, the text that was taken, the answers with OK. No program in sight.
-/
import Derived.Test.YtaonhmdifinadaaSesA
import Derived.Test.YtaonhmdifinadaaSesG
namespace Go.Proofs.Ytaonhmdifinadaa
open Go Go.Proofs
open Go.RowKit
set_option linter.unusedVariables false
set_option linter.unusedSimpArgs false

/-- The list of the one document's version. -/
def verL (ver : Nat) : List Vn := [⟨⟨#[100]⟩, ver⟩]
theorem verL_fresh {ver : Nat} {r : Rq} (h : stale (verL ver) r = false) : r.ver = ver := by
  unfold verL at h
  rw [stale_cons] at h
  split at h
  · have : (ver : Int) = r.ver := by simpa using h
    exact this.symm
  · rw [stale_nil] at h; cases h
/-- What the law's loop keeps. -/
structure TxI (ver : Nat) (txt tb : ByteArray) (S : SesS) : Prop where
  good : Good S
  an : S.an = []
  run : S.run = true → ∀ r, S.rq.head? = some r → r.ver ≤ ver ∧ (r.ver = ver → tb = txt)
/-- After a call: every answer with OK bears the present version and text. -/
structure TxO (ver : Nat) (txt tb : ByteArray) (S : SesS) : Prop where
  good : Good S
  few : S.an.length ≤ 65
  ok : ∀ a ∈ S.an, a.err = 0 → a.ver = ver ∧ a.txt = txt
  run : S.run = true → ∀ r, S.rq.head? = some r → r.ver ≤ ver ∧ (r.ver = ver → tb = txt)
theorem TxI.new (txt tb : ByteArray) : TxI 0 txt tb newS := ⟨good_new, rfl, fun h => by cases h⟩
theorem TxI.out {ver : Nat} {txt tb : ByteArray} {S : SesS} (h : TxI ver txt tb S) : TxO ver txt tb S := ⟨h.good, by rw [h.an]; simp, fun a ha => by rw [h.an] at ha; simp at ha, h.run⟩
theorem TxO.clr {ver : Nat} {txt tb : ByteArray} {S : SesS} (h : TxO ver txt tb S) : TxI ver txt tb (clrS S) := ⟨good_clr h.good, rfl, h.run⟩
theorem TxI.grow {ver : Nat} {txt tb : ByteArray} {S : SesS} (h : TxI ver txt tb S) (t' : ByteArray) : TxO (ver + 1) t' tb S :=
  ⟨h.good, by rw [h.an]; simp, fun a ha => by rw [h.an] at ha; simp at ha, fun hr r hh => by have := (h.run hr r hh).1; exact ⟨by omega, fun e => by omega⟩⟩
theorem TxI.beg {ver : Nat} {txt tb : ByteArray} {S : SesS} (h : TxI ver txt tb S) (r : Rq) : TxO ver txt tb (begS S r) := by
  by_cases hb : begE S r = 0
  · have hs := begS_ok hb
    refine ⟨good_beg h.good r, by rw [hs]; show S.an.length ≤ 65; rw [h.an]; simp, fun a ha => ?_, fun hr x hx => ?_⟩
    · rw [hs] at ha
      have ha : a ∈ S.an := ha
      rw [h.an] at ha; simp at ha
    · rw [hs] at hr hx
      have hr' : S.run = true := hr
      have hne := h.good.run hr'
      refine h.run hr' x ?_
      have hx' : (S.rq ++ [r]).head? = some x := hx
      cases hq : S.rq with
      | nil => exact absurd hq hne
      | cons y ys => rw [hq] at hx'; simpa using hx'
  · rw [begS_no hb]; exact h.out
theorem TxI.next {ver : Nat} {txt tb : ByteArray} {S : SesS} (h : TxI ver txt tb S) : TxO ver txt (if (nextO S (verL ver)).isSome then txt else tb) (nextS S (verL ver)) := by
  have hg := good_next h.good (verL ver)
  by_cases hr : S.run = true
  · obtain ⟨h1, h2⟩ := next_run hr (verL ver)
    rw [h1, h2]
    exact h.out
  · have hs : nextS S (verL ver) = { dropS (verL ver) S with run := !(dropS (verL ver) S).rq.isEmpty } := by unfold nextS; rw [if_neg hr]
    have ho : nextO S (verL ver) = (S.rq.dropWhile (stale (verL ver))).head? := by unfold nextO; rw [if_neg hr]
    refine ⟨hg, ?_, ?_, ?_⟩
    · rw [hs]
      show (S.an ++ (S.rq.takeWhile (stale (verL ver))).map _).length ≤ 65
      rw [h.an, List.nil_append, List.length_map]
      have := (List.takeWhile_sublist (stale (verL ver)) (l := S.rq)).length_le
      have := h.good.len
      omega
    · intro a ha he
      rw [hs] at ha
      have ha : a ∈ S.an ++ (S.rq.takeWhile (stale (verL ver))).map fun r => (⟨r.id, 17, r.ver, ByteArray.empty⟩ : An) := ha
      rw [h.an, List.nil_append] at ha
      obtain ⟨x, _, rfl⟩ := List.mem_map.1 ha
      simp at he
    · intro _ r hh
      rw [hs] at hh
      have hh : (S.rq.dropWhile (stale (verL ver))).head? = some r := hh
      have hns : stale (verL ver) r = false := by
        cases hd : S.rq.dropWhile (stale (verL ver)) with
        | nil => rw [hd] at hh; simp at hh
        | cons y ys =>
          rw [hd] at hh
          obtain rfl : y = r := by simpa using hh
          have := List.head?_dropWhile_not (stale (verL ver)) S.rq
          rw [hd] at this
          simpa using this
      have hv := verL_fresh hns
      rw [ho, hh]
      exact ⟨by omega, fun _ => rfl⟩
theorem TxI.fin {ver : Nat} {txt tb : ByteArray} {S : SesS} (h : TxI ver txt tb S) {r : Rq} (hh : S.rq.head? = some r) : TxO ver txt tb (finS S r.id 0 tb (verL ver)) := by
  have hg := good_fin h.good r.id 0 tb (verL ver)
  cases hq : S.rq with
  | nil => rw [hq] at hh; simp at hh
  | cons y ys =>
    obtain rfl : y = r := by rw [hq] at hh; simpa using hh
    by_cases hr : S.run = true
    · obtain ⟨rq, run, last, an⟩ := S
      simp only at hq hr
      subst hq
      subst hr
      have hrun := h.run rfl y rfl
      have han : an = [] := h.an
      subst han
      by_cases hs : stale (verL ver) y = true
      · have hf : finS ⟨y :: ys, true, last, []⟩ y.id 0 tb (verL ver) = ⟨ys, false, last, [⟨y.id, 17, y.ver, ByteArray.empty⟩]⟩ := by
          simp [finS, hs, ansS]
        rw [hf] at hg ⊢
        exact ⟨hg, by simp, fun a ha he => by simp at ha; subst ha; simp at he, fun h => by cases h⟩
      · have hs' : stale (verL ver) y = false := by simpa using hs
        have hf : finS ⟨y :: ys, true, last, []⟩ y.id 0 tb (verL ver) = ⟨ys, false, last, [⟨y.id, 0, y.ver, tb⟩]⟩ := by
          simp [finS, hs', ansS]
        have hv := verL_fresh hs'
        rw [hf] at hg ⊢
        exact ⟨hg, by simp, fun a ha he => by simp at ha; subst ha; exact ⟨hv, hrun.2 hv⟩, fun h => by cases h⟩
    · have hf : finS S y.id 0 tb (verL ver) = S := by
        unfold finS
        have : S.run = false := by simpa using hr
        rw [this]
      rw [hf]; exact h.out
end Go.Proofs.Ytaonhmdifinadaa
