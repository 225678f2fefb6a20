/-
  A parameter that is a slice of edits, opened: it reads as a list of edits.
-/
import Derived.Test.YtpncjgcdiomloaaEdA
import Derived.Deep.Slices
import Derived.Deep.Fields
import Derived.ChangeSame
import Derived.ChangeArms
namespace Go.Proofs.Ytpncjgcdiomloaa
open Go Go.Proofs
open Go.RowKit
open Go.ChangeShapes Go.WideShapes Go.Deep
set_option linter.unusedVariables false
set_option linter.unusedSimpArgs false

/-- An edit as a value may hold it. -/
def EdW (e : Ed) : Prop := -9223372036854775808 ≤ e.f ∧ e.f ≤ 9223372036854775807 ∧ -9223372036854775808 ≤ e.t ∧ e.t ≤ 9223372036854775807 ∧ e.x.length ≤ 9223372036854775807
theorem len3 {l : List Value} (h : l.length = 3) : ∃ c0 c1 c2, l = [c0, c1, c2] := by
  match l, h with
  | [a, b, c], _ => exact ⟨a, b, c, rfl⟩
theorem list_of {α : Type} {P : Nat → α → Prop} : ∀ n : Nat, (∀ i, i < n → ∃ e, P i e) → ∃ es : List α, es.length = n ∧ ∀ i e, es[i]? = some e → P i e
  | 0, _ => ⟨[], rfl, fun i e h => by simp at h⟩
  | n + 1, h => by
    obtain ⟨es, hl, he⟩ := list_of n fun i hi => h i (by omega)
    obtain ⟨x, hx⟩ := h n (by omega)
    refine ⟨es ++ [x], by simp [hl], fun i e hi => ?_⟩
    rcases Nat.lt_or_ge i es.length with hlt | hge
    · rw [List.getElem?_append_left hlt] at hi
      exact he i e hi
    · rw [List.getElem?_append_right hge] at hi
      have hlt := (List.getElem?_eq_some_iff.1 hi).1
      simp only [List.length_singleton] at hlt
      obtain rfl : i = n := by omega
      rw [hl, Nat.sub_self, List.getElem?_cons_zero, Option.some.injEq] at hi
      subst hi
      exact hx
section
variable {H : Type} {enc : TypeId × Value → H} {w : World} {base : Nat} {spare : Nat → Bool} {held : Bool}
theorem ed_fields : ∃ f0 f1 f2 : Field, Try.prog.underlying 39 = some (.struct #[f0, f1, f2]) ∧ f0.type = 3 ∧ f1.type = 3 ∧ f2.type = 9 ∧ oneCellFields Try.prog #[f0, f1, f2] = true := ⟨_, _, _, Try.underlying39, rfl, rfl, rfl, by kernel_rfl⟩
theorem ed_cellsOf : Try.prog.cellsOf 39 = 3 := by kernel_rfl
set_option maxRecDepth 100000 in
theorem open_eds {fuel : Nat} {cs : List Value} {x : DataW H × List MemPlace} (h : DataW.trod enc Try.prog w base spare held fuel 22 cs = some x) :
    ∃ a cap es, cs = [.slice a es.length cap] ∧ EdsAt w a cap es ∧ ∀ e ∈ es, EdW e := by
  obtain ⟨F0, F1, F2, hs, t0, t1, t2, hone⟩ := ed_fields
  rcases open_slice Try.underlying22 h with ⟨rfl, _⟩ | ⟨a, len, cap, m, n, D, Pl, rfl, hb, hl, hm, hmm, hx, hi⟩
  · exact ⟨none, 0, [], rfl, EdsAt.nil w, fun e he => by simp at he⟩
  · have hlm : len ≤ m := by rw [hmm]; split <;> omega
    have key : ∀ i, i < len → ∃ e : Ed, w.cell? (a.add (i * 3)) = some (.int .i64 e.f) ∧ w.cell? ((a.add (i * 3)).add 1) = some (.int .i64 e.t) ∧ w.cell? ((a.add (i * 3)).add 2) = some (.string (strB e.x)) ∧ EdW e := by
      intro i hilt
      obtain ⟨cs', hc, ht'⟩ := hi i (by omega)
      rw [ed_cellsOf] at hc
      obtain ⟨ys, n', hn', hy, hlen, hyl, hf⟩ := DataW.trod_struct hs ht'
      obtain ⟨_, hcl, hat⟩ := World.cells?_some hc
      obtain ⟨c0, c1, c2, rfl⟩ : ∃ c0 c1 c2, cs' = [c0, c1, c2] := len3 hcl
      obtain ⟨o0, k0⟩ := hone_of hone 0 F0 rfl
      obtain ⟨o1, k1⟩ := hone_of hone 1 F1 rfl
      obtain ⟨o2, k2⟩ := hone_of hone 2 F2 rfl
      rw [t0] at k0
      rw [t1] at k1
      rw [t2] at k2
      have g0 := hf 0 F0 rfl
      have g1 := hf 1 F1 rfl
      have g2 := hf 2 F2 rfl
      simp only [o0, o1, o2, t0, t1, t2, k0, k1, k2, List.drop_zero, List.drop_succ_cons, List.take_succ_cons, List.take_zero] at g0 g1 g2
      have l0 : ys[0]? = some (ys[0]'(by rw [hyl]; simp)) := List.getElem?_eq_getElem _
      have l1 : ys[1]? = some (ys[1]'(by rw [hyl]; simp)) := List.getElem?_eq_getElem _
      have l2 : ys[2]? = some (ys[2]'(by rw [hyl]; simp)) := List.getElem?_eq_getElem _
      obtain ⟨f, e0, _, w0⟩ := DataW.trod_int Try.underlying3 (g0.trans l0)
      obtain ⟨t, e1, _, w1⟩ := DataW.trod_int Try.underlying3 (g1.trans l1)
      obtain ⟨s, e2, _, w2⟩ := DataW.trod_string Try.underlying9 (g2.trans l2)
      obtain rfl : c0 = .int .i64 f := by simpa using e0
      obtain rfl : c1 = .int .i64 t := by simpa using e1
      obtain rfl : c2 = .string s := by simpa using e2
      have b0 := wf_i64 w0
      have b1 := wf_i64 w1
      have h0 := hat 0 (by decide)
      have h1 := hat 1 (by decide)
      have h2 := hat 2 (by decide)
      refine ⟨⟨f, t, s.data.toList⟩, ?_, h1, ?_, b0.1, b0.2, b1.1, b1.2, by simpa [maxLen] using w2⟩
      · have e : (a.add (i * 3)).add 0 = a.add (i * 3) := by unfold Addr.add; simp
        rw [e] at h0
        exact h0
      · have e : strB s.data.toList = s := by unfold strB; simp
        rw [e]
        exact h2
    obtain ⟨es, hel, hes⟩ := list_of len key
    refine ⟨some a, cap, es, by rw [hel], ⟨edCs_len es, by omega, by simpa [maxLen] using hm, by simp, fun hp => ?_⟩, fun e he => ?_⟩
    · have hp0 : 0 < es.length := by rw [edCs_len] at hp; omega
      obtain ⟨b, off, spot⟩ := a
      have h0 := (hes 0 _ (List.getElem?_eq_getElem hp0)).1
      have hspot : spot = none := by simpa [Addr.add] using World.cell?_spot h0
      subst hspot
      refine ⟨b, off, rfl, fun q v hq => ?_⟩
      have hql := (List.getElem?_eq_some_iff.1 hq).1
      rw [edCs_len] at hql
      have hk : q / 3 < es.length := by omega
      obtain ⟨c0, c1, c2, _⟩ := hes (q / 3) _ (List.getElem?_eq_getElem hk)
      obtain ⟨d0, d1, d2⟩ := edCs_get (List.getElem?_eq_getElem hk)
      simp only [Addr.add_lit] at c0 c1 c2
      have hcase : q = q / 3 * 3 ∨ q = q / 3 * 3 + 1 ∨ q = q / 3 * 3 + 2 := by omega
      rcases hcase with e | e | e
      · rw [e, d0] at hq
        simp only [Option.some.injEq] at hq
        rw [e, c0, hq]
      · rw [e, d1] at hq
        simp only [Option.some.injEq] at hq
        rw [e, ← Nat.add_assoc, c1, hq]
      · rw [e, d2] at hq
        simp only [Option.some.injEq] at hq
        rw [e, ← Nat.add_assoc, c2, hq]
    · obtain ⟨i, hi2⟩ := List.getElem?_of_mem he
      exact (hes i e hi2).2.2.2
end
end Go.Proofs.Ytpncjgcdiomloaa
