/-
  Edits by positions as records; a parameter that is a slice of them, opened.
-/
import Derived.Test.YtclamcaanoieiaaPosL
import Derived.Test.YtclamcaanoieiaaRec
import Derived.Deep.Slices
import Derived.Deep.Fields
import Derived.ChangeSame
import Derived.ChangeArms
namespace Go.Proofs.Ytclamcaanoieiaa
open Go Go.Proofs
open Go.RowKit
open Go.ChangeShapes Go.WideShapes Go.Deep
set_option linter.unusedVariables false
set_option linter.unusedSimpArgs false

structure PEd where
  sl : Int
  su : Int
  el : Int
  eu : Int
  x : ByteArray
def pedC (e : PEd) : List Value := [.int .i64 e.sl, .int .i64 e.su, .int .i64 e.el, .int .i64 e.eu, .string e.x]
theorem pedZ (e : PEd) : (pedC e).length = 5 := rfl
theorem pedO (e : PEd) : ∀ u ∈ pedC e, u.oneCell' = true := by
  intro u hu
  simp only [pedC, List.mem_cons, List.not_mem_nil, or_false] at hu
  rcases hu with rfl | rfl | rfl | rfl | rfl <;> rfl
abbrev PEdsAt := RecAt pedC 5
theorem PEds.cells {w : World} {b off cap : Nat} {es : List PEd} (h : PEdsAt w (some ⟨b, off, none⟩) cap es) {k : Nat} {e : PEd} (hk : es[k]? = some e) :
    w.cell? ⟨b, off + k * 5, none⟩ = some (.int .i64 e.sl) ∧ w.cell? ⟨b, off + k * 5 + 1, none⟩ = some (.int .i64 e.su) ∧ w.cell? ⟨b, off + k * 5 + 2, none⟩ = some (.int .i64 e.el) ∧
    w.cell? ⟨b, off + k * 5 + 3, none⟩ = some (.int .i64 e.eu) ∧ w.cell? ⟨b, off + k * 5 + 4, none⟩ = some (.string e.x) :=
  ⟨RecAt.cell0 pedZ h hk rfl, RecAt.cell pedZ h hk rfl, RecAt.cell pedZ h hk rfl, RecAt.cell pedZ h hk rfl, RecAt.cell pedZ h hk rfl⟩
def PEdW (e : PEd) : Prop := (-9223372036854775808 ≤ e.sl ∧ e.sl ≤ 9223372036854775807) ∧ (-9223372036854775808 ≤ e.su ∧ e.su ≤ 9223372036854775807) ∧ (-9223372036854775808 ≤ e.el ∧ e.el ≤ 9223372036854775807) ∧ (-9223372036854775808 ≤ e.eu ∧ e.eu ≤ 9223372036854775807) ∧ e.x.size ≤ 9223372036854775807
theorem len5 {l : List Value} (h : l.length = 5) : ∃ c0 c1 c2 c3 c4, l = [c0, c1, c2, c3, c4] := by
  match l, h with
  | [a, b, c, d, e], _ => exact ⟨a, b, c, d, e, rfl⟩
theorem list_of {α : Type} {P : Nat → α → Prop} : ∀ n : Nat, (∀ i, i < n → ∃ e, P i e) → ∃ es : List α, es.length = n ∧ ∀ i e, es[i]? = some e → P i e
  | 0, _ => ⟨[], rfl, fun i e h => by simp at h⟩
  | n + 1, h => by
    obtain ⟨es, hl, he⟩ := list_of n fun i hi => h i (by omega)
    obtain ⟨x, hx⟩ := h n (by omega)
    refine ⟨es ++ [x], by simp [hl], fun i e hi => ?_⟩
    rcases Nat.lt_or_ge i es.length with hlt | hge
    · rw [List.getElem?_append_left hlt] at hi
      exact he i e hi
    · rw [List.getElem?_append_right hge] at hi
      have hlt := (List.getElem?_eq_some_iff.1 hi).1
      simp only [List.length_singleton] at hlt
      obtain rfl : i = n := by omega
      rw [hl, Nat.sub_self, List.getElem?_cons_zero, Option.some.injEq] at hi
      subst hi
      exact hx
section
variable {H : Type} {enc : TypeId × Value → H} {w : World} {base : Nat} {spare : Nat → Bool} {held : Bool}
theorem pos_fields : ∃ f0 f1 : Field, Try.prog.underlying 32 = some (.struct #[f0, f1]) ∧ f0.type = 3 ∧ f1.type = 3 ∧ oneCellFields Try.prog #[f0, f1] = true := ⟨_, _, Try.underlying32, rfl, rfl, by kernel_rfl⟩
theorem ped_fields : ∃ f0 f1 f2 : Field, Try.prog.underlying 45 = some (.struct #[f0, f1, f2]) ∧ f0.type = 32 ∧ f1.type = 32 ∧ f2.type = 9 ∧ f0.offset = 0 ∧ f1.offset = 2 ∧ f2.offset = 4 := ⟨_, _, _, Try.underlying45, rfl, rfl, rfl, rfl, rfl, rfl⟩
theorem ped_cellsOf : Try.prog.cellsOf 45 = 5 := by kernel_rfl
theorem pos_cellsOf : Try.prog.cellsOf 32 = 2 := by kernel_rfl
theorem str_cellsOf : Try.prog.cellsOf 9 = 1 := by kernel_rfl
theorem pos_ints {n : Nat} {c0 c1 : Value} {y : DataW H × List MemPlace} (h : DataW.trod enc Try.prog w base spare held n 32 [c0, c1] = some y) :
    ∃ a b : Int, c0 = .int .i64 a ∧ c1 = .int .i64 b ∧ (-9223372036854775808 ≤ a ∧ a ≤ 9223372036854775807) ∧ (-9223372036854775808 ≤ b ∧ b ≤ 9223372036854775807) := by
  obtain ⟨F0, F1, hs, t0, t1, hone⟩ := pos_fields
  obtain ⟨y0, y1, m, hx, _, g0, g1⟩ := trod_struct2 hs h
  obtain ⟨o0, k0⟩ := hone_of hone 0 F0 rfl
  obtain ⟨o1, k1⟩ := hone_of hone 1 F1 rfl
  rw [t0] at k0
  rw [t1] at k1
  simp only [o0, o1, t0, t1, k0, k1, List.drop_zero, List.drop_succ_cons, List.take_succ_cons, List.take_zero] at g0 g1
  obtain ⟨f, e0, _, w0⟩ := DataW.trod_int Try.underlying3 g0
  obtain ⟨t, e1, _, w1⟩ := DataW.trod_int Try.underlying3 g1
  exact ⟨f, t, by simpa using e0, by simpa using e1, wf_i64 w0, wf_i64 w1⟩
set_option maxRecDepth 100000 in
theorem open_peds {fuel : Nat} {cs : List Value} {x : DataW H × List MemPlace} (h : DataW.trod enc Try.prog w base spare held fuel 43 cs = some x) :
    ∃ a cap es, cs = [.slice a es.length cap] ∧ PEdsAt w a cap es ∧ ∀ e ∈ es, PEdW e := by
  obtain ⟨F0, F1, F2, hs, t0, t1, t2, o0, o1, o2⟩ := ped_fields
  rcases open_slice Try.underlying43 h with ⟨rfl, _⟩ | ⟨a, len, cap, m, n, D, Pl, rfl, hb, hl, hm, hmm, hx, hi⟩
  · exact ⟨none, 0, [], rfl, RecAt.nil w, fun e he => by simp at he⟩
  · have hlm : len ≤ m := by rw [hmm]; split <;> omega
    have key : ∀ i, i < len → ∃ e : PEd, w.cell? (a.add (i * 5)) = some (.int .i64 e.sl) ∧ (∀ j v, (pedC e)[j]? = some v → w.cell? ((a.add (i * 5)).add j) = some v) ∧ PEdW e := by
      intro i hilt
      obtain ⟨cs', hc, ht'⟩ := hi i (by omega)
      rw [ped_cellsOf] at hc
      obtain ⟨ys, n', hn', hy, hlen, hyl, hf⟩ := DataW.trod_struct hs ht'
      obtain ⟨_, hcl, hat⟩ := World.cells?_some hc
      obtain ⟨c0, c1, c2, c3, c4, rfl⟩ : ∃ c0 c1 c2 c3 c4, cs' = [c0, c1, c2, c3, c4] := len5 hcl
      have g0 := hf 0 F0 rfl
      have g1 := hf 1 F1 rfl
      have g2 := hf 2 F2 rfl
      simp only [o0, o1, o2, t0, t1, t2, pos_cellsOf, str_cellsOf, List.drop_zero, List.drop_succ_cons, List.take_succ_cons, List.take_zero] at g0 g1 g2
      have l0 : ys[0]? = some (ys[0]'(by rw [hyl]; simp)) := List.getElem?_eq_getElem _
      have l1 : ys[1]? = some (ys[1]'(by rw [hyl]; simp)) := List.getElem?_eq_getElem _
      have l2 : ys[2]? = some (ys[2]'(by rw [hyl]; simp)) := List.getElem?_eq_getElem _
      obtain ⟨sl, su, rfl, rfl, hsl, hsu⟩ := pos_ints (g0.trans l0)
      obtain ⟨el, eu, rfl, rfl, hel, heu⟩ := pos_ints (g1.trans l1)
      obtain ⟨s, e2, _, w2⟩ := DataW.trod_string Try.underlying9 (g2.trans l2)
      obtain rfl : c4 = .string s := by simpa using e2
      refine ⟨⟨sl, su, el, eu, s⟩, ?_, fun j v hj => ?_, hsl, hsu, hel, heu, by simpa [maxLen] using w2⟩
      · have h0 := hat 0 (by decide)
        have e : (a.add (i * 5)).add 0 = a.add (i * 5) := by unfold Addr.add; simp
        rw [e] at h0
        exact h0
      · have hj5 := (List.getElem?_eq_some_iff.1 hj).1
        exact (hat j hj5).trans hj
    obtain ⟨es, hel, hes⟩ := list_of len key
    refine ⟨some a, cap, es, by rw [hel], ⟨rec_len pedZ es, by omega, by simpa [maxLen] using hm, by simp, fun hp => ?_⟩, fun e he => ?_⟩
    · have hp0 : 0 < es.length := by rw [rec_len pedZ] at hp; omega
      obtain ⟨b, off, spot⟩ := a
      have h0 := (hes 0 _ (List.getElem?_eq_getElem hp0)).1
      have hspot : spot = none := by simpa [Addr.add] using World.cell?_spot h0
      subst hspot
      refine ⟨b, off, rfl, fun q v hq => ?_⟩
      have hql := (List.getElem?_eq_some_iff.1 hq).1
      rw [rec_len pedZ] at hql
      have hk : q / 5 < es.length := by omega
      have hc := (hes (q / 5) _ (List.getElem?_eq_getElem hk)).2.1
      have hlt5 : q % 5 < 5 := Nat.mod_lt _ (by decide)
      have hj : (pedC es[q / 5])[q % 5]? = some ((pedC es[q / 5])[q % 5]'(by rw [pedZ]; exact hlt5)) := List.getElem?_eq_getElem _
      have h1 := hc _ _ hj
      have h2 := rec_get pedZ (List.getElem?_eq_getElem hk) hj
      rw [show q / 5 * 5 + q % 5 = q by omega, hq] at h2
      simp only [Addr.add_lit] at h1
      rw [show off + q = off + q / 5 * 5 + q % 5 by omega, h1, h2]
    · obtain ⟨i, hi2⟩ := List.getElem?_of_mem he
      exact (hes i e hi2).2.2
end
end Go.Proofs.Ytclamcaanoieiaa
