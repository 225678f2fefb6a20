/-
  A call in the list of calls.
-/
import Derived.Test.YtaonhmdifinadaaSesJ
namespace Go.Proofs.Ytaonhmdifinadaa
open Go Go.Proofs
open Go.RowKit
set_option linter.unusedVariables false
set_option linter.unusedSimpArgs false

/-- The cells of call i. -/
theorem OpsL.cells {w : World} {o : Nat → Nat} {lo : Nat} {v : Value} {ops : List OpM} (h : OpsL w o lo v ops) {i : Nat} {m : OpM} (hi : ops[i]? = some m) :
    ∃ g c, v = .slice (some ⟨g, 0, none⟩) ops.length c ∧ ops.length ≤ c ∧ c ≤ 9223372036854775807 ∧ OpAt w o m ∧ ∀ j u, (opC m)[j]? = some u → w.cell? ⟨g, i * 10 + j, none⟩ = some u := by
  have hp : 0 < ops.length := by have := (List.getElem?_eq_some_iff.1 hi).1; omega
  obtain ⟨g, c, rfl, hog, hgl⟩ := h.1.own hp
  obtain ⟨_, hr⟩ := h.1.recAt
  refine ⟨g, c, rfl, hr.le, hr.cap_le, h.2 m (List.mem_of_getElem? hi), fun j u hu => ?_⟩
  have := hr.cell opZ hi hu
  simpa using this
theorem opB_kind {m : OpM} (h : OpB m) : m.kind = 0 ∨ m.kind = 1 ∨ m.kind = 2 ∨ m.kind = 3 ∨ m.kind = 4 := by
  have := h.k0
  have := h.k1
  omega
end Go.Proofs.Ytaonhmdifinadaa
