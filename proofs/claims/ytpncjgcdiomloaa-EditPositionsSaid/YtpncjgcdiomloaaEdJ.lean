/-
  Contracts: Same at equal lists; the generator Raw.
-/
import Derived.Test.YtpncjgcdiomloaaEdI
namespace Go.Proofs.Ytpncjgcdiomloaa
open Go Go.Proofs
open Go.RowKit
set_option linter.unusedVariables false
set_option linter.unusedSimpArgs false

set_option maxRecDepth 100000 in
set_option maxHeartbeats 4000000 in
theorem sameEd_any (a a' : Option Addr) (c c' : Nat) (es : List Ed) (w : World) (hx : EdsAt w a c es) (hy : EdsAt w a' c' es) :
    Calls Try.prog 21 #[.slice a es.length c, .slice a' es.length c'] w fun e w' => e = .returned (.bool true) ∧ Below w.heap.size w w' := by
  have hm := hx.max
  have hle := hx.le
  have hle' := hy.le
  have hcm := hx.2.2.1
  have hcm' := hy.2.2.1
  go_enter Try.func21, Try.ntmps21
  go_wp2
  go_loopw [5] (fun iv wr => ∃ (k : Nat), k ≤ es.length ∧ iv = .int .i64 k ∧ Below w.heap.size w wr) (fun iv _ => es.length - (intOf iv).toNat)
  case atStart => exact ⟨0, by omega, rfl, Below.refl _ _⟩
  case round =>
    obtain ⟨k, hk, rfl, hB⟩ := hrel
    by_cases hlt : k < es.length
    · obtain ⟨b, off, rfl⟩ := hx.addr (by omega)
      obtain ⟨b', off', rfl⟩ := hy.addr (by omega)
      obtain ⟨e, he⟩ : ∃ e, es[k]? = some e := ⟨es[k], List.getElem?_eq_getElem hlt⟩
      obtain ⟨f0, f1, f2⟩ := (hx.below hB).cells he
      obtain ⟨g0, g1, g2⟩ := (hy.below hB).cells he
      obtain ⟨ef, et, ex⟩ := e
      simp only at f0 f1 f2 g0 g1 g2
      generalize strB ex = sx at *
      clear he
      go_wp2
      go_quiet (fail)
      go_wp2
      go_roundw
      case rel => exact ⟨k + 1, by omega, by go_num, hB.trans (Below.drewN _)⟩
      case measure => simp [intOf]; omega
    · go_wp2
      go_ret
      exact ⟨rfl, hB⟩
end Go.Proofs.Ytpncjgcdiomloaa
