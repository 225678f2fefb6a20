/-
  A row of bytes that has been made anew: its bytes, a byte replaced.
-/
import Derived.Test.YtmonpnikdheokaaLab
namespace Go.Proofs.Ytmonpnikdheokaa
open Go Go.Proofs
open Go.RowKit
set_option linter.unusedVariables false
set_option linter.unusedSimpArgs false

theorem xor_u8 (a b : UInt8) : bits BinOp.xor IntKind.u8 (a.toNat : Int) (b.toNat : Int) = (a ^^^ b).toNat := by
  have ha := a.toNat_lt
  have hb := b.toNat_lt
  rw [u8_xor_nat _ _ (by omega) (by omega), UInt8.toNat_xor]
theorem xor_ne {a d : UInt8} (h : d ≠ 0) : a ^^^ d ≠ a := by
  intro e
  apply h
  have : a ^^^ (a ^^^ d) = a ^^^ a := by rw [e]
  rwa [← UInt8.xor_assoc, UInt8.xor_self, UInt8.zero_xor] at this
theorem own_slice {w : World} {base : Nat} {v : Value} {l : List UInt8} (h : w.ownsRow base 5 1 v l.length (l.map byteV)) : ∃ a c, v = .slice a l.length c ∧ SliceAt w a c (l.map byteV) := ownsRow_sliceMap h
theorem own_first {w : World} {base : Nat} {v : Value} {l : List UInt8} (h : w.ownsRow base 5 1 v l.length (l.map byteV)) (hl : 1 ≤ l.length) : ∃ g c, v = .slice (some ⟨g, 0, none⟩) l.length c ∧ base ≤ g := by
  rcases h.2 with ⟨_, h0⟩ | ⟨g, cap, cur, rfl, hg, _⟩
  · omega
  · exact ⟨g, cap, rfl, hg⟩
theorem own_put {w : World} {base g cap k : Nat} {L : List UInt8} (h : w.ownsRow base 5 1 (.slice (some ⟨g, 0, none⟩) L.length cap) L.length (L.map byteV)) (d : UInt8) :
    (w.setCell ⟨g, k, none⟩ (byteV d)).ownsRow base 5 1 (.slice (some ⟨g, 0, none⟩) (L.set k d).length cap) (L.set k d).length ((L.set k d).map byteV) := by
  have := (h.stored k (byteV d)).1
  rw [← List.map_set] at this
  rw [List.length_set]
  exact this
theorem own_at {w : World} {base g cap : Nat} {L : List UInt8} (h : w.ownsRow base 5 1 (.slice (some ⟨g, 0, none⟩) L.length cap) L.length (L.map byteV)) : SliceAt w (some ⟨g, 0, none⟩) cap (L.map byteV) := by
  obtain ⟨a, c, hv, hs⟩ := ownsRow_sliceMap h
  simp only [Value.slice.injEq, true_and] at hv
  obtain ⟨rfl, rfl⟩ := hv
  exact hs
theorem own_oth {w : World} {base g cap n g' j : Nat} {xs : List Value} (h : w.ownsRow base 5 1 (.slice (some ⟨g, 0, none⟩) n cap) n xs) (hg : g ≠ g') (u : Value) :
    (w.setCell ⟨g', j, none⟩ u).ownsRow base 5 1 (.slice (some ⟨g, 0, none⟩) n cap) n xs := by
  refine ⟨h.1, ?_⟩
  rcases h.2 with ⟨h', _⟩ | ⟨g0, cap', cur, he, hb, hh, rest⟩
  · simp at h'
  · refine .inr ⟨g0, cap', cur, he, hb, ?_, rest⟩
    simp only [Value.slice.injEq, Option.some.injEq, Addr.mk.injEq, and_true, true_and] at he
    rw [Below.heap_setCell _ _ _ _ (by show g0 ≠ g'; omega)]
    exact hh
theorem own_byte {w : World} {base e g cap k : Nat} {L : List UInt8} (h : w.ownsRow base e 1 (.slice (some ⟨g, 0, none⟩) L.length cap) L.length (L.map byteV)) (hk : k < L.length) :
    w.cell? ⟨g, k, none⟩ = some (.int .u8 (L[k].toNat : Int)) := by
  rw [h.cellAt k (by omega), List.getElem?_map, List.getElem?_eq_getElem hk]; rfl
end Go.Proofs.Ytmonpnikdheokaa
