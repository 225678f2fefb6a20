/-
  Contracts of the reference's package of documents: part, Positions.
-/
import Derived.Test.YtmonpnikdheokaaSxC
import Derived.Test.YtmonpnikdheokaaSxE
namespace Go.Proofs.Ytmonpnikdheokaa
open Go Go.Proofs
open Go.RowKit
set_option linter.unusedVariables false
set_option linter.unusedSimpArgs false

set_option maxRecDepth 100000 in
set_option maxHeartbeats 2000000 in
theorem part_any (a : Option Addr) (c : Nat) (xs : List Int) (k m : Nat) (w : World) (hx : SliceAt w a c (xs.map intV)) (hk : k ≤ 1000000) (hm : m ≤ 1000000) :
    Calls Try.prog 59 #[.slice a xs.length c, .int .i64 k, .int .i64 m] w fun e w' => ∃ (a' : Option Addr) (c' : Nat) (ys : List Int), e = .returned (.slice a' ys.length c') ∧ SliceAt w a' c' (ys.map intV) ∧ (∀ n ∈ ys, n ∈ xs) ∧ w = w' := by
  have hl := hx.len
  have hle := hx.le
  have hcm := hx.max
  simp only [List.length_map] at hl hle
  obtain ⟨p, hp⟩ : ∃ p : Nat, min (k : Int) (xs.length : Int) = (p : Int) := ⟨min k xs.length, by omega⟩
  obtain ⟨q, hq⟩ : ∃ q : Nat, min (xs.length : Int) ((p : Int) + (m : Int)) = (q : Int) := ⟨min xs.length (p + m), by omega⟩
  have h1 : p ≤ q := by omega
  have h2 : q ≤ xs.length := by omega
  have i1 : IntKind.i64.wrap ((p : Int) + (m : Int)) = (p : Int) + (m : Int) := IntWalk.i64_in _ (by omega)
  have g1 : (p : Int) ≤ (q : Int) := by omega
  have g2 : (q : Int) ≤ (c : Int) := by omega
  have g3 : (0 : Int) ≤ (p : Int) := by omega
  have HX := Lib.hid hx
  clear hx
  go_enter Try.func59, Try.ntmps59
  go_wp2_with fail
  · go_ret
    refine ⟨a, 0, [], by simp; omega, ⟨by simp, by omega, fun _ => rfl, fun h => by simp at h⟩, fun n hn => by simp at hn, rfl⟩
  · go_ret
    refine ⟨Option.map (fun x => x.add p) a, c - p, (xs.drop p).take (q - p), ?_, ⟨?_, by omega, ?_, fun hp0 => ?_⟩, fun n hn => List.mem_of_mem_drop (List.mem_of_mem_take hn), rfl⟩
    · have : ((xs.drop p).take (q - p)).length = q - p := by rw [List.length_take, List.length_drop]; omega
      rw [this]
      first | rfl | (congr 2; omega)
    · simp only [List.length_map, List.length_take, List.length_drop]; omega
    · intro ha
      have ha' : a = none := by cases a with
        | none => rfl
        | some x => simp at ha
      have := HX.out.2.2.1 ha'
      omega
    · simp only [List.length_map, List.length_take, List.length_drop] at hp0
      obtain ⟨b, off, rfl⟩ := HX.out.addr (by simp; omega)
      refine ⟨b, off + p, by simp [Addr.add_lit], fun i v hi => ?_⟩
      rw [List.getElem?_map, List.getElem?_take] at hi
      split at hi
      · rw [List.getElem?_drop] at hi
        have h3 := HX.out.cell (i := p + i) (v := v) (by rw [List.getElem?_map]; exact hi)
        rw [show off + p + i = off + (p + i) by omega]
        exact h3
      · simp at hi
end Go.Proofs.Ytmonpnikdheokaa
