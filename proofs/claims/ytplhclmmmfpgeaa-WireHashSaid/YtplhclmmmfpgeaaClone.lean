/-
  The contract of slices.Clone at bytes.
-/
import Derived.Test.YtplhclmmmfpgeaaRefA
import Derived.Test.YtplhclmmmfpgeaaLab
import Derived.Deep.RegionHeld3
import Derived.Deep.RegionLaw
import Derived.Lib.SliceRun
namespace Go.Proofs.Ytplhclmmmfpgeaa
open Go Go.Proofs
open Go.RowKit
set_option linter.unusedVariables false

set_option maxRecDepth 100000 in
set_option maxHeartbeats 1000000 in
theorem clone_any (a : Option Addr) (c : Nat) (xs : List UInt8) (w : World) (hx : SliceAt w a c (xs.map byteV)) (hl : xs.length ≤ 70368744177664) :
    Calls Try.prog 39 #[.slice a xs.length c] w fun e w' => ∃ v, e = .returned v ∧ w'.ownsRow w.heap.size 5 1 v xs.length (xs.map byteV) ∧ Below w.heap.size w w' := by
  have hle := hx.le
  cases a with
  | none =>
    have hc : c = 0 := hx.2.2.1 rfl
    subst hc
    obtain rfl : xs = [] := List.eq_nil_of_length_eq_zero (by simpa using hle)
    clear hx hle
    have q := fun wx => Lib.run_eql_slice_nil (P := Try.prog) wx 24 5 none 0 0 0 0 Try.underlying24
    go_enter Try.func39, Try.ntmps39
    go_wp2
    go_ret
    exact ⟨_, rfl, World.ownsRow_nil _ _ _ _, Below.refl _ _⟩
  | some ad =>
    have hrow := hx.rowMap
    clear hx hle
    obtain ⟨vs, hvs⟩ : ∃ vs, xs.map byteV = vs := ⟨_, rfl⟩
    have h1 : ∀ u ∈ vs, u.oneCell' = true := by rw [← hvs]; exact oneCell_map (fun _ => rfl) xs
    rw [hvs] at hrow ⊢
    clear hvs
    generalize xs.length = n at *
    have q := fun wx => Lib.run_eql_slice_nil (P := Try.prog) wx 24 5 (some ad) n c 0 0 Try.underlying24
    have hown : (w.alloc (.cells #[] 5)).ownsRow w.heap.size 5 1 (.slice (some ⟨w.heap.size, 0, none⟩) 0 0) 0 [] := World.ownsRow_lit w #[] 0 (Nat.le_refl _) (by decide) rfl
    go_enter Try.func39, Try.ntmps39
    go_wp2_with (at_builtin; refine wpList_append_src _ rfl _ _ 24 rfl elemB w.heap.size _ 0 _ rfl hown (some ad) n c vs rfl (hrow.below ((Below.refl _ w).alloc (Nat.le_refl _) _)) h1 (by omega) (by omega) (by simp) ?_)
    intro v' w' hown' hbel' hgrow
    go_wp2
    go_ret
    refine ⟨_, rfl, by simpa using hown', ((Below.refl _ w).alloc (Nat.le_refl _) _).trans hbel'⟩
end Go.Proofs.Ytplhclmmmfpgeaa
