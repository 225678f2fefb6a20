/-
  The law schemalenslaw37.SessionArguments answers true for every input, and leaves its arguments as they were. Conditions: none.
  Written by a program of mine after the kit's shell; the walk stands in my other texts.
-/
import Derived.Test.YtaonhmdifinadaaRows
import Derived.Test.YtaonhmdifinadaaSesU
import Derived.Test.YtaonhmdifinadaaAgg6
import Derived.WalkKit
import Derived.ProofKit
import Derived.OpenShut
import Derived.ShutString
import Derived.ChangeOld
import Derived.Below
import Derived.Lib.SmallJoins
import Derived.ChangeArms
import Derived.ChangeSame
namespace Go.Proofs.Ytaonhmdifinadaa.sessionArguments
open Go.ChangeShapes Go.WideShapes Go.ChangeAt Go.RowKit
open Go.ChangeMaps (open_string shut_string)
set_option linter.unusedVariables false

theorem own : ownKnob Try.prog.godebug = none := by kernel_rfl
theorem laidOut : laidOutB Try.prog = true := by kernel_rfl
theorem reqCells : Try.prog.cellsOf 44 = 6 := by kernel_rfl

set_option maxRecDepth 100000 in
theorem lifted (os : Os) (started : os.Started) (H : Type) (enc : TypeId × Value → H) :
    ReturnsInHanded {} Try.checked os 6 .any (Rows.sessionArgumentsSpec.pre6 enc Try.prog Try.f6 Rows.sessionArgumentsRow.domain false) (Rows.sessionArgumentsSpec.post enc Try.prog Try.f6 false true false false) := by
  refine returnsInHanded_of_change (C := Try.checked) own started (by kernel_rfl) Try.func6
    (ChangeSpec.witness6 (enc := enc) (C := Try.checked) false ⟨#[], #[.agg #[.int .i64 0, .int .i64 0, .string ByteArray.empty, .int .i64 0, .int .i64 0, .string ByteArray.empty], .int .i64 0, .int .i64 0, .int .i64 0], []⟩ 8 (by kernel_rfl) (by kernel_rfl) (by kernel_rfl) (by kernel_rfl)) ?_
  intro W base args ds gs before hval0 hW hcnd _
  have hval : ∀ (j : Nat) t v, Try.f6.params[j]? = some t → args[j]? = some v → Value.okWide Try.prog W .any base t v := hval0
  have hW' := hW
  obtain ⟨p, q, hA0, hV, rfl, hfz, hnd⟩ := hW
  have hA : DataW.TrodAll enc Try.prog W 0 (fun _ => true) true Try.f6.params.toList args.toList ds p := hA0
  rw [Try.params6] at hA hval
  obtain ⟨v0, vs0, d0, ds0, p0, q0, hargs, rfl, rfl, h0, r0⟩ := trodAll_cons hA
  obtain ⟨v1, vs1, d1, ds1, p1, q1, rfl, rfl, rfl, h1, r1⟩ := trodAll_cons r0
  obtain ⟨v2, vs2, d2, ds2, p2, q2, rfl, rfl, rfl, h2, r2⟩ := trodAll_cons r1
  obtain ⟨v3, vs3, d3, ds3, p3, q3, rfl, rfl, rfl, h3, r3⟩ := trodAll_cons r2
  obtain ⟨rfl, rfl, rfl⟩ := trodAll_nil r3
  obtain rfl : args = #[v0, v1, v2, v3] := by cases args; simp_all
  obtain ⟨rfl, rfl⟩ := trodVars_none hV
  obtain ⟨pa0, pb0, pc0, pd0, pe0, pf0, ya0, yb0, yc0, yd0, ye0, yf0, pm0, rfl, rfl, rfl, hya0, hyb0, hyc0, hyd0, hye0, hyf0⟩ := open_agg6 Try.underlying44 (by kernel_rfl) reqCells (hval 0 44 v0 rfl rfl) h0
  obtain ⟨a0, ea0, rfl, wa0⟩ := DataW.trod_int Try.underlying3 hya0
  obtain ⟨b0, eb0, rfl, wb0⟩ := DataW.trod_int Try.underlying3 hyb0
  obtain ⟨c0, ec0, rfl, wc0⟩ := DataW.trod_string Try.underlying9 hyc0
  obtain ⟨d0, ed0, rfl, wd0⟩ := DataW.trod_int Try.underlying3 hyd0
  obtain ⟨e0, ee0, rfl, we0⟩ := DataW.trod_int Try.underlying3 hye0
  obtain ⟨f0, ef0, rfl, wf0⟩ := DataW.trod_string Try.underlying9 hyf0
  simp at ea0 eb0 ec0 ed0 ee0 ef0
  subst ea0 eb0 ec0 ed0 ee0 ef0
  obtain ⟨a1, rfl, rfl, rfl, w1⟩ := open_int Try.underlying3 (hval 1 3 v1 rfl rfl) h1
  obtain ⟨a2, rfl, rfl, rfl, w2⟩ := open_int Try.underlying3 (hval 2 3 v2 rfl rfl) h2
  obtain ⟨a3, rfl, rfl, rfl, w3⟩ := open_int Try.underlying3 (hval 3 3 v3 rfl rfl) h3
  clear hA0 hval0
  refine (sessionArguments_walk ⟨a0, b0, c0, d0, e0, f0⟩ a1 a2 a3 W (by simpa [maxLen] using wc0) (by simpa [maxLen] using wf0) (wf_i64 w1) (wf_i64 w2) (wf_i64 w3)).mono fun e W' ⟨he, bel⟩ => ?_
  subst he
  exact ⟨_, rfl, _, _, _, [], _, [], hW', trodAll_mk1 (shut_bool Try.underlying4 _), (trodAll_cons_mk (shut_agg6 (y0 := (.lit (.int .i64 a0), [])) (y1 := (.lit (.int .i64 b0), [])) (y2 := (.lit (.string c0.data.toList), [])) (y3 := (.lit (.int .i64 d0), [])) (y4 := (.lit (.int .i64 e0), [])) (y5 := (.lit (.string f0.data.toList), [])) Try.underlying44 (by kernel_rfl) reqCells (trod_int_mk 0 Try.underlying3 wa0) (trod_int_mk 0 Try.underlying3 wb0) (trod_str_mk Try.underlying9 wc0) (trod_int_mk 0 Try.underlying3 wd0) (trod_int_mk 0 Try.underlying3 we0) (trod_str_mk Try.underlying9 wf0)) (trodAll_cons_mk (shut_int Try.underlying3 w1) (trodAll_cons_mk (shut_int Try.underlying3 w2) (trodAll_cons_mk (shut_int Try.underlying3 w3) trodAll_mk0)))), rfl, bel.frame _, fun h => by cases h⟩

theorem over : Rows.sessionArgumentsRow.holds Try.pinned (OpenSpec.ofChange Rows.sessionArgumentsSpec) :=
  OpenClaim.holds_of_wide 6 Try.f6 rfl rfl rfl rfl rfl rfl rfl ⟨rfl, rfl, rfl, rfl, rfl⟩ rfl rfl rfl rfl rfl (by kernel_rfl) Try.func6 (by kernel_rfl)
    (of_decide_eq_true (by kernel_rfl)) (by unfold Func.isWrapper; first | (rw [if_pos (by decide +kernel)]; kernel_rfl) | (rw [if_neg (by decide +kernel)]; exact ⟨rfl, rfl⟩))
    (fun os started H enc _ => lifted os started H enc)

/-- The statement. -/
theorem proved : Rows.SessionArgumentsSaid := over
#print axioms proved
end Go.Proofs.Ytaonhmdifinadaa.sessionArguments
