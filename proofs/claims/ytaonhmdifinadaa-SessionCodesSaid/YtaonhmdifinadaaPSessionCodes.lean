/-
  The law schemalenslaw37.SessionCodes answers true for every input, and leaves its arguments as they were. Conditions: none.
  Written by a program of mine after the kit's shell; the walk stands in my other texts.
-/
import Derived.Test.YtaonhmdifinadaaRows
import Derived.Test.YtaonhmdifinadaaAgg6
import Derived.Test.YtaonhmdifinadaaSesZ
import Derived.SizedLaws
import Derived.WalkKit
import Derived.ProofKit
import Derived.OpenShut
import Derived.ShutString
import Derived.ChangeOld
import Derived.Below
import Derived.Lib.SmallJoins
import Derived.ChangeArms
import Derived.ChangeSame
namespace Go.Proofs.Ytaonhmdifinadaa.sessionCodes
open Go.ChangeShapes Go.WideShapes Go.ChangeAt Go.RowKit
open Go.ChangeMaps (open_string shut_string)
set_option linter.unusedVariables false

theorem own : ownKnob Try.prog.godebug = none := by kernel_rfl
theorem laidOut : laidOutB Try.prog = true := by kernel_rfl
theorem reqCells : Try.prog.cellsOf 44 = 6 := by kernel_rfl
theorem ansCells : Try.prog.cellsOf 53 = 4 := by kernel_rfl

set_option maxRecDepth 100000 in
theorem lifted (os : Os) (started : os.Started) (H : Type) (enc : TypeId × Value → H) :
    ReturnsInHanded {} Try.checked os 9 .any (Rows.sessionCodesSpec.pre6 enc Try.prog Try.f9 Rows.sessionCodesRow.domain false) (Rows.sessionCodesSpec.post enc Try.prog Try.f9 false true false false) := by
  have e : Rows.sessionCodesSpec.pre6 enc Try.prog Try.f9 Rows.sessionCodesRow.domain false = fun w args => (Rows.sessionCodesSpec.pre enc Try.prog Try.f9 Rows.sessionCodesRow.domain false w args ∧ True) ∧ sizedMet enc Try.prog Try.f9 (OpenSpec.ofChange Rows.sessionCodesSpec) false w args := by
    funext w args
    simp only [ChangeSpec.pre6, and_true]
  rw [e]
  refine returnsInHanded_of_change_and (C := Try.checked) (X := fun _ _ => True) (fun _ _ _ _ h => h) own started (by kernel_rfl) Try.func9
    (let ⟨w, t, i, h1, h2, h3, h4, h5, h6⟩ := (ChangeSpec.witness6 (enc := enc) (C := Try.checked) false ⟨#[], #[.agg #[.int .i64 0, .int .i64 0, .string ByteArray.empty, .int .i64 0, .int .i64 0, .string ByteArray.empty], .agg #[.int .i64 0, .int .i64 0, .int .i64 0, .string ByteArray.empty], .slice none 0 0, .int .i64 0, .int .u8 0, .slice none 0 0], []⟩ 8 (by kernel_rfl) (by kernel_rfl) (by kernel_rfl) (by kernel_rfl)); ⟨w, t, i, h1, h2, h3, h4, ⟨⟨h5.1, trivial⟩, h5.2⟩, h6⟩) ?_
  intro W base args ds gs before hval0 hW hcnd hwt _ _
  have hval : ∀ (j : Nat) t v, Try.f9.params[j]? = some t → args[j]? = some v → Value.okWide Try.prog W .any base t v := hval0
  have hW' := hW
  obtain ⟨p, q, hA0, hV, rfl, hfz, hnd⟩ := hW
  have hA : DataW.TrodAll enc Try.prog W 0 (fun _ => true) true Try.f9.params.toList args.toList ds p := hA0
  rw [Try.params9] at hA hval
  obtain ⟨v0, vs0, d0, ds0, p0, q0, hargs, rfl, rfl, h0, r0⟩ := trodAll_cons hA
  obtain ⟨v1, vs1, d1, ds1, p1, q1, rfl, rfl, rfl, h1, r1⟩ := trodAll_cons r0
  obtain ⟨v2, vs2, d2, ds2, p2, q2, rfl, rfl, rfl, h2, r2⟩ := trodAll_cons r1
  obtain ⟨v3, vs3, d3, ds3, p3, q3, rfl, rfl, rfl, h3, r3⟩ := trodAll_cons r2
  obtain ⟨v4, vs4, d4, ds4, p4, q4, rfl, rfl, rfl, h4, r4⟩ := trodAll_cons r3
  obtain ⟨v5, vs5, d5, ds5, p5, q5, rfl, rfl, rfl, h5, r5⟩ := trodAll_cons r4
  obtain ⟨rfl, rfl, rfl⟩ := trodAll_nil r5
  obtain rfl : args = #[v0, v1, v2, v3, v4, v5] := by cases args; simp_all
  obtain ⟨rfl, rfl⟩ := trodVars_none hV
  obtain ⟨pa0, pb0, pc0, pd0, pe0, pf0, ya0, yb0, yc0, yd0, ye0, yf0, pm0, rfl, rfl, rfl, hya0, hyb0, hyc0, hyd0, hye0, hyf0⟩ := open_agg6 Try.underlying44 (by kernel_rfl) reqCells (hval 0 44 v0 rfl rfl) h0
  obtain ⟨a0, ea0, rfl, wa0⟩ := DataW.trod_int Try.underlying3 hya0
  obtain ⟨b0, eb0, rfl, wb0⟩ := DataW.trod_int Try.underlying3 hyb0
  obtain ⟨c0, ec0, rfl, wc0⟩ := DataW.trod_string Try.underlying9 hyc0
  obtain ⟨d0, ed0, rfl, wd0⟩ := DataW.trod_int Try.underlying3 hyd0
  obtain ⟨e0, ee0, rfl, we0⟩ := DataW.trod_int Try.underlying3 hye0
  obtain ⟨f0, ef0, rfl, wf0⟩ := DataW.trod_string Try.underlying9 hyf0
  simp at ea0 eb0 ec0 ed0 ee0 ef0
  subst ea0 eb0 ec0 ed0 ee0 ef0
  obtain ⟨pa1, pb1, pc1, pd1, ya1, yb1, yc1, yd1, pm1, rfl, rfl, rfl, hya1, hyb1, hyc1, hyd1⟩ := Go.Joins.open_agg4 Try.underlying53 (by kernel_rfl) ansCells (hval 1 53 v1 rfl rfl) h1
  obtain ⟨a1, ea1, rfl, wa1⟩ := DataW.trod_int Try.underlying3 hya1
  obtain ⟨b1, eb1, rfl, wb1⟩ := DataW.trod_int Try.underlying27 hyb1
  obtain ⟨c1, ec1, rfl, wc1⟩ := DataW.trod_int Try.underlying3 hyc1
  obtain ⟨d1, ed1, rfl, wd1⟩ := DataW.trod_string Try.underlying9 hyd1
  simp at ea1 eb1 ec1 ed1
  subst ea1 eb1 ec1 ed1
  obtain ⟨a2, len2, cap2, rfl⟩ := okWide_slice Try.underlying22 (hval 2 22 v2 rfl rfl)
  have k2 := h2
  have lt2 : ∀ x ∈ p2, x.block < W.heap.size := by obtain ⟨m, hm⟩ := k2; exact DataW.trod_lt m _ _ _ hm
  obtain ⟨z2, w2⟩ : ∃ zs, rowIn .i64 W a2 len2 cap2 zs := by
    obtain ⟨fuel, hf⟩ := h2
    rcases open_ints Try.underlying22 Try.underlying3 (by kernel_rfl) hf with ⟨hcs, _⟩ | ⟨x, l, c, zs, hcs, _, hl, hm, hz, _, hcell, hwz⟩
    · simp [Value.cells] at hcs
      obtain ⟨rfl, rfl, rfl⟩ := hcs
      exact ⟨[], .inl ⟨rfl, rfl, rfl, rfl⟩⟩
    · simp [Value.cells] at hcs
      obtain ⟨rfl, rfl, rfl⟩ := hcs
      exact ⟨zs, .inr ⟨_, rfl, hl, hm, by simpa using hz, hcell, hwz⟩⟩
  have hz2 : len2 * 8 ≤ 140737488351232 := by
    obtain ⟨fuel, hf⟩ := h2
    rcases open_ints Try.underlying22 Try.underlying3 (by kernel_rfl) hf with ⟨hcs, _⟩ | ⟨x, l, c, zs, hcs, _, hl, hm, hz, hxe, _, _⟩
    · simp [Value.cells] at hcs
      obtain ⟨rfl, rfl, rfl⟩ := hcs
      omega
    · simp [Value.cells] at hcs
      obtain ⟨rfl, rfl, rfl⟩ := hcs
      obtain ⟨hd2, _⟩ := Prod.mk.inj hxe
      have hs := Go.sized_slice hwt (j := 2) (t := 22) (e := 3) (by rw [Try.params9]; rfl) (by rw [hd2]; rfl) Try.underlying22
      rw [show Try.checked.prog.bytesOf 3 = 8 by kernel_rfl, show reachBytes = 140737488351232 by rfl] at hs
      simp only [Go.ChangeShapes.lits, List.length_map, List.length_take, List.length_drop] at hs
      split at hz <;> omega
  obtain ⟨xs2, rfl, hs2, hb2⟩ := rowIn_ints w2
  obtain ⟨a3, rfl, rfl, rfl, w3⟩ := open_int Try.underlying3 (hval 3 3 v3 rfl rfl) h3
  obtain ⟨a4, rfl, rfl, rfl, w4⟩ := open_int Try.underlying5 (hval 4 5 v4 rfl rfl) h4
  obtain ⟨a5, len5, cap5, rfl⟩ := okWide_slice Try.underlying78 (hval 5 78 v5 rfl rfl)
  have k5 := h5
  have lt5 : ∀ x ∈ p5, x.block < W.heap.size := by obtain ⟨m, hm⟩ := k5; exact DataW.trod_lt m _ _ _ hm
  obtain ⟨z5, w5⟩ : ∃ zs, rowIn .u8 W a5 len5 cap5 zs := by
    obtain ⟨fuel, hf⟩ := h5
    rcases open_ints Try.underlying78 Try.underlying5 (by kernel_rfl) hf with ⟨hcs, _⟩ | ⟨x, l, c, zs, hcs, _, hl, hm, hz, _, hcell, hwz⟩
    · simp [Value.cells] at hcs
      obtain ⟨rfl, rfl, rfl⟩ := hcs
      exact ⟨[], .inl ⟨rfl, rfl, rfl, rfl⟩⟩
    · simp [Value.cells] at hcs
      obtain ⟨rfl, rfl, rfl⟩ := hcs
      exact ⟨zs, .inr ⟨_, rfl, hl, hm, by simpa using hz, hcell, hwz⟩⟩
  obtain ⟨xs5, rfl, hs5⟩ := rowIn_bytes w5
  clear hA0 hval0
  refine (sessionCodes_walk ⟨a0, b0, c0, d0, e0, f0⟩ ⟨a1, b1, c1, d1⟩ a2 cap2 xs2 a3 a4 a5 cap5 xs5 W (by simpa [maxLen] using wc0) (by simpa [maxLen] using wf0) (wf_i64 wa0) (wf_i64 wb0) (by simpa [maxLen] using wd1) (wf_i64 wb1) (wf_i64 wc1) hs2 hb2 hz2 (wf_i64 w3) (wf_u8 w4) hs5).mono fun e W' ⟨he, bel⟩ => ?_
  subst he
  exact ⟨_, rfl, _, _, _, [], _, [], hW', trodAll_mk1 (shut_bool Try.underlying4 _), (trodAll_cons_mk (shut_agg6 (y0 := (.lit (.int .i64 a0), [])) (y1 := (.lit (.int .i64 b0), [])) (y2 := (.lit (.string c0.data.toList), [])) (y3 := (.lit (.int .i64 d0), [])) (y4 := (.lit (.int .i64 e0), [])) (y5 := (.lit (.string f0.data.toList), [])) Try.underlying44 (by kernel_rfl) reqCells (trod_int_mk 0 Try.underlying3 wa0) (trod_int_mk 0 Try.underlying3 wb0) (trod_str_mk Try.underlying9 wc0) (trod_int_mk 0 Try.underlying3 wd0) (trod_int_mk 0 Try.underlying3 we0) (trod_str_mk Try.underlying9 wf0)) (trodAll_cons_mk (Go.Joins.shut_agg4 (y0 := (.lit (.int .i64 a1), [])) (y1 := (.lit (.int .i64 b1), [])) (y2 := (.lit (.int .i64 c1), [])) (y3 := (.lit (.string d1.data.toList), [])) Try.underlying53 (by kernel_rfl) ansCells ⟨1, trod_int_mk 0 Try.underlying3 wa1⟩ ⟨1, trod_int_mk 0 Try.underlying27 wb1⟩ ⟨1, trod_int_mk 0 Try.underlying3 wc1⟩ ⟨1, trod_str_mk Try.underlying9 wd1⟩) (trodAll_cons_mk (Below.trod laidOut (by kernel_rfl) (of_decide_eq_true (by kernel_rfl)) k2 bel lt2) (trodAll_cons_mk (shut_int Try.underlying3 w3) (trodAll_cons_mk (shut_int Try.underlying5 w4) (trodAll_cons_mk (Below.trod laidOut (by kernel_rfl) (of_decide_eq_true (by kernel_rfl)) k5 bel lt5) trodAll_mk0)))))), rfl, bel.frame _, fun h => by cases h⟩

theorem over : Rows.sessionCodesRow.holds Try.pinned (OpenSpec.ofChange Rows.sessionCodesSpec) :=
  OpenClaim.holds_of_wide 9 Try.f9 rfl rfl rfl rfl rfl rfl rfl ⟨rfl, rfl, rfl, rfl, rfl⟩ rfl rfl rfl rfl rfl (by kernel_rfl) Try.func9 (by kernel_rfl)
    (of_decide_eq_true (by kernel_rfl)) (by unfold Func.isWrapper; first | (rw [if_pos (by decide +kernel)]; kernel_rfl) | (rw [if_neg (by decide +kernel)]; exact ⟨rfl, rfl⟩))
    (fun os started H enc _ => lifted os started H enc)

/-- The statement. -/
theorem proved : Rows.SessionCodesSaid := over
#print axioms proved
end Go.Proofs.Ytaonhmdifinadaa.sessionCodes
