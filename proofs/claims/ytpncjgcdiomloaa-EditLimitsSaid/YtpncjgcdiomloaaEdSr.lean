/-
  The contract of the reference's Sources.
-/
import Derived.Test.YtpncjgcdiomloaaEdCa
namespace Go.Proofs.Ytpncjgcdiomloaa
open Go Go.Proofs
open Go.RowKit
set_option linter.unusedVariables false
set_option linter.unusedSimpArgs false

def OwnI (w : World) (base : Nat) (v : Value) (xs : List Int) : Prop := w.ownsRow base 3 1 v xs.length (xs.map intV)
theorem OwnI.snoc {w : World} {base : Nat} {v : Value} {xs : List Int} {x : Int} (h : w.ownsRow base 3 1 v (xs.length + 1) (xs.map intV ++ [.int .i64 x])) : OwnI w base v (xs ++ [x]) := by
  unfold OwnI
  rw [List.length_append, List.map_append]
  exact h
theorem OwnI.form {w : World} {base : Nat} {v : Value} {xs : List Int} (h : OwnI w base v xs) : ∃ a c, v = .slice a xs.length c ∧ SliceAt w a c (xs.map intV) := ownsRow_sliceMap h
theorem range_snoc (p j : Nat) : ((List.range (j + 1)).map fun i => ((p + i : Nat) : Int)) = ((List.range j).map fun i => ((p + i : Nat) : Int)) ++ [((p + j : Nat) : Int)] := by simp [List.range_succ]

set_option maxRecDepth 100000 in
set_option maxHeartbeats 4000000 in
theorem sources_any (size : Nat) (a : Option Addr) (c : Nat) (es : List Ed) (w : World) (hx : EdsAt w a c es) (hs : Snd size 0 es) (hz : size ≤ 1000000) (h64 : es.length ≤ 64) (hb : ∀ e ∈ es, e.x.length ≤ 1000) :
    Calls Try.prog 49 #[.int .i64 size, .slice a es.length c] w fun e w' => ∃ v, e = .returned v ∧ OwnI w' w.heap.size v (srcL size 0 es) ∧ Below w.heap.size w w' := by
  have hm := hx.max
  have hle := hx.le
  have HX := Lib.hid hx
  have HB := Lib.hid hb
  obtain ⟨R, hR⟩ : ∃ R, srcL size 0 es = R := ⟨_, rfl⟩
  have HI0 : Hid ([] ++ srcL size 0 (es.drop 0) = R ∧ Snd size 0 (es.drop 0)) := by unfold Hid; exact ⟨by simpa using hR, by simpa using hs⟩
  rw [hR]
  clear hx hb hs hR
  go_enter Try.func49, Try.ntmps49
  go_wp2_with fail
  go_loopw [5, 6, 7] (fun ov av iv wr => ∃ (i p : Nat) (O : List Int), i ≤ es.length + 1 ∧ iv = .int .i64 i ∧ av = .int .i64 p ∧ p ≤ size ∧ O.length ≤ p + 1000 * i ∧ OwnI wr w.heap.size ov O ∧ Below w.heap.size w wr ∧
      Hid ((i ≤ es.length → O ++ srcL size p (es.drop i) = R ∧ Snd size p (es.drop i)) ∧ (i = es.length + 1 → O = R))) (fun _ _ iv _ => es.length + 1 - (intOf iv).toNat)
  case atStart => exact ⟨0, 0, [], by omega, rfl, rfl, by omega, by simp, World.ownsRow_nil _ _ _ _, Below.refl _ _, fun _ => HI0.out, fun h => by omega⟩
  case round =>
    clear HI0
    obtain ⟨i, p, O, hi, rfl, rfl, hp, hOl, hO, hB, HI⟩ := hrel
    by_cases hie : i ≤ es.length
    · obtain ⟨h1, h2⟩ := HI.out.1 hie
      have d0 : decide ((i : Int) ≤ es.length) = true := decide_eq_true (by omega)
      obtain ⟨av, cv, rfl, -⟩ := hO.form
      have HO := Lib.hid hO
      have HHB := Lib.hid hB
      clear hO hB HI
      by_cases hlt : i < es.length
      · obtain ⟨b, off, rfl⟩ := HX.out.addr (by omega)
        obtain ⟨e, he⟩ : ∃ e, es[i]? = some e := ⟨es[i], List.getElem?_eq_getElem hlt⟩
        have hd : es.drop i = e :: es.drop (i + 1) := by
          have he' := he
          rw [List.getElem?_eq_getElem hlt, Option.some.injEq] at he'
          rw [List.drop_eq_getElem_cons hlt, he']
        rw [hd] at h1 h2
        have hxl := HB.out e (List.mem_of_getElem? he)
        obtain ⟨f, t, hef, hpf, hft, hts, h4, -⟩ := parts_step (q := 0) h2
        obtain ⟨x, hxx⟩ : ∃ x, e.x = x := ⟨_, rfl⟩
        rw [hxx] at hef hxl
        subst hef
        simp only [srcL, Int.toNat_natCast] at h1
        rw [← List.append_assoc, ← List.append_assoc] at h1
        have HH1 := Lib.hid h1
        have HH4 := Lib.hid h4
        have HE := Lib.hid he
        obtain ⟨e0, e1, e2⟩ := (HX.out.below HHB.out).cells he
        simp only at e0 e1 e2
        have d1 : decide ((i : Int) < es.length) = true := decide_eq_true (by omega)
        have zs : (strB x).size = x.length := strB_size x
        clear h1 h2 h4 hd he hxx
        -- LOOPS
        go_wp2_with fail
        go_loopw [5, 6] (fun ov av wr' => ∃ (j : Nat), j ≤ f - p ∧ av = .int .i64 ((p + j : Nat) : Int) ∧ OwnI wr' w.heap.size ov (O ++ (List.range j).map fun k => ((p + k : Nat) : Int)) ∧ Below w.heap.size w wr') (fun _ av _ => f - (intOf av).toNat)
        case atStart => exact ⟨0, by omega, by simp, by simpa using HO.out, HHB.out⟩
        case round =>
          obtain ⟨j, hj, rfl, hO, hB⟩ := hrel
          by_cases hjl : p + j < f
          · have d2 : decide (((p + j : Nat) : Int) < (f : Nat)) = true := decide_eq_true (by omega)
            obtain ⟨av, cv, rfl, -⟩ := hO.form
            have hln : (O ++ (List.range j).map fun k => ((p + k : Nat) : Int)).length = O.length + j := by simp
            obtain ⟨LL, hLL⟩ : ∃ LL, O ++ (List.range j).map (fun k => ((p + k : Nat) : Int)) = LL := ⟨_, rfl⟩
            rw [hLL] at hO hln ⊢
            have HLL := Lib.hid hLL
            clear hLL
            have hO' := hO
            unfold OwnI at hO'
            rw [hln] at hO' ⊢
            have hsz := hB.size
            obtain ⟨q, hq⟩ : ∃ q, p + j = q := ⟨_, rfl⟩
            rw [hq] at hjl d2 ⊢
            have HOO := Lib.hid hO'
            have HBB := Lib.hid hB
            have HLN := Lib.hid hln
            have HQ := Lib.hid hq
            clear hO hO' hB hln hq
            go_wp2_with (at_builtin; refine wpList_append_src _ rfl (.tmp 29) (.tmp 31) 23 rfl elemI w.heap.size _ (O.length + j) _ rfl (HOO.out.alloc _) (some ⟨wr.heap.size, 0, none⟩) 1 1 [.int .i64 q] rfl (row_new (cs := [.int .i64 q]) (by simp) (by omega)) (by simp [Value.oneCell']) (by omega) (by omega) (by simp; omega) ?_)
            intro v2 w2 hown2 hb2 _
            have hO2 : OwnI w2 w.heap.size v2 (O ++ (List.range (j + 1)).map fun k => ((p + k : Nat) : Int)) := by
              rw [range_snoc, ← List.append_assoc, HLL.out]
              refine OwnI.snoc ?_
              rw [HLN.out, HQ.out]
              exact hown2
            have hB2 := (HBB.out.alloc HBB.out.size _).trans hb2
            have HO2 := Lib.hid hO2
            have HB2 := Lib.hid hB2
            clear hown2 hb2 hO2 hB2
            go_wp2_with fail
            go_roundw
            case rel => first | exact ⟨j + 1, by have := HQ.out; omega, by rw [← Nat.add_assoc, HQ.out]; go_num, HO2.out, HB2.out⟩ | ((repeat apply Exists.intro); refine ⟨?_, rfl⟩; exact ⟨j + 1, by have := HQ.out; omega, by rw [← Nat.add_assoc, HQ.out]; go_num, HO2.out, HB2.out⟩)
            case measure => simp [intOf]; omega
          · have hje : j = f - p := by omega
            have d2 : decide (((p + j : Nat) : Int) < (f : Nat)) = false := decide_eq_false (by omega)
            subst hje
            rw [show p + (f - p) = f by omega] at d2 ⊢
            have HO1 := Lib.hid hO
            have HB1 := Lib.hid hB
            obtain ⟨O1, hO1⟩ : ∃ O1, O ++ (List.range (f - p)).map (fun k => ((p + k : Nat) : Int)) = O1 := ⟨_, rfl⟩
            rw [hO1] at HO1 HH1
            have hl1 : O1.length = O.length + (f - p) := by rw [← hO1]; simp
            obtain ⟨av, cv, rfl, -⟩ := HO1.out.form
            obtain ⟨e0, e1, e2⟩ := (HX.out.below hB).cells HE.out
            simp only at e0 e1 e2
            have hO1' := Lib.hid hO1
            clear hO hB hO1 HO HHB
            go_wp2_with fail
            go_loopw [5, 9] (fun ov kv wr'' => ∃ (k : Nat), k ≤ x.length ∧ kv = .int .i64 k ∧ OwnI wr'' w.heap.size ov (O1 ++ List.replicate k (-1)) ∧ Below w.heap.size w wr'') (fun _ kv _ => x.length - (intOf kv).toNat)
            case atStart => exact ⟨0, by omega, rfl, by simpa using HO1.out, HB1.out⟩
            case round =>
              obtain ⟨k, hk, rfl, hO, hB⟩ := hrel
              obtain ⟨av, cv, rfl, -⟩ := hO.form
              have hln : (O1 ++ List.replicate k (-1 : Int)).length = O1.length + k := by simp
              obtain ⟨e0, e1, e2⟩ := (HX.out.below hB).cells HE.out
              simp only at e0 e1 e2
              have hsz := hB.size
              by_cases hkl : k < x.length
              · have d3 : decide ((k : Int) < x.length) = true := decide_eq_true (by omega)
                obtain ⟨LL, hLL⟩ : ∃ LL, O1 ++ List.replicate k (-1 : Int) = LL := ⟨_, rfl⟩
                rw [hLL] at hO hln ⊢
                have HLL := Lib.hid hLL
                clear hLL
                have hO' := hO
                unfold OwnI at hO'
                rw [hln] at hO' ⊢
                have HOO := Lib.hid hO'
                have HBB := Lib.hid hB
                have HLN := Lib.hid hln
                clear hO hO' hB hln
                go_wp2_with (at_builtin; refine wpList_append_src _ rfl (.tmp 49) (.tmp 50) 23 rfl elemI w.heap.size _ (O1.length + k) _ rfl (HOO.out.alloc _) (some ⟨wr.heap.size, 0, none⟩) 1 1 [.int .i64 (-1)] rfl (row_new (cs := [.int .i64 (-1)]) (by simp) (by omega)) (by simp [Value.oneCell']) (by omega) (by omega) (by simp; omega) ?_)
                intro v2 w2 hown2 hb2 _
                have hO2 : OwnI w2 w.heap.size v2 (O1 ++ List.replicate (k + 1) (-1)) := by
                  rw [List.replicate_succ', ← List.append_assoc, HLL.out]
                  refine OwnI.snoc ?_
                  rw [HLN.out]
                  first | exact hown2 | (rw [hl1]; exact hown2)
                have hB2 := (HBB.out.alloc HBB.out.size _).trans hb2
                have HO2 := Lib.hid hO2
                have HB2 := Lib.hid hB2
                clear hown2 hb2 hO2 hB2
                go_wp2_with fail
                go_roundw
                case rel => first | exact ⟨k + 1, by omega, by go_num, HO2.out, HB2.out⟩ | ((repeat apply Exists.intro); refine ⟨?_, rfl⟩; exact ⟨k + 1, by omega, by go_num, HO2.out, HB2.out⟩)
                case measure => simp [intOf]; omega
              · obtain rfl : k = x.length := by omega
                have d3 : decide ((x.length : Int) < x.length) = false := by simp
                have HO2 := Lib.hid hO
                have HB2 := Lib.hid hB
                clear hO hB hln
                go_wp2_with fail
                go_roundw
                case rel =>
                  refine ⟨i + 1, t, _, by omega, by go_num, rfl, hts, ?_, HO2.out, HB2.out, fun h => ⟨?_, HH4.out⟩, fun h => by omega⟩
                  · rw [List.length_append, List.length_replicate, hl1]; omega
                  · exact HH1.out
                case measure => simp [intOf]; omega
      · obtain rfl : i = es.length := by omega
        have d1 : decide ((es.length : Int) < es.length) = false := by simp
        rw [List.drop_length] at h1 h2
        simp only [srcL] at h1
        have HH1 := Lib.hid h1
        clear h1 h2
        go_wp2_with fail
        go_loopw [5, 6] (fun ov av wr' => ∃ (j : Nat), j ≤ size - p ∧ av = .int .i64 ((p + j : Nat) : Int) ∧ OwnI wr' w.heap.size ov (O ++ (List.range j).map fun k => ((p + k : Nat) : Int)) ∧ Below w.heap.size w wr') (fun _ av _ => size - (intOf av).toNat)
        case atStart => exact ⟨0, by omega, by simp, by simpa using HO.out, HHB.out⟩
        case round =>
          obtain ⟨j, hj, rfl, hO, hB⟩ := hrel
          by_cases hjl : p + j < size
          · have d2 : decide (((p + j : Nat) : Int) < (size : Nat)) = true := decide_eq_true (by omega)
            obtain ⟨av, cv, rfl, -⟩ := hO.form
            have hln : (O ++ (List.range j).map fun k => ((p + k : Nat) : Int)).length = O.length + j := by simp
            obtain ⟨LL, hLL⟩ : ∃ LL, O ++ (List.range j).map (fun k => ((p + k : Nat) : Int)) = LL := ⟨_, rfl⟩
            rw [hLL] at hO hln ⊢
            have HLL := Lib.hid hLL
            clear hLL
            have hO' := hO
            unfold OwnI at hO'
            rw [hln] at hO' ⊢
            have hsz := hB.size
            obtain ⟨q, hq⟩ : ∃ q, p + j = q := ⟨_, rfl⟩
            rw [hq] at hjl d2 ⊢
            have HOO := Lib.hid hO'
            have HBB := Lib.hid hB
            have HLN := Lib.hid hln
            have HQ := Lib.hid hq
            clear hO hO' hB hln hq
            go_wp2_with (at_builtin; refine wpList_append_src _ rfl (.tmp 29) (.tmp 31) 23 rfl elemI w.heap.size _ (O.length + j) _ rfl (HOO.out.alloc _) (some ⟨wr.heap.size, 0, none⟩) 1 1 [.int .i64 q] rfl (row_new (cs := [.int .i64 q]) (by simp) (by omega)) (by simp [Value.oneCell']) (by omega) (by omega) (by simp; omega) ?_)
            intro v2 w2 hown2 hb2 _
            have hO2 : OwnI w2 w.heap.size v2 (O ++ (List.range (j + 1)).map fun k => ((p + k : Nat) : Int)) := by
              rw [range_snoc, ← List.append_assoc, HLL.out]
              refine OwnI.snoc ?_
              rw [HLN.out, HQ.out]
              exact hown2
            have hB2 := (HBB.out.alloc HBB.out.size _).trans hb2
            have HO2 := Lib.hid hO2
            have HB2 := Lib.hid hB2
            clear hown2 hb2 hO2 hB2
            go_wp2_with fail
            go_roundw
            case rel => first | exact ⟨j + 1, by have := HQ.out; omega, by rw [← Nat.add_assoc, HQ.out]; go_num, HO2.out, HB2.out⟩ | ((repeat apply Exists.intro); refine ⟨?_, rfl⟩; exact ⟨j + 1, by have := HQ.out; omega, by rw [← Nat.add_assoc, HQ.out]; go_num, HO2.out, HB2.out⟩)
            case measure => simp [intOf]; omega
          · have hje : j = size - p := by omega
            have d2 : decide (((p + j : Nat) : Int) < (size : Nat)) = false := decide_eq_false (by omega)
            subst hje
            rw [show p + (size - p) = size by omega] at d2 ⊢
            have HO1 := Lib.hid hO
            have HB1 := Lib.hid hB
            obtain ⟨av, cv, rfl, -⟩ := hO.form
            clear hO hB HO HHB
            go_wp2_with fail
            go_roundw
            case rel =>
              refine ⟨es.length + 1, size, _, by omega, by go_num, rfl, Nat.le_refl _, ?_, HO1.out, HB1.out, fun h => by omega, fun _ => HH1.out⟩
              rw [List.length_append, List.length_map, List.length_range]; omega
            case measure => simp [intOf]
    · obtain rfl : i = es.length + 1 := by omega
      have hR := HI.out.2 rfl
      have d0 : decide (((es.length + 1 : Nat) : Int) ≤ es.length) = false := decide_eq_false (by omega)
      subst hR
      have HO := Lib.hid hO
      clear hO HI
      go_wp2_with fail
      go_ret
      exact ⟨_, rfl, HO.out, hB⟩
end Go.Proofs.Ytpncjgcdiomloaa
