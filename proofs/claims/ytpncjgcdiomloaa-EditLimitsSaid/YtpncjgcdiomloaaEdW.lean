/-
  Contracts: the reference's joined and normal.
-/
import Derived.Test.YtpncjgcdiomloaaEdV
namespace Go.Proofs.Ytpncjgcdiomloaa
open Go Go.Proofs
open Go.RowKit
set_option linter.unusedVariables false
set_option linter.unusedSimpArgs false

set_option maxRecDepth 100000 in
set_option maxHeartbeats 8000000 in
theorem rjoined_any (a : Option Addr) (c : Nat) (es : List Ed) (w : World) (hx : EdsAt w a c es) (hl : es.length ≤ 1000) (hb : ∀ e ∈ es, e.x.length ≤ 1000000) :
    Calls Try.prog 62 #[.slice a es.length c] w fun e w' => ∃ v, e = .returned v ∧ OwnEds w' w.heap.size v (joinL es) ∧ Below w.heap.size w w' := by
  have hm := hx.max
  have hce := hx.le
  have hcmx := hx.2.2.1
  have HX := Lib.hid hb
  generalize hR : joinL es = R at *
  have hJ0 : JRel [] es R := .inl ⟨rfl, hR⟩
  have HJ0 := Lib.hid hJ0
  clear hR hJ0 hb
  go_enter Try.func62, Try.ntmps62
  go_wp2_with fail
  go_loopw [3, 4] (fun jv iv wr => ∃ (k : Nat) (J : List Ed), k ≤ es.length ∧ iv = .int .i64 k ∧ J.length ≤ k ∧ Hid (JRel J (es.drop k) R) ∧ Hid (∀ e ∈ J, e.x.length ≤ 1000000 * k) ∧ OwnEds wr w.heap.size jv J ∧ Below w.heap.size w wr) (fun _ iv _ => es.length - (intOf iv).toNat)
  case atStart => exact ⟨0, [], by omega, rfl, by simp, HJ0.out, fun e he => by simp at he, OwnEds.nil _ _, Below.refl _ _⟩
  case round =>
    obtain ⟨k, J, hk, rfl, hJl, hJ, hJx, hO, hB⟩ := hrel
    by_cases hlt : k < es.length
    · obtain ⟨b, off, rfl⟩ := hx.addr (by omega)
      obtain ⟨e, he⟩ : ∃ e, es[k]? = some e := ⟨es[k], List.getElem?_eq_getElem hlt⟩
      obtain ⟨f0, f1, f2⟩ := (hx.below hB).cells he
      have HE := Lib.hid he
      have hxe := HX.out e (List.mem_of_getElem? he)
      have hd : es.drop k = e :: es.drop (k + 1) := by
        rw [List.getElem?_eq_getElem hlt, Option.some.injEq] at he
        rw [List.drop_eq_getElem_cons hlt, he]
      have hJ' := hJ.out
      rw [hd] at hJ'
      have HO0 := Lib.hid hO
      have HB0 := Lib.hid hB
      have hsz1 := hB.size
      obtain ⟨av, cv, rfl, _⟩ := hO.at
      clear hd he hJ hO hB
      rcases hJ' with ⟨rfl, hj⟩ | ⟨done, cc, rfl, hj⟩
      · have HJ := Lib.hid hj
        clear hj hJx
        simp only [List.length_nil] at *
        go_wp2_with fail
        go_quiet (fail)
        obtain ⟨W1, hW1⟩ : ∃ W1, W1 = wr.drewN nq := ⟨_, rfl⟩
        have hB1 : Below wr.heap.size wr W1 := by rw [hW1]; exact Below.drewN _
        have y0 := Below.kept hB1 (Nat.le_refl _) f0
        have y1 := Below.kept hB1 (Nat.le_refl _) f1
        have y2 := Below.kept hB1 (Nat.le_refl _) f2
        rw [← hW1]
        clear hW1
        have hs1 := hB1.size
        go_wp2_with (at_builtin; refine wpList_append_src _ rfl (.tmp 57) (.tmp 62) 22 rfl elemE w.heap.size _ 0 _ rfl (ownsRow_below HO0.out (hB1.trans ((Below.refl _ W1).alloc hs1 _))) (some ⟨W1.heap.size, 0, none⟩) 1 1 [.int .i64 e.f, .int .i64 e.t, .string (strB e.x)] rfl (row_new (cs := [.int .i64 e.f, .int .i64 e.t, .string (strB e.x)]) rfl (by decide)) (by simp [Value.oneCell']) (by omega) (by omega) (by simp; omega) ?_; intro v2 w2 hown2 hB2 hgrow)
        have hO2 : OwnEds w2 w.heap.size v2 [e] := OwnEds.snoc (es := []) hown2
        have hBf : Below w.heap.size w w2 := (HB0.out.trans ((hB1.mono hsz1).trans ((Below.refl _ W1).alloc (Nat.le_trans hsz1 hs1) _))).trans hB2
        have hJn : JRel [e] (es.drop (k + 1)) R := .inr ⟨[], e, rfl, HJ.out⟩
        have hxn : ∀ y ∈ [e], y.x.length ≤ 1000000 * (k + 1) := fun y hy => by simp at hy; subst hy; omega
        first
          | exact ⟨⟨k + 1, [e], by omega, by go_num, by simp, hJn, hxn, hO2, hBf⟩, by simp [intOf]; omega⟩
          | (go_roundw
             case rel => exact ⟨k + 1, [e], by omega, by go_num, by simp, hJn, hxn, hO2, hBf⟩
             case measure => simp [intOf]; omega)
      · have hcx := hJx.out cc (by simp)
        have hdx := fun y (hy : y ∈ done) => hJx.out y (by simp [hy])
        have HDX := Lib.hid hdx
        have hq : (done ++ [cc])[done.length]? = some cc := by simp
        obtain ⟨g, rfl, hgb, hblk⟩ := HO0.out.blk (by simp)
        obtain ⟨c0, c1, c2⟩ := hblk.at.cells hq
        rw [Nat.zero_add] at c0 c1 c2
        have hbc := hblk.at.le
        have hset1 := (edCs_set hq).2 e.t
        have hJ1 : (done ++ [cc]).set done.length ⟨cc.f, e.t, cc.x⟩ = done ++ [⟨cc.f, e.t, cc.x⟩] := by simp
        have hq1 : (done ++ [(⟨cc.f, e.t, cc.x⟩ : Ed)])[done.length]? = some ⟨cc.f, e.t, cc.x⟩ := by simp
        have hset2 := edCs_setx hq1 (cc.x ++ e.x)
        have hJ2 : (done ++ [(⟨cc.f, e.t, cc.x⟩ : Ed)]).set done.length ⟨cc.f, e.t, cc.x ++ e.x⟩ = done ++ [⟨cc.f, e.t, cc.x ++ e.x⟩] := by simp
        simp only at hset2
        rw [hJ1] at hset1
        rw [hJ2] at hset2
        have fz0 := hblk.frozen (done.length * 3 + 1)
        have HBLK := Lib.hid hblk
        have HS1 := Lib.hid hset1
        have HS2 := Lib.hid hset2
        have HQ1 := Lib.hid hq1
        have HQ0 := Lib.hid hq
        have HJ := Lib.hid hj
        have hln : (done ++ [cc]).length = done.length + 1 := by simp
        rw [hln] at hJl hbc HO0 ⊢
        generalize hqq : done.length = q at *
        have i1 : ((q : Int) + 1) - 1 = (q : Int) := by omega
        have i2 : IntKind.i64.wrap (q : Int) = (q : Int) := IntWalk.i64_in _ (by omega)
        have i3 : (q : Int) < (q : Int) + 1 := by omega
        clear hblk hset1 hset2 hq hq1 hJ1 hJ2 hj hln hJx hdx
        by_cases heq : cc.t = e.f
        · have d1 : (cc.t == e.f) = true := by simpa using heq
          have HEQ := Lib.hid heq
          have z1 : ¬ 9223372036854775807 < (strB cc.x).size + (strB e.x).size := by rw [strB_size, strB_size]; omega
          have Z1 := Lib.hid z1
          clear z1
          go_wp2_with fail
          go_quiet (fail)
          obtain ⟨W1, hW1⟩ : ∃ W1, W1 = wr.drewN nq := ⟨_, rfl⟩
          have hB1 : Below wr.heap.size wr W1 := by rw [hW1]; exact Below.drewN _
          have y1 := Below.kept hB1 (Nat.le_refl _) f1
          have hbl1 := HBLK.out.below hB1
          have fz1 := hbl1.frozen (q * 3 + 1)
          obtain ⟨_, u1, _⟩ := hbl1.at.cells HQ0.out
          rw [Nat.zero_add] at u1
          have hO1 := OwnEds.below (es := done ++ [cc]) (by have h := HO0.out; unfold OwnEds at h ⊢; exact h) hB1
          have hO2 := hO1.set (es' := done ++ [⟨cc.f, e.t, cc.x⟩]) (by simp) HS1.out
          obtain ⟨W2, hW2⟩ : ∃ W2, W2 = W1.setCell ⟨g, q * 3 + 1, none⟩ (.int .i64 e.t) := ⟨_, rfl⟩
          rw [← hW2] at hO2
          obtain ⟨g', hg', _, hbl2⟩ := hO2.blk (by simp)
          simp only [Option.some.injEq, Addr.mk.injEq, and_true] at hg'
          subst hg'
          obtain ⟨_, _, t3⟩ := hbl2.at.cells HQ1.out
          rw [Nat.zero_add] at t3
          simp only at t3
          have fz2 := hbl2.frozen (q * 3 + 2)
          have hO3 := hO2.set (v := .string (strB cc.x ++ strB e.x)) (es' := done ++ [⟨cc.f, e.t, cc.x ++ e.x⟩]) (by simp) (by rw [strB_app]; exact HS2.out)
          have hB2 : Below w.heap.size W1 W2 := by rw [hW2]; exact (Below.refl _ W1).setCell (p := ⟨g, q * 3 + 1, none⟩) hgb _
          have hB02 := (HB0.out.trans (hB1.mono hsz1)).trans hB2
          obtain ⟨_, _, t2⟩ := (hx.below hB02).cells HE.out
          rw [← hW1]
          have HW2 := Lib.hid hW2
          have HO3 := Lib.hid hO3
          have HB02 := Lib.hid hB02
          clear hW1 hW2 hO1 hO2 hO3 hbl1 hbl2 heq c0 c1 c2 f0 f1 f2 hB02
          go_wp2_with fail
          rw [← HW2.out]
          have t2d : W2.drew.cell? ⟨b, off + k * 3 + 2, none⟩ = some (.string (strB e.x)) := t2
          have t3d : W2.drew.cell? ⟨g, q * 3 + 2, none⟩ = some (.string (strB cc.x)) := t3
          have fz2d : W2.drew.frozen? ⟨g, q * 3 + 2, none⟩ = false := fz2
          have z1 := Z1.out
          go_still_tail 17, (by kernel_rfl)
          change wpList _ _ _ _ _ W2.drew
          have hBf : Below w.heap.size w (W2.setCell ⟨g, q * 3 + 2, none⟩ (.string (strB cc.x ++ strB e.x))).drew := Below.drew (HB02.out.setCell (p := ⟨g, q * 3 + 2, none⟩) hgb _)
          have hO3d : OwnEds (W2.setCell ⟨g, q * 3 + 2, none⟩ (.string (strB cc.x ++ strB e.x))).drew w.heap.size (.slice (some ⟨g, 0, none⟩) (q + 1) cv) (done ++ [(⟨cc.f, e.t, cc.x ++ e.x⟩ : Ed)]) := HO3.out
          have HO3D := Lib.hid hO3d
          have HBF := Lib.hid hBf
          have hJn : JRel (done ++ [⟨cc.f, e.t, cc.x ++ e.x⟩]) (es.drop (k + 1)) R := by
            refine .inr ⟨done, _, rfl, ?_⟩
            have h := HJ.out
            unfold joinC at h
            rw [if_pos HEQ.out] at h
            exact h
          have hxn : ∀ y ∈ done ++ [(⟨cc.f, e.t, cc.x ++ e.x⟩ : Ed)], y.x.length ≤ 1000000 * (k + 1) := fun y hy => by
            rcases List.mem_append.1 hy with h | h
            · have := HDX.out y h; omega
            · simp only [List.mem_singleton] at h
              subst h
              show (cc.x ++ e.x).length ≤ _
              rw [List.length_append]
              omega
          have HJN := Lib.hid hJn
          have HXN := Lib.hid hxn
          clear hJn hxn hBf hO3d
          go_wp2_with fail
          first
            | exact ⟨⟨k + 1, done ++ [(⟨cc.f, e.t, cc.x ++ e.x⟩ : Ed)], by omega, by go_num, by simp; omega, HJN, HXN, HO3D.out, HBF.out⟩, by simp [intOf]; omega⟩
            | (go_roundw
               case rel => exact ⟨k + 1, done ++ [(⟨cc.f, e.t, cc.x ++ e.x⟩ : Ed)], by omega, by go_num, by simp; omega, HJN, HXN, HO3D.out, HBF.out⟩
               case measure => simp [intOf]; omega)
        · have d1 : (cc.t == e.f) = false := by simpa using heq
          have HEQ := Lib.hid heq
          clear heq
          go_wp2_with fail
          go_quiet (fail)
          obtain ⟨W1, hW1⟩ : ∃ W1, W1 = wr.drewN nq := ⟨_, rfl⟩
          have hB1 : Below wr.heap.size wr W1 := by rw [hW1]; exact Below.drewN _
          have y0 := Below.kept hB1 (Nat.le_refl _) f0
          have y1 := Below.kept hB1 (Nat.le_refl _) f1
          have y2 := Below.kept hB1 (Nat.le_refl _) f2
          rw [← hW1]
          clear hW1 c0 c1 c2
          have hs1 := hB1.size
          have hown0 := HO0.out
          unfold OwnEds at hown0
          have hll : (done ++ [cc]).length = q + 1 := by simp; exact hqq
          rw [hll] at hown0
          have HO0 := Lib.hid hown0
          clear hown0
          go_wp2_with (at_builtin; refine wpList_append_src _ rfl (.tmp 57) (.tmp 62) 22 rfl elemE w.heap.size _ (q + 1) _ rfl (ownsRow_below HO0.out (hB1.trans ((Below.refl _ W1).alloc hs1 _))) (some ⟨W1.heap.size, 0, none⟩) 1 1 [.int .i64 e.f, .int .i64 e.t, .string (strB e.x)] rfl (row_new (cs := [.int .i64 e.f, .int .i64 e.t, .string (strB e.x)]) rfl (by decide)) (by simp [Value.oneCell']) (by omega) (by omega) (by simp; omega) ?_; intro v2 w2 hown2 hB2 hgrow)
          have hO2 : OwnEds w2 w.heap.size v2 (done ++ [cc] ++ [e]) := OwnEds.snoc (es := done ++ [cc]) (by rw [hll]; exact hown2)
          have hBf : Below w.heap.size w w2 := (HB0.out.trans ((hB1.mono hsz1).trans ((Below.refl _ W1).alloc (Nat.le_trans hsz1 hs1) _))).trans hB2
          have hJn : JRel (done ++ [cc] ++ [e]) (es.drop (k + 1)) R := by
            refine .inr ⟨done ++ [cc], e, rfl, ?_⟩
            have h := HJ.out
            unfold joinC at h
            rw [if_neg HEQ.out] at h
            simpa using h
          have hxn : ∀ y ∈ done ++ [cc] ++ [e], y.x.length ≤ 1000000 * (k + 1) := fun y hy => by
            rcases List.mem_append.1 hy with h | h
            · rcases List.mem_append.1 h with h | h
              · have := HDX.out y h; omega
              · simp only [List.mem_singleton] at h; subst h; omega
            · simp only [List.mem_singleton] at h; subst h; omega
          first
            | exact ⟨⟨k + 1, done ++ [cc] ++ [e], by omega, by go_num, by simp; omega, hJn, hxn, hO2, hBf⟩, by simp [intOf]; omega⟩
            | (go_roundw
               case rel => exact ⟨k + 1, done ++ [cc] ++ [e], by omega, by go_num, by simp; omega, hJn, hxn, hO2, hBf⟩
               case measure => simp [intOf]; omega)
    · have hjr := hJ.out
      rw [List.drop_of_length_le (by omega)] at hjr
      obtain rfl := hjr.done
      have HO := Lib.hid hO
      clear hO hJ hjr hJx HJ0
      go_wp2_with fail
      go_ret
      exact ⟨_, rfl, HO.out, hB⟩
end Go.Proofs.Ytpncjgcdiomloaa
