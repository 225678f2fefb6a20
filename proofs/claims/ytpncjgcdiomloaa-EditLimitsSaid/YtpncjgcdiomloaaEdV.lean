/-
  Contract: edit.normal: neighbors joined, what changes nothing dropped.
-/
import Derived.Test.YtpncjgcdiomloaaEdS
import Derived.Test.YtpncjgcdiomloaaEdN
import Derived.StillTactics
import Derived.StillTailTactics
namespace Go.Proofs.Ytpncjgcdiomloaa
open Go Go.Proofs
open Go.RowKit
set_option linter.unusedVariables false
set_option linter.unusedSimpArgs false

theorem OwnEds.set {w : World} {base : Nat} {g n cap : Nat} {es es' : List Ed} (h : OwnEds w base (.slice (some ⟨g, 0, none⟩) n cap) es) {q : Nat} {v : Value} (hl : es'.length = es.length) (he : (edCs es).set q v = edCs es') :
    OwnEds (w.setCell ⟨g, q, none⟩ v) base (.slice (some ⟨g, 0, none⟩) n cap) es' := by
  refine ⟨edCs_len es', ?_⟩
  rcases h.2 with ⟨hn, _⟩ | ⟨g', cap', cur, hv, hg, hgg, hc, hm, hs, ht⟩
  · simp at hn
  · simp only [Value.slice.injEq, Option.some.injEq, Addr.mk.injEq, and_true, true_and] at hv
    obtain ⟨rfl, hn, rfl⟩ := hv
    have hlt := lt_of_block hgg
    have hh : w.heap[g] = .cells cur 39 (0, 0) := by simpa [Array.getElem?_eq_getElem hlt] using hgg
    refine .inr ⟨g, cap, cur.setIfInBounds q v, by rw [hl, hn], hg, ?_, by omega, hm, by rw [Array.size_setIfInBounds]; exact hs, ?_⟩
    · show (w.heap.modify g _)[g]? = _
      rw [Array.getElem?_eq_getElem (by simpa using hlt), Array.getElem_modify_self, hh]
      simp
    · rw [hl, Array.toList_setIfInBounds, List.take_set, ht, he]
theorem edCs_setx : ∀ {es : List Ed} {k : Nat} {e : Ed}, es[k]? = some e → ∀ x, (edCs es).set (k * 3 + 2) (.string (strB x)) = edCs (es.set k ⟨e.f, e.t, x⟩)
  | [], k, e, h, x => by simp at h
  | y :: es, 0, e, h, x => by simp at h; subst h; rfl
  | y :: es, k + 1, e, h, x => by
    have h1 := edCs_setx (es := es) (k := k) (e := e) (by simpa using h) x
    have e1 : ∀ (y : Ed) (l : List Ed), edCs (y :: l) = .int .i64 y.f :: .int .i64 y.t :: .string (strB y.x) :: edCs l := fun _ _ => rfl
    rw [List.set_cons_succ, e1, e1, show (k + 1) * 3 + 2 = k * 3 + 2 + 1 + 1 + 1 by omega, List.set_cons_succ, List.set_cons_succ, List.set_cons_succ, h1]
theorem snd_mem {n : Nat} {es : List Ed} : ∀ {p : Nat}, Snd n p es → ∀ e ∈ es, 0 ≤ e.f ∧ e.f ≤ e.t ∧ e.t ≤ (n : Int) := by
  induction es with
  | nil => intro p _ e he; simp at he
  | cons x es ih =>
    intro p h e he
    obtain ⟨h1, h2, h3, h4⟩ := h
    rcases List.mem_cons.1 he with rfl | he
    · omega
    · exact ih h4 e he
/-- What has been joined so far, and what is to come. -/
def JRel (J rest R : List Ed) : Prop := (J = [] ∧ joinL rest = R) ∨ ∃ done c, J = done ++ [c] ∧ done ++ joinC c rest = R
theorem JRel.done {J R : List Ed} (h : JRel J [] R) : J = R := by
  rcases h with ⟨h1, h2⟩ | ⟨d, c, h1, h2⟩
  · rw [h1, ← h2]; rfl
  · rw [h1, ← h2]; rfl

set_option maxRecDepth 100000 in
set_option maxHeartbeats 8000000 in
theorem normal_any (s : ByteArray) (a : Option Addr) (c : Nat) (es : List Ed) (w : World) (hs : s.size ≤ 1000000) (hx : EdsAt w a c es) (hl : es.length ≤ 1000) (hS : Snd s.size 0 es) (hb : ∀ e ∈ es, e.x.length ≤ 1000000) :
    Calls Try.prog 46 #[.string s, .slice a es.length c] w fun e w' => ∃ v, e = .returned v ∧ OwnEds w' w.heap.size v (normL s.data.toList es) ∧ Below w.heap.size w w' := by
  have hm := hx.max
  have HSN := Lib.hid (joinL_snd hS)
  have HX := Lib.hid hb
  unfold normL
  generalize hR : joinL es = R at *
  have hJ0 : JRel [] es R := .inl ⟨rfl, hR⟩
  have HJ0 := Lib.hid hJ0
  clear hR hJ0 hS hb
  go_enter Try.func46, Try.ntmps46
  go_wp2_with fail
  go_loopw [5, 14] (fun jv iv wr => ∃ (k : Nat) (J : List Ed), k ≤ es.length ∧ iv = .int .i64 k ∧ J.length ≤ k ∧ Hid (JRel J (es.drop k) R) ∧ Hid (∀ e ∈ J, e.x.length ≤ 1000000 * k) ∧ OwnEds wr w.heap.size jv J ∧ Below w.heap.size w wr) (fun _ iv _ => es.length - (intOf iv).toNat)
  case atStart => exact ⟨0, [], by omega, rfl, by simp, HJ0.out, fun e he => by simp at he, OwnEds.nil _ _, Below.refl _ _⟩
  case round =>
    obtain ⟨k, J, hk, rfl, hJl, hJ, hJx, hO, hB⟩ := hrel
    by_cases hlt : k < es.length
    · obtain ⟨b, off, rfl⟩ := hx.addr (by omega)
      obtain ⟨e, he⟩ : ∃ e, es[k]? = some e := ⟨es[k], List.getElem?_eq_getElem hlt⟩
      obtain ⟨f0, f1, f2⟩ := (hx.below hB).cells he
      have hxe := HX.out e (List.mem_of_getElem? he)
      have hd : es.drop k = e :: es.drop (k + 1) := by
        rw [List.getElem?_eq_getElem hlt, Option.some.injEq] at he
        rw [List.drop_eq_getElem_cons hlt, he]
      have hJ' := hJ.out
      rw [hd] at hJ'
      obtain ⟨W0, hW0⟩ : ∃ x, x = wr.alloc (.cells #[.int .i64 e.f, .int .i64 e.t, .string (strB e.x)] 39) := ⟨_, rfl⟩
      have hb0 : W0.heap[wr.heap.size]? = some (.cells #[.int .i64 e.f, .int .i64 e.t, .string (strB e.x)] 39 (0, 0)) := by rw [hW0]; exact heap_alloc_new wr _
      have hz0 : W0.heap.size = wr.heap.size + 1 := by rw [hW0]; exact World.size_alloc _ _
      have hBB : Below wr.heap.size wr W0 := by rw [hW0]; exact (Below.refl _ wr).alloc (Nat.le_refl _) _
      have hB0 := hB.trans (hBB.mono hB.size)
      have hO0 := hO.below hBB
      have hsz1 := hB.size
      obtain ⟨x0, x1, x2⟩ := ed_cells hb0
      have HW0 := Lib.hid hW0
      have HO0 := Lib.hid hO0
      have HB0 := Lib.hid hB0
      have HHB := Lib.hid hb0
      have HZ := Lib.hid hz0
      obtain ⟨av, cv, rfl, _⟩ := hO0.at
      have hown : ∀ g, (Value.slice av J.length cv).ownBlock = some g → g < wr.heap.size := fun g hg => (hO.lt g hg).2
      have HOWN := Lib.hid hown
      clear hW0 hBB hB0 hO0 hb0 hz0 hd he hJ hO hB hown
      generalize hgx : wr.heap.size = gx at *
      have hW0s : w.heap.size ≤ W0.heap.size := by have := HZ.out; omega
      rcases hJ' with ⟨rfl, hj⟩ | ⟨done, cc, rfl, hj⟩
      · have HJ := Lib.hid hj
        clear hj hJx
        simp only [List.length_nil] at *
        go_wp2_with fail
        rw [← HW0.out]
        go_quiet (fail)
        obtain ⟨W1, hW1⟩ : ∃ W1, W1 = W0.drewN nq := ⟨_, rfl⟩
        have hB1 : Below W0.heap.size W0 W1 := by rw [hW1]; exact Below.drewN _
        have y0 := Below.kept hB1 (Nat.le_refl _) x0
        have y1 := Below.kept hB1 (Nat.le_refl _) x1
        have y2 := Below.kept hB1 (Nat.le_refl _) x2
        rw [← hW1]
        clear hW1
        have hs1 := hB1.size
        go_wp2_with (at_builtin; refine wpList_append_src _ rfl (.tmp 51) (.tmp 53) 22 rfl elemE w.heap.size _ 0 _ rfl (ownsRow_below HO0.out (hB1.trans ((Below.refl _ W1).alloc hs1 _))) (some ⟨W1.heap.size, 0, none⟩) 1 1 [.int .i64 e.f, .int .i64 e.t, .string (strB e.x)] rfl (row_new (cs := [.int .i64 e.f, .int .i64 e.t, .string (strB e.x)]) rfl (by decide)) (by simp [Value.oneCell']) (by omega) (by omega) (by simp; omega) ?_; intro v2 w2 hown2 hB2 hgrow)
        have hO2 : OwnEds w2 w.heap.size v2 [e] := OwnEds.snoc (es := []) hown2
        have hBf : Below w.heap.size w w2 := (HB0.out.trans ((hB1.mono hW0s).trans ((Below.refl _ W1).alloc (Nat.le_trans hW0s hs1) _))).trans hB2
        have hJn : JRel [e] (es.drop (k + 1)) R := .inr ⟨[], e, rfl, HJ.out⟩
        have hxn : ∀ y ∈ [e], y.x.length ≤ 1000000 * (k + 1) := fun y hy => by simp at hy; subst hy; omega
        exact ⟨⟨k + 1, [e], by omega, by go_num, by simp, hJn, hxn, hO2, hBf⟩, by simp [intOf]; omega⟩
      · have hcx := hJx.out cc (by simp)
        have hdx := fun y (hy : y ∈ done) => hJx.out y (by simp [hy])
        have HDX := Lib.hid hdx
        have hq : (done ++ [cc])[done.length]? = some cc := by simp
        obtain ⟨g, rfl, hgb, hblk⟩ := HO0.out.blk (by simp)
        obtain ⟨c0, c1, c2⟩ := hblk.at.cells hq
        rw [Nat.zero_add] at c0 c1 c2
        have hgl : g < gx := HOWN.out g rfl
        have hbc := hblk.at.le
        have hset1 := (edCs_set hq).2 e.t
        have hJ1 : (done ++ [cc]).set done.length ⟨cc.f, e.t, cc.x⟩ = done ++ [⟨cc.f, e.t, cc.x⟩] := by simp
        have hq1 : (done ++ [(⟨cc.f, e.t, cc.x⟩ : Ed)])[done.length]? = some ⟨cc.f, e.t, cc.x⟩ := by simp
        have hset2 := edCs_setx hq1 (cc.x ++ e.x)
        have hJ2 : (done ++ [(⟨cc.f, e.t, cc.x⟩ : Ed)]).set done.length ⟨cc.f, e.t, cc.x ++ e.x⟩ = done ++ [⟨cc.f, e.t, cc.x ++ e.x⟩] := by simp
        simp only at hset2
        rw [hJ1] at hset1
        rw [hJ2] at hset2
        have fz0 := hblk.frozen (done.length * 3 + 1)
        have HBLK := Lib.hid hblk
        have HS1 := Lib.hid hset1
        have HS2 := Lib.hid hset2
        have HQ1 := Lib.hid hq1
        have HQ0 := Lib.hid hq
        have HJ := Lib.hid hj
        have hln : (done ++ [cc]).length = done.length + 1 := by simp
        rw [hln] at hJl hbc HOWN HO0 ⊢
        generalize hqq : done.length = q at *
        have i1 : ((q : Int) + 1) - 1 = (q : Int) := by omega
        have i2 : IntKind.i64.wrap (q : Int) = (q : Int) := IntWalk.i64_in _ (by omega)
        have i3 : (q : Int) < (q : Int) + 1 := by omega
        clear hblk hset1 hset2 hq hq1 hJ1 hJ2 hj hln hJx hdx
        by_cases heq : cc.t = e.f
        · have d1 : (cc.t == e.f) = true := by simpa using heq
          have HEQ := Lib.hid heq
          have z1 : ¬ 9223372036854775807 < (strB cc.x).size + (strB e.x).size := by rw [strB_size, strB_size]; omega
          have Z1 := Lib.hid z1
          clear z1
          go_wp2_with fail
          rw [← HW0.out]
          go_quiet (fail)
          obtain ⟨W1, hW1⟩ : ∃ W1, W1 = W0.drewN nq := ⟨_, rfl⟩
          have hB1 : Below W0.heap.size W0 W1 := by rw [hW1]; exact Below.drewN _
          have y0 := Below.kept hB1 (Nat.le_refl _) x0
          have y1 := Below.kept hB1 (Nat.le_refl _) x1
          have y2 := Below.kept hB1 (Nat.le_refl _) x2
          have hbl1 := HBLK.out.below hB1
          have fz1 := hbl1.frozen (q * 3 + 1)
          obtain ⟨_, u1, _⟩ := hbl1.at.cells HQ0.out
          rw [Nat.zero_add] at u1
          have hO1 := OwnEds.below (es := done ++ [cc]) (by have h := HO0.out; unfold OwnEds at h ⊢; exact h) hB1
          have hO2 := hO1.set (es' := done ++ [⟨cc.f, e.t, cc.x⟩]) (by simp) HS1.out
          obtain ⟨W2, hW2⟩ : ∃ W2, W2 = W1.setCell ⟨g, q * 3 + 1, none⟩ (.int .i64 e.t) := ⟨_, rfl⟩
          rw [← hW2] at hO2
          have hlx : gx < W1.heap.size := World.block_lt_of_cell? W1 _ y2
          have t2 : W2.cell? ⟨gx, 2, none⟩ = some (.string (strB e.x)) := by rw [hW2, World.cell?_setCell_far _ _ _ _ (by simp; omega)]; exact y2
          obtain ⟨g', hg', _, hbl2⟩ := hO2.blk (by simp)
          simp only [Option.some.injEq, Addr.mk.injEq, and_true] at hg'
          subst hg'
          obtain ⟨_, _, t3⟩ := hbl2.at.cells HQ1.out
          rw [Nat.zero_add] at t3
          simp only at t3
          have fz2 := hbl2.frozen (q * 3 + 2)
          have hO3 := hO2.set (v := .string (strB cc.x ++ strB e.x)) (es' := done ++ [⟨cc.f, e.t, cc.x ++ e.x⟩]) (by simp) (by rw [strB_app]; exact HS2.out)
          have hB2 : Below w.heap.size W1 W2 := by rw [hW2]; exact (Below.refl _ W1).setCell (p := ⟨g, q * 3 + 1, none⟩) hgb _
          rw [← hW1]
          have HW2 := Lib.hid hW2
          have HO3 := Lib.hid hO3
          clear hW1 hW2 hO1 hO2 hO3 hbl1 hbl2 heq c0 c1 c2 x0 x1 x2
          go_wp2_with fail
          rw [← HW2.out]
          have t2d : W2.drew.cell? ⟨gx, 2, none⟩ = some (.string (strB e.x)) := t2
          have t3d : W2.drew.cell? ⟨g, q * 3 + 2, none⟩ = some (.string (strB cc.x)) := t3
          have fz2d : W2.drew.frozen? ⟨g, q * 3 + 2, none⟩ = false := fz2
          have z1 := Z1.out
          go_still_tail 11, (by kernel_rfl)
          change wpList _ _ _ _ _ W2.drew
          have hBf : Below w.heap.size w (W2.setCell ⟨g, q * 3 + 2, none⟩ (.string (strB cc.x ++ strB e.x))).drew := Below.drew (((HB0.out.trans (hB1.mono hW0s)).trans hB2).setCell (p := ⟨g, q * 3 + 2, none⟩) hgb _)
          have hO3d : OwnEds (W2.setCell ⟨g, q * 3 + 2, none⟩ (.string (strB cc.x ++ strB e.x))).drew w.heap.size (.slice (some ⟨g, 0, none⟩) (q + 1) cv) (done ++ [(⟨cc.f, e.t, cc.x ++ e.x⟩ : Ed)]) := HO3.out
          have HO3D := Lib.hid hO3d
          clear hO3d
          have HBF := Lib.hid hBf
          have hJn : JRel (done ++ [⟨cc.f, e.t, cc.x ++ e.x⟩]) (es.drop (k + 1)) R := by
            refine .inr ⟨done, _, rfl, ?_⟩
            have h := HJ.out
            unfold joinC at h
            rw [if_pos HEQ.out] at h
            exact h
          have hxn : ∀ y ∈ done ++ [(⟨cc.f, e.t, cc.x ++ e.x⟩ : Ed)], y.x.length ≤ 1000000 * (k + 1) := fun y hy => by
            rcases List.mem_append.1 hy with h | h
            · have := HDX.out y h; omega
            · simp only [List.mem_singleton] at h
              subst h
              show (cc.x ++ e.x).length ≤ _
              rw [List.length_append]
              omega
          have HJN := Lib.hid hJn
          have HXN := Lib.hid hxn
          clear hJn hxn hBf
          go_wp2_with fail
          exact ⟨⟨k + 1, done ++ [(⟨cc.f, e.t, cc.x ++ e.x⟩ : Ed)], by omega, by go_num, by simp; omega, HJN, HXN, HO3D.out, HBF.out⟩, by simp [intOf]; omega⟩
        · have d1 : (cc.t == e.f) = false := by simpa using heq
          have HEQ := Lib.hid heq
          clear heq
          go_wp2_with fail
          rw [← HW0.out]
          go_quiet (fail)
          obtain ⟨W1, hW1⟩ : ∃ W1, W1 = W0.drewN nq := ⟨_, rfl⟩
          have hB1 : Below W0.heap.size W0 W1 := by rw [hW1]; exact Below.drewN _
          have y0 := Below.kept hB1 (Nat.le_refl _) x0
          have y1 := Below.kept hB1 (Nat.le_refl _) x1
          have y2 := Below.kept hB1 (Nat.le_refl _) x2
          rw [← hW1]
          clear hW1 c0 c1 c2
          have hs1 := hB1.size
          have hown0 := HO0.out
          unfold OwnEds at hown0
          have hll : (done ++ [cc]).length = q + 1 := by simp; exact hqq
          rw [hll] at hown0
          have HO0 := Lib.hid hown0
          clear hown0
          go_wp2_with (at_builtin; refine wpList_append_src _ rfl (.tmp 51) (.tmp 53) 22 rfl elemE w.heap.size _ (q + 1) _ rfl (ownsRow_below HO0.out (hB1.trans ((Below.refl _ W1).alloc hs1 _))) (some ⟨W1.heap.size, 0, none⟩) 1 1 [.int .i64 e.f, .int .i64 e.t, .string (strB e.x)] rfl (row_new (cs := [.int .i64 e.f, .int .i64 e.t, .string (strB e.x)]) rfl (by decide)) (by simp [Value.oneCell']) (by omega) (by omega) (by simp; omega) ?_; intro v2 w2 hown2 hB2 hgrow)
          have hO2 : OwnEds w2 w.heap.size v2 (done ++ [cc] ++ [e]) := OwnEds.snoc (es := done ++ [cc]) (by rw [hll]; exact hown2)
          have hBf : Below w.heap.size w w2 := (HB0.out.trans ((hB1.mono hW0s).trans ((Below.refl _ W1).alloc (Nat.le_trans hW0s hs1) _))).trans hB2
          have hJn : JRel (done ++ [cc] ++ [e]) (es.drop (k + 1)) R := by
            refine .inr ⟨done ++ [cc], e, rfl, ?_⟩
            have h := HJ.out
            unfold joinC at h
            rw [if_neg HEQ.out] at h
            simpa using h
          have hxn : ∀ y ∈ done ++ [cc] ++ [e], y.x.length ≤ 1000000 * (k + 1) := fun y hy => by
            rcases List.mem_append.1 hy with h | h
            · rcases List.mem_append.1 h with h | h
              · have := HDX.out y h; omega
              · simp only [List.mem_singleton] at h; subst h; omega
            · simp only [List.mem_singleton] at h; subst h; omega
          exact ⟨⟨k + 1, done ++ [cc] ++ [e], by omega, by go_num, by simp; omega, hJn, hxn, hO2, hBf⟩, by simp [intOf]; omega⟩
    · have hjr := hJ.out
      rw [List.drop_of_length_le (by omega)] at hjr
      obtain rfl := hjr.done
      have hJk : J.length ≤ 1000 := by omega
      obtain ⟨aj, cj, rfl, hrow⟩ := hO.at
      have hcj := hrow.le
      have hcm := hrow.2.2.1
      have HROW := Lib.hid hrow
      clear hrow hO hJ hjr hJx HJ0
      obtain ⟨wo, rfl⟩ : ∃ wo : World, wo = wr := ⟨_, rfl⟩
      go_wp2_with fail
      go_loopw [9, 58] (fun ov iv wr => ∃ (i : Nat) (acc : List Ed), i ≤ J.length ∧ iv = .int .i64 i ∧ acc.length ≤ i ∧ Hid (acc = (J.take i).filter (keepE s.data.toList)) ∧ OwnEds wr wo.heap.size ov acc ∧ Below wo.heap.size wo wr) (fun _ iv _ => J.length - (intOf iv).toNat)
      case atStart => exact ⟨0, [], by omega, rfl, by simp, by rfl, OwnEds.nil _ _, Below.refl _ _⟩
      case round =>
        obtain ⟨i, acc, hi, rfl, hal, hacc, hO, hB2⟩ := hrel
        by_cases hil : i < J.length
        · obtain ⟨b, off, rfl⟩ := HROW.out.addr (by omega)
          obtain ⟨e, he⟩ : ∃ e, J[i]? = some e := ⟨J[i], List.getElem?_eq_getElem hil⟩
          obtain ⟨f0, f1, f2⟩ := (HROW.out.below hB2).cells he
          obtain ⟨m1, m2, m3⟩ := snd_mem HSN.out e (List.mem_of_getElem? he)
          have hta : (J.take (i + 1)).filter (keepE s.data.toList) = acc ++ (if keepE s.data.toList e then [e] else []) := by
            rw [List.take_succ_eq_append_getElem hil, List.filter_append, hacc.out]
            rw [List.getElem?_eq_getElem hil, Option.some.injEq] at he
            rw [he, List.filter_cons, List.filter_nil]
          obtain ⟨ef, et, ex⟩ := e
          simp only at f0 f1 f2 m1 m2 m3
          obtain ⟨f, rfl⟩ : ∃ f : Nat, ef = f := ⟨ef.toNat, by omega⟩
          obtain ⟨t, rfl⟩ : ∃ t : Nat, et = t := ⟨et.toNat, by omega⟩
          have hkeep : keepE s.data.toList ⟨f, t, ex⟩ = !decide (s.extract f t = strB ex) := by
            unfold keepE
            simp only [Int.toNat_natCast]
            congr 1
            rw [ext_strB]
            exact decide_eq_decide.2 ⟨fun h => congrArg strB h, fun h => by rw [← strB_list (cutL s.data.toList f t), h, strB_list]⟩
          rw [hkeep] at hta
          obtain ⟨cut, hcut⟩ : ∃ cut, s.extract f t = cut := ⟨_, rfl⟩
          obtain ⟨tx, htx⟩ : ∃ tx, strB ex = tx := ⟨_, rfl⟩
          rw [htx] at f2
          rw [hcut, htx] at hta
          obtain ⟨W0, hW0⟩ : ∃ x, x = wr.alloc (.cells #[.int .i64 f, .int .i64 t, .string tx] 39) := ⟨_, rfl⟩
          have hb0 : W0.heap[wr.heap.size]? = some (.cells #[.int .i64 f, .int .i64 t, .string tx] 39 (0, 0)) := by rw [hW0]; exact heap_alloc_new wr _
          have hz0 : W0.heap.size = wr.heap.size + 1 := by rw [hW0]; exact World.size_alloc _ _
          have hBB : Below wr.heap.size wr W0 := by rw [hW0]; exact (Below.refl _ wr).alloc (Nat.le_refl _) _
          have hB0 := hB2.trans (hBB.mono hB2.size)
          have hO0 := hO.below hBB
          have hsz1 := hB2.size
          obtain ⟨x0, x1, x2⟩ := ed_cells hb0
          have d0 : W0.drew.cell? ⟨wr.heap.size, 0, none⟩ = some (.int .i64 f) := x0
          have d1 : W0.drew.cell? ⟨wr.heap.size, 1, none⟩ = some (.int .i64 t) := x1
          have d2 : W0.drew.cell? ⟨wr.heap.size, 2, none⟩ = some (.string tx) := x2
          have HW0 := Lib.hid hW0
          have HO0 := Lib.hid hO0
          have HB0 := Lib.hid hB0
          have HZ := Lib.hid hz0
          have HTA := Lib.hid hta
          have HTX := Lib.hid htx
          obtain ⟨av, cv, rfl, _⟩ := hO0.at
          clear hW0 hBB hB0 hO0 hb0 hz0 he hO hB2 hta hkeep htx hacc
          generalize hgx : wr.heap.size = gx at *
          have hW0s : wo.heap.size ≤ W0.heap.size := by have := HZ.out; omega
          by_cases hk : cut = tx
          · subst hk
            have hta2 := HTA.out
            rw [show decide (cut = cut) = true by simp] at hta2
            simp only [Bool.not_true, Bool.false_eq_true, if_false, List.append_nil] at hta2
            have HTA2 := Lib.hid hta2
            clear hta2 HTA
            go_wp2_with fail
            rw [← HW0.out]
            refine wp_region_still_lit (by kernel_rfl) (by kernel_rfl) ?_
            repeat still_step
            refine wpStill_nil ?_
            change Exit.then _ _ _ _ W0.drew
            go_wp2_with fail
            have hBd : Below wo.heap.size wo W0.drew := Below.drew HB0.out
            have hOd : OwnEds W0.drew wo.heap.size (.slice av acc.length cv) acc := HO0.out
            exact ⟨⟨i + 1, acc, by omega, by go_num, by omega, Lib.hid HTA2.out.symm, hOd, hBd⟩, by simp [intOf]; omega⟩
          · have hkl : ¬ tx.toList = cut.toList := fun h => by
              rw [ByteArray.toList_eq, ByteArray.toList_eq] at h
              apply hk
              rw [← strB_of cut, ← strB_of tx, h]
            have g1 : (tx.toList == cut.toList) = false := by simpa using hkl
            have g2 : (tx.toList != cut.toList) = true := by simpa using hkl
            have hta2 := HTA.out
            rw [show decide (cut = tx) = false by simpa using hk] at hta2
            simp only [Bool.not_false, if_true] at hta2
            have HTA2 := Lib.hid hta2
            clear hta2 HTA hk
            go_wp2_with fail
            rw [← HW0.out]
            refine wp_region_still_lit (by kernel_rfl) (by kernel_rfl) ?_
            repeat still_step
            refine wpStill_nil ?_
            change Exit.then _ _ _ _ W0.drew
            obtain ⟨W1, hW1⟩ : ∃ W1, W1 = W0.drew := ⟨_, rfl⟩
            have hB1 : Below W0.heap.size W0 W1 := by rw [hW1]; exact Below.drew (Below.refl _ _)
            have y0 := Below.kept hB1 (Nat.le_refl _) x0
            have y1 := Below.kept hB1 (Nat.le_refl _) x1
            have y2 := Below.kept hB1 (Nat.le_refl _) x2
            rw [← hW1]
            clear hW1 d0 d1 d2
            have hs1 := hB1.size
            go_wp2_with (at_builtin; refine wpList_append_src _ rfl (.tmp 75) (.tmp 77) 22 rfl elemE wo.heap.size _ acc.length _ rfl (ownsRow_below HO0.out (hB1.trans ((Below.refl _ W1).alloc hs1 _))) (some ⟨W1.heap.size, 0, none⟩) 1 1 [.int .i64 f, .int .i64 t, .string tx] rfl (row_new (cs := [.int .i64 f, .int .i64 t, .string tx]) rfl (by decide)) (by simp [Value.oneCell']) (by omega) (by omega) (by simp; omega) ?_; intro v2 w2 hown2 hB2 hgrow)
            have hO2 : OwnEds w2 wo.heap.size v2 (acc ++ [⟨f, t, ex⟩]) := OwnEds.snoc (e := ⟨f, t, ex⟩) (by unfold edC; simp only; rw [HTX.out]; exact hown2)
            have hBf : Below wo.heap.size wo w2 := (HB0.out.trans ((hB1.mono hW0s).trans ((Below.refl _ W1).alloc (Nat.le_trans hW0s hs1) _))).trans hB2
            exact ⟨⟨i + 1, acc ++ [⟨f, t, ex⟩], by omega, by go_num, by simp; omega, Lib.hid HTA2.out.symm, hO2, hBf⟩, by simp [intOf]; omega⟩
        · have hfin := hacc.out
          rw [List.take_of_length_le (by omega)] at hfin
          subst hfin
          have HOF := Lib.hid (OwnEds.base hO hB.size)
          clear hO hacc
          go_wp2_with fail
          go_ret
          exact ⟨_, rfl, HOF.out, hB.trans (hB2.mono hB.size)⟩
end Go.Proofs.Ytpncjgcdiomloaa
