/-
  The contract of edit.Compose.
-/
import Derived.Test.YtpncjgcdiomloaaEdCa
import Derived.StillTailTactics
namespace Go.Proofs.Ytpncjgcdiomloaa
open Go Go.Proofs
open Go.RowKit
set_option linter.unusedVariables false
set_option linter.unusedSimpArgs false

/-- What Compose returns. -/
def compE (l : List UInt8) (a b : List Ed) : Int :=
  if validL l.length a ≠ 0 then validL l.length a else if validL (applyL l 0 a).length b ≠ 0 then validL (applyL l 0 a).length b else if 64 < (normL l (compP l a b)).length then 4 else 0
def compO (l : List UInt8) (a b : List Ed) : List Ed := if compE l a b = 0 then normL l (compP l a b) else []
theorem seds_new {X : Nat → Prop} {Bl : Nat} {W : World} {a : Option Addr} {c : Nat} {es : List Ed} {n0 : Nat} {t : TypeId} (h : EdsAt W a c es) (hB : W.heap[Bl]? = some (.cells #[.slice none 0 0] t (0, 0))) (hX : ∀ k, X k → n0 ≤ k)
    (ho : 0 < es.length → ∀ b off, a = some ⟨b, off, none⟩ → b < n0) : SEds X Bl W a c es := by
  refine ⟨h, fun hp => ?_⟩
  obtain ⟨b, off, rfl⟩ := h.addr hp
  obtain ⟨e0, _, _⟩ := h.cells (k := 0) (e := es[0]) (List.getElem?_eq_getElem hp)
  obtain ⟨o, h1, h2⟩ := cells_of_cell e0
  refine ⟨b, off, o, rfl, ⟨none, 0, 0, t, hB, fun ad e => by cases e⟩, fun hx => ?_, h1, h2⟩
  have := hX _ hx
  have := ho hp b off rfl
  omega
theorem eds_lt {W : World} {a : Option Addr} {c : Nat} {es : List Ed} (h : EdsAt W a c es) (hp : 0 < es.length) : ∀ b off, a = some ⟨b, off, none⟩ → b < W.heap.size := by
  rintro b off rfl
  obtain ⟨e0, _, _⟩ := h.cells (k := 0) (e := es[0]) (List.getElem?_eq_getElem hp)
  exact World.block_lt_of_cell? W _ e0

theorem region_only {P : Program} {c : Code} {K : Act → World → Prop} {Q : Exit → Act → World → Prop} {a : Act} {w : World} (h : c.wp P (Exit.then K fun _ _ _ => False) a w) : c.wp P (Exit.then K Q) a w :=
  Code.wp_mono (fun e a w (h : Exit.then K (fun _ _ _ => False) e a w) => by cases e <;> first | exact h | exact False.elim h) h
theorem heap8 (h : Array Obj) (o0 o1 o2 o3 o4 o5 o6 o7 : Obj) :
    ((((((((h.push o0).push o1).push o2).push o3).push o4).push o5).push o6).push o7)[h.size]? = some o0 ∧ ((((((((h.push o0).push o1).push o2).push o3).push o4).push o5).push o6).push o7)[h.size + 1]? = some o1 ∧
    ((((((((h.push o0).push o1).push o2).push o3).push o4).push o5).push o6).push o7)[h.size + 2]? = some o2 ∧ ((((((((h.push o0).push o1).push o2).push o3).push o4).push o5).push o6).push o7)[h.size + 3]? = some o3 ∧
    ((((((((h.push o0).push o1).push o2).push o3).push o4).push o5).push o6).push o7)[h.size + 4]? = some o4 ∧ ((((((((h.push o0).push o1).push o2).push o3).push o4).push o5).push o6).push o7)[h.size + 5]? = some o5 ∧
    ((((((((h.push o0).push o1).push o2).push o3).push o4).push o5).push o6).push o7)[h.size + 6]? = some o6 ∧ ((((((((h.push o0).push o1).push o2).push o3).push o4).push o5).push o6).push o7)[h.size + 7]? = some o7 := by
  refine ⟨?_, ?_, ?_, ?_, ?_, ?_, ?_, ?_⟩
  all_goals
    simp only [Array.getElem?_push, Array.size_push]
    repeat (first | rw [if_pos (by omega)] | rw [if_neg (by omega)])
    try simp

section
attribute [local go_sem] Oper.semAt_some
set_option maxRecDepth 100000 in
set_option maxHeartbeats 8000000 in
theorem compose_ok (s : ByteArray) (aa : Option Addr) (ca : Nat) (es : List Ed) (ab : Option Addr) (cb : Nat) (fs : List Ed) (w : World) (hs : s.size ≤ 100000) (hx : EdsAt w aa ca es) (hx' : EdsAt w ab cb fs)
    (hv : Snd s.data.toList.length 0 es) (hv' : Snd (applyL s.data.toList 0 es).length 0 fs) (h64 : es.length ≤ 64) (h64' : fs.length ≤ 64) (hb : ∀ e ∈ es, e.x.length ≤ 1000) (hb' : ∀ e ∈ fs, e.x.length ≤ 1000) :
    Calls Try.prog 30 #[.string s, .slice aa es.length ca, .slice ab fs.length cb] w fun e w' => ∃ v, e = .returned (.tuple #[v, .int .i64 (if 64 < (normL s.data.toList (compP s.data.toList es fs)).length then 4 else 0)]) ∧
      OwnEds w' w.heap.size v (if 64 < (normL s.data.toList (compP s.data.toList es fs)).length then [] else normL s.data.toList (compP s.data.toList es fs)) ∧ Below w.heap.size w w' := by
  obtain ⟨l, hl⟩ : ∃ l, s.data.toList = l := ⟨_, rfl⟩
  have hsl : s.size = l.length := by rw [← hl]; rfl
  rw [hl] at hv hv' ⊢
  obtain ⟨N, hN⟩ : ∃ N, normL l (compP l es fs) = N := ⟨_, rfl⟩
  rw [hN]
  have HNN := Lib.hid hN
  clear hN
  obtain ⟨T, hT⟩ : ∃ T, applyL l 0 es = T := ⟨_, rfl⟩
  have hTl : T.length ≤ 200000 := by have := apply_le (B := 1000) hv hb; rw [hT] at this; omega
  rw [hT] at hv'
  obtain ⟨U, hU⟩ : ∃ U, applyL T 0 fs = U := ⟨_, rfl⟩
  have hUl : U.length ≤ 400000 := by have := apply_le (B := 1000) hv' hb'; rw [hU] at this; omega
  have hva : validL s.size es = 0 := by rw [hsl]; exact valid_of hv h64
  have hvb : validL T.length fs = 0 := valid_of hv' h64'
  have k1 := fun W (hW : Below w.heap.size w W) => Apply_any s aa ca es W (by omega) (hx.below hW) (by rw [hl, applyX_ok (by rw [← hsl]; exact hva), hT]; omega)
  rw [hl, applyX_ok (by rw [← hsl]; exact hva), hT, hva] at k1
  have k2 := fun W (hW : Below w.heap.size w W) => Apply_any (strB T) ab cb fs W (by rw [strB_size]; omega) (hx'.below hW) (by rw [strB_list, applyX_ok hvb, hU]; omega)
  rw [strB_list, strB_size, applyX_ok hvb, hU, hvb] at k2
  have K1 := Lib.hid k1
  have K2 := Lib.hid k2
  have HX := Lib.hid hx
  have HX' := Lib.hid hx'
  have HV := Lib.hid hv
  have HV' := Lib.hid hv'
  have HB := Lib.hid hb
  have HB' := Lib.hid hb'
  have HT := Lib.hid hT
  have HU := Lib.hid hU
  have HL := Lib.hid hl
  obtain ⟨n, hn⟩ : ∃ n : Nat, n = 20 := ⟨_, rfl⟩
  have hmx := hx.max
  have hmx' := hx'.max
  have hlx := hx.le
  have hlx' := hx'.le
  clear k1 k2 hx hx' hv hv' hb hb' hva hvb hT hU hl hn
  refine (callsIn_wide (n := n)).1 ?_
  refine callsIn_of_wp_marks Try.func30 rfl trivial ?_ rfl
  simp only [Try.ntmps30, List.size_toArray, List.length_cons, List.length_nil, Nat.reduceAdd, Nat.reduceSub, Array.replicate_succ, Array.replicate_zero, List.push_toArray, List.append_toArray, List.nil_append, List.cons_append]
  gi_upto_region 2 with (refine ⟨trivial, fun h => (by cases h), ?_⟩; gi_at_call 20; refine (callsIn_wide.2 (K1.out _ (Below.refl _ _))).mono ?_; rintro e w1 ⟨rfl, hb1⟩)
  gi_upto_region 5 with (refine ⟨trivial, fun h => (by cases h), ?_⟩; gi_at_call 20; refine (callsIn_wide.2 (K2.out _ hb1)).mono ?_; rintro e w2 ⟨rfl, hb2⟩)
  have hB2 := Below.step hb1 hb2
  clear K1 K2
  have zt : (strB T).size = T.length := strB_size T
  gi_wp2_with (refine ⟨trivial, fun h => (by cases h), ?_⟩; gi_at_call 48; refine (callsIn_wide.2 (both_any _ _ _ _ _ _ _ _ _)).mono ?_; rintro e w3 ⟨rfl, hw3⟩)
  -- THE LOOP
  obtain ⟨g, hg⟩ : ∃ g, w2.heap.size = g := ⟨_, rfl⟩
  rw [hg]
  simp only [Nat.add_assoc, Nat.reduceAdd]
  have hz3 : w3.heap.size = g + 8 := by rw [← hw3, ← hg]; simp only [World.size_alloc]
  have hgw : w.heap.size ≤ g := by have := hB2.size; omega
  have hb3 : Below w2.heap.size w2 w3 := by
    rw [← hw3]
    exact ((((((((Below.refl _ w2).alloc (Nat.le_refl _) _).alloc (by simp only [World.size_alloc]; omega) _).alloc (by simp only [World.size_alloc]; omega) _).alloc (by simp only [World.size_alloc]; omega) _).alloc (by simp only [World.size_alloc]; omega) _).alloc (by simp only [World.size_alloc]; omega) _).alloc (by simp only [World.size_alloc]; omega) _).alloc (by simp only [World.size_alloc]; omega) _
  have hB3 := Below.step hB2 hb3
  obtain ⟨m0, m1, m2, m3, m4, m5, m6, m7⟩ := heap8 w2.heap (.cells #[.string (strB U)] 9 (0, 0)) (.cells #[.slice none 0 0] 22 (0, 0)) (.cells #[.int .i64 0] 3 (0, 0)) (.cells #[.int .i64 0] 3 (0, 0)) (.cells #[.int .i64 l.length] 3 (0, 0)) (.cells #[.int .i64 T.length] 3 (0, 0)) (.cells #[.slice aa es.length ca] 22 (0, 0)) (.cells #[.slice ab fs.length cb] 22 (0, 0))
  rw [show ((((((((w2.heap.push (.cells #[.string (strB U)] 9 (0, 0))).push (.cells #[.slice none 0 0] 22 (0, 0))).push (.cells #[.int .i64 0] 3 (0, 0))).push (.cells #[.int .i64 0] 3 (0, 0))).push (.cells #[.int .i64 l.length] 3 (0, 0))).push (.cells #[.int .i64 T.length] 3 (0, 0))).push (.cells #[.slice aa es.length ca] 22 (0, 0))).push (.cells #[.slice ab fs.length cb] 22 (0, 0))) = w3.heap from by rw [← hw3]; rfl, hg] at m0 m1 m2 m3 m4 m5 m6 m7
  obtain ⟨X, hX⟩ : ∃ X : Nat → Prop, X = fun k => k = g + 1 ∨ k = g + 2 ∨ k = g + 3 := ⟨_, rfl⟩
  have hXi : ∀ k, X k ↔ k = g + 1 ∨ k = g + 2 ∨ k = g + 3 := fun k => by rw [hX]
  have hsf : ∀ k o, w3.heap[k]? = some o → o.isCells = true → ¬ (k = g + 1 ∨ k = g + 2 ∨ k = g + 3) → SafeB X (g + 1) w3 k o := fun k o h1 h2 h3 =>
    ⟨⟨none, 0, 0, _, m1, fun ad e => by cases e⟩, fun h => h3 ((hXi k).1 h), h1, h2⟩
  have hcl : ClB (g + 1) w3 := ⟨none, 0, 0, _, m1, fun ad e => by cases e⟩
  have hXg : ∀ k, X k → g ≤ k := fun k h => by have := (hXi k).1 h; omega
  have hXz : ∀ k, X k → k < w3.heap.size := fun k h => by have := (hXi k).1 h; omega
  have hea : SEds X (g + 1) w3 aa ca es := seds_new (HX.out.below hB3) m1 hXg fun hp b off e => by have := eds_lt HX.out hp b off e; omega
  have heb : SEds X (g + 1) w3 ab cb fs := seds_new (HX'.out.below hB3) m1 hXg fun hp b off e => by have := eds_lt HX'.out hp b off e; omega
  have KB := both_seq (n - 1) X (g + 1) (g + 4) (g + 6) (g + 5) (g + 7) l.length T.length aa ca es ab cb fs w3 hXz hcl
    (hsf _ _ m4 rfl (by omega)) (hsf _ _ m6 rfl (by omega)) (hsf _ _ m5 rfl (by omega)) (hsf _ _ m7 rfl (by omega)) hea heb HV.out HV'.out (by omega) (by omega) h64 h64' (fun e he => by have := HB.out e he; omega) (fun e he => by have := HB'.out e he; omega)
  obtain ⟨C, hC⟩ : ∃ C, bothL (partsL l.length 0 0 es) (partsL T.length 0 0 fs) = C := ⟨_, rfl⟩
  rw [hC] at KB
  have hCl : C.length ≤ 130 := by
    have h1 := both_length _ _ (parts_order HV.out (q := 0)) (parts_order HV'.out (q := 0))
    rw [hC, parts_length, parts_length] at h1
    omega
  have hCp : ∀ pre R, pre ++ [R] <+: C → oldE 0 pre ≤ R.1 ∧ newE 0 pre ≤ R.2.1 ∧ R.1 + R.2.2 ≤ l.length ∧ R.2.1 + R.2.2 ≤ U.length := fun pre R h => by
    have hv := HV.out
    have hv' := HV'.out
    rw [← HT.out] at hv' hC
    have := comp_part hv hv' (pre := pre) (R := R) (by rw [hC]; exact h)
    rw [HT.out, HU.out] at this
    exact this
  have HCP := Lib.hid hCp
  have HCC := Lib.hid hC
  have HXI := Lib.hid hXi
  have HCL := Lib.hid hCl
  have I0 := Lib.hid (show (∃ v, Boxed w3 (g + 1) 22 v ∧ w3.ownsRow g 39 3 v ([] : List Prt).length (edCs (gapsI U 0 0 [])) ∧ True) ∧ Boxed w3 (g + 2) 3 (.int .i64 (oldE 0 [])) ∧ Boxed w3 (g + 3) 3 (.int .i64 (newE 0 [])) ∧ Boxed w3 g 9 (.string (strB U)) ∧ Below w.heap.size w w3 from
    ⟨⟨_, m1, World.ownsRow_nil _ _ _ _, trivial⟩, m2, m3, m0, hB3⟩)
  have hgz : w.heap.size ≤ w3.heap.size := by omega
  clear hw3 hg hb3 hB3 m0 m1 m2 m3 m4 m5 m6 m7 hX hXi hsf hcl hXg hXz hea heb hC hCl hCp hb1 hb2
  refine rangeO_out rfl rfl (xs := C) (I := fun pre W => (∃ v, Boxed W (g + 1) 22 v ∧ W.ownsRow g 39 3 v pre.length (edCs (gapsI U 0 0 pre)) ∧ True) ∧ Boxed W (g + 2) 3 (.int .i64 (oldE 0 pre)) ∧ Boxed W (g + 3) 3 (.int .i64 (newE 0 pre)) ∧ Boxed W g 9 (.string (strB U)) ∧ Below w.heap.size w W)
    (Below.refl _ w3) I0.out
    (OwnFrom.and (Own.from (holdsRow_own g (g + 1) 22 39 3 (fun pre => pre.length) (fun pre => edCs (gapsI U 0 0 pre)) (fun _ _ => True)) _) (OwnFrom.and (Own.from (boxed_own _ _ _) _) (OwnFrom.and (Own.from (boxed_own _ _ _) _) (OwnFrom.and (Own.from (boxed_own _ _ _) _) (ownFrom_below (Nat.le_refl _) hgz)))))
    rfl trivial (enters_of Try.func63 (by kernel_rfl) rfl) KB (fun _ => rfl) (fun h h' => h.trans h') (fun W' k r r' h => KpB.loop W' k r r' h)
    (fun x a' W' => ∃ Bx, g + 4 ≤ Bx ∧ W'.heap[Bx]? = some (.cells #[.int .i64 x.1, .int .i64 x.2.1, .int .i64 x.2.2] 74 (0, 0)) ∧ a' = { tmps := #[.string s, .slice aa es.length ca, .slice ab fs.length cb, undef, undef, undef, .slice none 0 0, .int .i64 0, .string (strB T), .int .i64 0, .pointer (some ⟨g, 0, none⟩), .pointer (some ⟨g + 1, 0, none⟩), .pointer (some ⟨g + 2, 0, none⟩), .pointer (some ⟨g + 3, 0, none⟩), .pointer (some ⟨Bx, 0, none⟩), .tuple #[.string (strB T), .int .i64 0], .string s, .slice aa es.length ca, .tuple #[.string (strB T), .int .i64 0], .string (strB T), .int .i64 0, .int .i64 0, .bool false, undef, .tuple #[.string (strB U), .int .i64 0], .string (strB T), .slice ab fs.length cb, .tuple #[.string (strB U), .int .i64 0], .string (strB U), .int .i64 0, .int .i64 0, .bool false, undef, .string s, .int .i64 l.length, .string (strB T), .int .i64 T.length, .slice aa es.length ca, .slice ab fs.length cb, .func (.func 63) #[] #[.pointer (some ⟨g + 4, 0, none⟩), .pointer (some ⟨g + 6, 0, none⟩), .pointer (some ⟨g + 5, 0, none⟩), .pointer (some ⟨g + 7, 0, none⟩)], .agg #[.int .i64 x.1, .int .i64 x.2.1, .int .i64 x.2.2], undef, undef, undef, undef, undef, undef, undef, undef, undef, undef, undef, undef, undef, undef, undef, undef, undef, undef, undef, undef, undef, undef, undef, undef, undef, undef, undef, undef, undef, undef, undef, undef, undef, undef, undef, undef, undef, undef], defers := [] })
    (fun x a' s A B row hs hg' hr => by
      obtain ⟨Bx, h1, h2, h3⟩ := hs
      exact ⟨Bx, h1, (grownBy_keeps_cells hg' (fun r e => (hr r e).2) h2 rfl).trans h2, h3⟩)
    ?assign ?body ?done
  case assign =>
    rintro pre x W K ⟨⟨v, hv, hrow, -⟩, h2, h3, h0, hB⟩ hp hK
    have hk := KpB.alloc (X := X) (Bl := g + 1) W (.cells #[.int .i64 x.1, .int .i64 x.2.1, .int .i64 x.2.2] 74)
    have hz := h3.lt
    have hI := Lib.hid (show (∃ v, Boxed (W.alloc (.cells #[.int .i64 x.1, .int .i64 x.2.1, .int .i64 x.2.2] 74)) (g + 1) 22 v ∧ (W.alloc (.cells #[.int .i64 x.1, .int .i64 x.2.1, .int .i64 x.2.2] 74)).ownsRow g 39 3 v pre.length (edCs (gapsI U 0 0 pre)) ∧ True) ∧ _ ∧ _ ∧ _ ∧ _ from
      ⟨⟨v, hv.alloc _, hrow.alloc _, trivial⟩, h2.alloc (.cells #[.int .i64 x.1, .int .i64 x.2.1, .int .i64 x.2.2] 74), h3.alloc (.cells #[.int .i64 x.1, .int .i64 x.2.1, .int .i64 x.2.2] 74), h0.alloc (.cells #[.int .i64 x.1, .int .i64 x.2.1, .int .i64 x.2.2] 74), hB.alloc hB.size (.cells #[.int .i64 x.1, .int .i64 x.2.1, .int .i64 x.2.2] 74)⟩)
    have hnew := World.alloc_heap_new W (.cells #[.int .i64 x.1, .int .i64 x.2.1, .int .i64 x.2.2] 74)
    have HNEW := Lib.hid hnew
    have HK := Lib.hid hk
    clear hnew hk hv hrow h2 h3 h0 hB
    unfold encP
    gi_wp2
    refine hK _ _ ((KeepsOthers.alloc _ _).from _) HK.out hI.out ⟨_, by omega, HNEW.out, rfl⟩
  case body =>
    rintro pre x a' W - ⟨⟨v, hv, hrow, -⟩, h2, h3, h0, hB⟩ ⟨Bx, hBx, hbx, rfl⟩ hp
    obtain ⟨q1, q2, q3, q4⟩ := HCP.out pre x hp
    have hpl : pre.length < C.length := by have := hp.length_le; simp at this; omega
    have hpc := HCL.out
    obtain ⟨av, cv, rfl, hrat⟩ := ownsRow_row hrow
    have hsn := gapsI_snoc U x pre 0 0
    have hso := oldE_snoc x pre 0
    have hsw := newE_snoc x pre 0
    obtain ⟨old, hold⟩ : ∃ old, oldE 0 pre = old := ⟨_, rfl⟩
    obtain ⟨at_, hat_⟩ : ∃ at_, newE 0 pre = at_ := ⟨_, rfl⟩
    rw [hold] at q1 hsn h2
    rw [hat_] at q2 hsn h3
    obtain ⟨x1, x2, x3⟩ := x
    simp only at *
    have HSN := Lib.hid hsn
    have HSO := Lib.hid hso
    have HSW := Lib.hid hsw
    have zu : (strB U).size = U.length := strB_size U
    have c0 := h0.cell
    have c1 := hv.cell
    have c2 := h2.cell
    have c3 := h3.cell
    have b0 := cell_of_row W Bx 0 _ _ _ hbx
    have b1 := cell_of_row W Bx 1 _ _ _ hbx
    have b2 := cell_of_row W Bx 2 _ _ _ hbx
    simp only [List.getElem?_toArray, List.getElem?_cons_zero, List.getElem?_cons_succ] at b0 b1 b2
    clear hsn hso hsw hold hat_ hrat
    gi_upto_region 11 with fail
    have i1 : IntKind.i64.wrap (at_ : Int) = (at_ : Int) := IntWalk.i64_in _ (by omega)
    have i2 : IntKind.i64.wrap (x2 : Int) = (x2 : Int) := IntWalk.i64_in _ (by omega)
    have i3 : (at_ : Int) ≤ (x2 : Int) := by omega
    have i4 : (x2 : Int) ≤ (U.length : Int) := by omega
    have i5 : (0 : Int) ≤ (at_ : Int) := by omega
    have i6 : (0 : Int) ≤ (x2 : Int) := by omega
    obtain ⟨tmp, htmp⟩ : ∃ tmp, Obj.cells #[.int .i64 old, .int .i64 x1, .string ((strB U).extract at_ x2)] 39 (0, 0) = tmp := ⟨_, rfl⟩
    obtain ⟨Wt, hWt⟩ : ∃ Wt, (W.alloc tmp).drew = Wt := ⟨_, rfl⟩
    have hbel1 : Below W.heap.size W Wt := by rw [← hWt]; exact Below.drew ((Below.refl _ W).alloc (Nat.le_refl _) _)
    have S1 : Wt.cell? ⟨g, 0, none⟩ = some (.string (strB U)) ∧ Wt.cell? ⟨g + 2, 0, none⟩ = some (.int .i64 old) ∧ Wt.cell? ⟨g + 3, 0, none⟩ = some (.int .i64 at_) ∧ Wt.cell? ⟨Bx, 0, none⟩ = some (.int .i64 x1) ∧ Wt.cell? ⟨Bx, 1, none⟩ = some (.int .i64 x2) :=
      ⟨Below.kept hbel1 (Nat.le_refl _) c0, Below.kept hbel1 (Nat.le_refl _) c2, Below.kept hbel1 (Nat.le_refl _) c3, Below.kept hbel1 (Nat.le_refl _) b0, Below.kept hbel1 (Nat.le_refl _) b1⟩
    have l0 : W.drew.cell? ⟨g + 1, 0, none⟩ = some (.slice av pre.length cv) := c1
    have l1 : Wt.cell? ⟨g + 1, 0, none⟩ = some (.slice av pre.length cv) := Below.kept hbel1 (Nat.le_refl _) c1
    have hcut : (strB U).extract at_ x2 = strB (cutL U at_ x2) := by rw [ext_strB, strB_list]
    have hsrc : RowAt Wt (some ⟨W.heap.size, 0, none⟩) 1 1 3 [.int .i64 old, .int .i64 x1, .string ((strB U).extract at_ x2)] := by rw [← hWt, ← htmp]; exact row_new (w := W.drew) (cs := [.int .i64 old, .int .i64 x1, .string ((strB U).extract at_ x2)]) rfl (by decide)
    have hgz0 : g ≤ W.drew.heap.size := by have := h0.lt; show g ≤ W.heap.size; omega
    have hgz1 : g ≤ Wt.heap.size := by have := hbel1.size; exact Nat.le_trans hgz0 this
    have hBl : Bx < W.drew.heap.size := (Array.getElem?_eq_some_iff.1 hbx).1
    have HROWA := Lib.hid (ownsRow_below hrow hbel1)
    have HROWD := Lib.hid (show W.drew.ownsRow g 39 3 (.slice av pre.length cv) pre.length (edCs (gapsI U 0 0 pre)) from hrow)
    have HS1 := Lib.hid S1
    have HSRC := Lib.hid hsrc
    have HCUT := Lib.hid hcut
    have HROW := Lib.hid hrow
    have H0 := Lib.hid h0
    have H1 := Lib.hid hv
    have H2 := Lib.hid h2
    have H3 := Lib.hid h3
    have HBX := Lib.hid hbx
    have HHB := Lib.hid hB
    have HHP := Lib.hid hp
    have S0 := Lib.hid (show W.drew.cell? ⟨g, 0, none⟩ = some (.string (strB U)) ∧ W.drew.cell? ⟨g + 2, 0, none⟩ = some (.int .i64 old) ∧ W.drew.cell? ⟨g + 3, 0, none⟩ = some (.int .i64 at_) ∧ W.drew.cell? ⟨Bx, 0, none⟩ = some (.int .i64 x1) ∧ W.drew.cell? ⟨Bx, 1, none⟩ = some (.int .i64 x2) from ⟨c0, c2, c3, b0, b1⟩)
    clear S1 hsrc hcut hrow h0 hv h2 h3 hbx hB hp hbel1 c0 c1 c2 c3 b0 b1 b2
    refine region_held_round (S := fun W' => W'.cell? ⟨g, 0, none⟩ = some (.string (strB U)) ∧ W'.cell? ⟨g + 2, 0, none⟩ = some (.int .i64 old) ∧ W'.cell? ⟨g + 3, 0, none⟩ = some (.int .i64 at_) ∧ W'.cell? ⟨Bx, 0, none⟩ = some (.int .i64 x1) ∧ W'.cell? ⟨Bx, 1, none⟩ = some (.int .i64 x2)) (w3.heap.size + 1) (by kernel_rfl) (by kernel_rfl) (fun ⟨_, _, h⟩ => h) S0.out (fun k0 => ?_)
    (first | ((refine wpAnyH_take (i := 1) (oi := ⟨_, _, _, _, _, _⟩) (v := ?_) rfl (by kernel_rfl) (by kernel_rfl) (by kernel_rfl) (fun _ _ _ h => h) (Or.inl ⟨by rfl, ?_⟩) (by assumption) ?_); rotate_left; focus ((intro w hSw); (try dsimp only at hSw); go_simp; all_goals (with_reducible rfl))) | (refine wpAnyH_take (i := 1) (oi := ⟨_, _, _, _, _, _⟩) (v := undef) rfl (by kernel_rfl) (by kernel_rfl) (by kernel_rfl) (fun _ _ _ h => h) (Or.inr ⟨by rfl, rfl⟩) (by assumption) ?_))
    try simp only [Act.put, List.setIfInBounds_toArray, List.set_cons_zero, List.set_cons_succ]
    (first | ((refine wpAnyH_take (i := 2) (oi := ⟨_, _, _, _, _, _⟩) (v := ?_) rfl (by kernel_rfl) (by kernel_rfl) (by kernel_rfl) (fun _ _ _ h => h) (Or.inl ⟨by rfl, ?_⟩) (by assumption) ?_); rotate_left; focus ((intro w hSw); (try dsimp only at hSw); go_simp; all_goals (with_reducible rfl))) | (refine wpAnyH_take (i := 2) (oi := ⟨_, _, _, _, _, _⟩) (v := undef) rfl (by kernel_rfl) (by kernel_rfl) (by kernel_rfl) (fun _ _ _ h => h) (Or.inr ⟨by rfl, rfl⟩) (by assumption) ?_))
    try simp only [Act.put, List.setIfInBounds_toArray, List.set_cons_zero, List.set_cons_succ]
    (first | ((refine wpAnyH_take (i := 3) (oi := ⟨_, _, _, _, _, _⟩) (v := ?_) rfl (by kernel_rfl) (by kernel_rfl) (by kernel_rfl) (fun _ _ _ h => h) (Or.inl ⟨by rfl, ?_⟩) (by assumption) ?_); rotate_left; focus ((intro w hSw); (try dsimp only at hSw); go_simp; all_goals (with_reducible rfl))) | (refine wpAnyH_take (i := 3) (oi := ⟨_, _, _, _, _, _⟩) (v := undef) rfl (by kernel_rfl) (by kernel_rfl) (by kernel_rfl) (fun _ _ _ h => h) (Or.inr ⟨by rfl, rfl⟩) (by assumption) ?_))
    try simp only [Act.put, List.setIfInBounds_toArray, List.set_cons_zero, List.set_cons_succ]
    (first | ((refine wpAnyH_take (i := 4) (oi := ⟨_, _, _, _, _, _⟩) (v := ?_) rfl (by kernel_rfl) (by kernel_rfl) (by kernel_rfl) (fun _ _ _ h => h) (Or.inl ⟨by rfl, ?_⟩) (by assumption) ?_); rotate_left; focus ((intro w hSw); (try dsimp only at hSw); go_simp; all_goals (with_reducible rfl))) | (refine wpAnyH_take (i := 4) (oi := ⟨_, _, _, _, _, _⟩) (v := undef) rfl (by kernel_rfl) (by kernel_rfl) (by kernel_rfl) (fun _ _ _ h => h) (Or.inr ⟨by rfl, rfl⟩) (by assumption) ?_))
    try simp only [Act.put, List.setIfInBounds_toArray, List.set_cons_zero, List.set_cons_succ]
    (first | ((refine wpAnyH_take (i := 5) (oi := ⟨_, _, _, _, _, _⟩) (v := ?_) rfl (by kernel_rfl) (by kernel_rfl) (by kernel_rfl) (fun _ _ _ h => h) (Or.inl ⟨by rfl, ?_⟩) (by assumption) ?_); rotate_left; focus ((intro w hSw); (try dsimp only at hSw); go_simp; all_goals (with_reducible rfl))) | (refine wpAnyH_take (i := 5) (oi := ⟨_, _, _, _, _, _⟩) (v := undef) rfl (by kernel_rfl) (by kernel_rfl) (by kernel_rfl) (fun _ _ _ h => h) (Or.inr ⟨by rfl, rfl⟩) (by assumption) ?_))
    try simp only [Act.put, List.setIfInBounds_toArray, List.set_cons_zero, List.set_cons_succ]
    (first | ((refine wpAnyH_take (i := 6) (oi := ⟨_, _, _, _, _, _⟩) (v := ?_) rfl (by kernel_rfl) (by kernel_rfl) (by kernel_rfl) (fun _ _ _ h => h) (Or.inl ⟨by rfl, ?_⟩) (by assumption) ?_); rotate_left; focus ((intro w hSw); (try dsimp only at hSw); go_simp; all_goals (with_reducible rfl))) | (refine wpAnyH_take (i := 6) (oi := ⟨_, _, _, _, _, _⟩) (v := undef) rfl (by kernel_rfl) (by kernel_rfl) (by kernel_rfl) (fun _ _ _ h => h) (Or.inr ⟨by rfl, rfl⟩) (by assumption) ?_))
    try simp only [Act.put, List.setIfInBounds_toArray, List.set_cons_zero, List.set_cons_succ]
    (first | ((refine wpAnyH_take (i := 7) (oi := ⟨_, _, _, _, _, _⟩) (v := ?_) rfl (by kernel_rfl) (by kernel_rfl) (by kernel_rfl) (fun _ _ _ h => h) (Or.inl ⟨by rfl, ?_⟩) (by assumption) ?_); rotate_left; focus ((intro w hSw); (try dsimp only at hSw); go_simp; all_goals (with_reducible rfl))) | (refine wpAnyH_take (i := 7) (oi := ⟨_, _, _, _, _, _⟩) (v := undef) rfl (by kernel_rfl) (by kernel_rfl) (by kernel_rfl) (fun _ _ _ h => h) (Or.inr ⟨by rfl, rfl⟩) (by assumption) ?_))
    try simp only [Act.put, List.setIfInBounds_toArray, List.set_cons_zero, List.set_cons_succ]
    (first | ((refine wpAnyH_take (i := 8) (oi := ⟨_, _, _, _, _, _⟩) (v := ?_) rfl (by kernel_rfl) (by kernel_rfl) (by kernel_rfl) (fun _ _ _ h => h) (Or.inl ⟨by rfl, ?_⟩) (by assumption) ?_); rotate_left; focus ((intro w hSw); (try dsimp only at hSw); go_simp; all_goals (with_reducible rfl))) | (refine wpAnyH_take (i := 8) (oi := ⟨_, _, _, _, _, _⟩) (v := undef) rfl (by kernel_rfl) (by kernel_rfl) (by kernel_rfl) (fun _ _ _ h => h) (Or.inr ⟨by rfl, rfl⟩) (by assumption) ?_))
    try simp only [Act.put, List.setIfInBounds_toArray, List.set_cons_zero, List.set_cons_succ]
    (first | ((refine wpAnyH_take (i := 9) (oi := ⟨_, _, _, _, _, _⟩) (v := ?_) rfl (by kernel_rfl) (by kernel_rfl) (by kernel_rfl) (fun _ _ _ h => h) (Or.inl ⟨by rfl, ?_⟩) (by assumption) ?_); rotate_left; focus ((intro w hSw); (try dsimp only at hSw); go_simp; all_goals (with_reducible rfl))) | (refine wpAnyH_take (i := 9) (oi := ⟨_, _, _, _, _, _⟩) (v := undef) rfl (by kernel_rfl) (by kernel_rfl) (by kernel_rfl) (fun _ _ _ h => h) (Or.inr ⟨by rfl, rfl⟩) (by assumption) ?_))
    try simp only [Act.put, List.setIfInBounds_toArray, List.set_cons_zero, List.set_cons_succ]
    refine wpAnyH_ready (rs := [0, 10]) (by kernel_rfl) (by simp) ?_
    refine AllReadyH.cons (o := ⟨_, _, _, _, _, _⟩) rfl (fun K hK => ?_) ?_
    · go_simp
      refine hK.out _ _ S0.out (fun k1 => ?_)
      clear hK K
      try simp only [Act.put, List.setIfInBounds_toArray, List.set_cons_zero, List.set_cons_succ]
      refine wpAnyH_ready (rs := [10]) (by kernel_rfl) (by simp) ?_
      refine AllReadyH.cons (o := ⟨_, _, _, _, _, _⟩) rfl (fun K hK => ?_) AllReadyH.nil
      go_simp
      refine hK.out _ _ HS1.out (fun k2 => ?_)
      clear hK K k1 k2
      try simp only [Act.put, List.setIfInBounds_toArray, List.set_cons_zero, List.set_cons_succ]
      refine wpAnyH_ready (rs := [11]) (by kernel_rfl) (by simp) ?_
      refine AllReadyH.cons (o := ⟨_, _, _, _, _, _⟩) rfl (fun K hK => ?_) AllReadyH.nil
      refine step_append_at rfl (.tmp 41) (.tmp 51) 22 rfl elemE g (.slice av pre.length cv) pre.length _ rfl HROWA.out ⟨W.heap.size, 0, none⟩ 1 1 [.int .i64 old, .int .i64 x1, .string ((strB U).extract at_ x2)] rfl HSRC.out (by simp [Value.oneCell']) (by omega) (by omega) hgz1 ?_
      intro v4 w4 hown4 hgrow4 hat4
      obtain ⟨g4, cap4, rfl⟩ := ownsRow_succ hown4
      have hgrow4 : (W.drew.alloc tmp).grownBy w4 (Value.slice av pre.length cv).ownBlock := by rw [← hWt] at hgrow4; exact hgrow4
      have hat4 : (Value.slice (some ⟨g4, 0, none⟩) (pre.length + 1) cap4).ownBlock = (Value.slice av pre.length cv).ownBlock ∨ (Value.slice (some ⟨g4, 0, none⟩) (pre.length + 1) cap4).ownBlock = some (W.drew.alloc tmp).heap.size := by rw [← hWt] at hat4; exact hat4
      obtain ⟨hv1, hv2, hr2, hko, hbo⟩ := Boxed.appended (W := W.drew) (tmp := tmp) (B := g + 1) H1.out (by decide) HROWD.out hgz0 (by omega) hown4 hgrow4
      have hkp : KpB X (g + 1) W.drew (w4.setCell ⟨g + 1, 0, none⟩ (.slice (some ⟨g4, 0, none⟩) (pre.length + 1) cap4)) := KpB.append ((HXI.out _).2 (.inl rfl)) H1.out hv1 hgrow4 hown4 hat4
      have hbx4 : w4.heap[Bx]? = some (.cells #[.int .i64 x1, .int .i64 x2, .int .i64 x3] 74 (0, 0)) := by
        rw [hgrow4.block Bx (by simp; exact Nat.lt_succ_of_lt hBl) (row_ne HBX.out (by decide) HROW.out), Below.heap_alloc W.drew tmp Bx hBl]
        exact HBX.out
      have k0' := (((show Boxed W.drew g 9 (.string (strB U)) from H0.out).alloc tmp).kept hgrow4 (H0.out.not_row (by decide) HROW.out))
      have k2' := (((show Boxed W.drew (g + 2) 3 (.int .i64 old) from H2.out).alloc tmp).kept hgrow4 (H2.out.not_row (by decide) HROW.out))
      have k3' := (((show Boxed W.drew (g + 3) 3 (.int .i64 at_) from H3.out).alloc tmp).kept hgrow4 (H3.out.not_row (by decide) HROW.out))
      refine hK.out _ _ ⟨k0'.cell, k2'.cell, k3'.cell, cell_of_row w4 Bx 0 _ _ _ hbx4, cell_of_row w4 Bx 1 _ _ _ hbx4⟩ (fun k4 => ?_)
      clear hK K
      have hc1 := hv1.cell
      have hf1 := hv1.frozen
      have HH0 := Lib.hid (k0'.other (by omega) (.slice (some ⟨g4, 0, none⟩) (pre.length + 1) cap4) (B' := g + 1))
      have HH2 := Lib.hid (k2'.other (by omega) (.slice (some ⟨g4, 0, none⟩) (pre.length + 1) cap4) (B' := g + 1))
      have HH3 := Lib.hid (k3'.other (by omega) (.slice (some ⟨g4, 0, none⟩) (pre.length + 1) cap4) (B' := g + 1))
      have hbx5 : (w4.setCell ⟨g + 1, 0, none⟩ (.slice (some ⟨g4, 0, none⟩) (pre.length + 1) cap4)).heap[Bx]? = some (.cells #[.int .i64 x1, .int .i64 x2, .int .i64 x3] 74 (0, 0)) := (Below.heap_setCell w4 ⟨g + 1, 0, none⟩ _ Bx (by simp; omega)).trans hbx4
      have HV2 := Lib.hid hv2
      have HR2 := Lib.hid hr2
      have HKO := Lib.hid hko
      have HBO := Lib.hid hbo
      have HKP := Lib.hid hkp
      have HBX5 := Lib.hid hbx5
      clear k0' k2' k3' hv1 hv2 hr2 hko hbo hkp hbx4 hbx5 hgrow4 hown4 hat4
      try simp only [Act.put, List.setIfInBounds_toArray, List.set_cons_zero, List.set_cons_succ]
      refine wpAnyH_ready (rs := [12]) (by kernel_rfl) (by simp) ?_
      refine AllReadyH.cons (o := ⟨_, _, _, _, _, _⟩) rfl (fun K hK => ?_) AllReadyH.nil
      go_simp
      refine hK.out _ _ ⟨HH0.out.cell, HH2.out.cell, HH3.out.cell, cell_of_row _ Bx 0 _ _ _ HBX5.out, cell_of_row _ Bx 1 _ _ _ HBX5.out⟩ (fun k5 => ?_)
      clear hK K
      try simp only [Act.put, List.setIfInBounds_toArray, List.set_cons_zero, List.set_cons_succ]
      refine wpAnyH_done (by kernel_rfl) ?_ _
      clear k4 k5 hc1 hf1
      obtain ⟨w5, hw5⟩ : ∃ w5, w4.setCell ⟨g + 1, 0, none⟩ (.slice (some ⟨g4, 0, none⟩) (pre.length + 1) cap4) = w5 := ⟨_, rfl⟩
      rw [hw5] at HV2 HR2 HH0 HH2 HH3 HBX5 HKP HKO HBO ⊢
      clear hw5
      gi_upto_region 12 with fail
      have e0 : w5.drew.cell? ⟨Bx, 0, none⟩ = some (.int .i64 x1) := cell_of_row w5 Bx 0 _ _ _ HBX5.out
      have e1 : w5.drew.cell? ⟨Bx, 1, none⟩ = some (.int .i64 x2) := cell_of_row w5 Bx 1 _ _ _ HBX5.out
      have e2 : w5.drew.cell? ⟨Bx, 2, none⟩ = some (.int .i64 x3) := cell_of_row w5 Bx 2 _ _ _ HBX5.out
      have j1 : IntKind.i64.wrap ((x1 : Int) + (x3 : Int)) = ((x1 + x3 : Nat) : Int) := by rw [IntWalk.i64_in _ (by omega)]; omega
      have j2 : IntKind.i64.wrap ((x2 : Int) + (x3 : Int)) = ((x2 + x3 : Nat) : Int) := by rw [IntWalk.i64_in _ (by omega)]; omega
      obtain ⟨n1, hn1⟩ : ∃ n1, x1 + x3 = n1 := ⟨_, rfl⟩
      obtain ⟨n2, hn2⟩ : ∃ n2, x2 + x3 = n2 := ⟨_, rfl⟩
      rw [hn1] at j1
      rw [hn2] at j2
      have HN1 := Lib.hid hn1
      have HN2 := Lib.hid hn2
      clear hn1 hn2
      refine region_held_round (S := fun W' => W'.cell? ⟨Bx, 0, none⟩ = some (.int .i64 x1) ∧ W'.cell? ⟨Bx, 1, none⟩ = some (.int .i64 x2) ∧ W'.cell? ⟨Bx, 2, none⟩ = some (.int .i64 x3)) (w3.heap.size + 1) (by kernel_rfl) (by kernel_rfl) (fun ⟨_, _, h⟩ => h) ⟨e0, e1, e2⟩ (fun k6 => ?_)
      (first | ((refine wpAnyH_take (i := 0) (oi := ⟨_, _, _, _, _, _⟩) (v := ?_) rfl (by kernel_rfl) (by kernel_rfl) (by kernel_rfl) (fun _ _ _ h => h) (Or.inl ⟨by rfl, ?_⟩) (by assumption) ?_); rotate_left; focus ((intro w hSw); (try dsimp only at hSw); go_simp; all_goals (with_reducible rfl))) | (refine wpAnyH_take (i := 0) (oi := ⟨_, _, _, _, _, _⟩) (v := undef) rfl (by kernel_rfl) (by kernel_rfl) (by kernel_rfl) (fun _ _ _ h => h) (Or.inr ⟨by rfl, rfl⟩) (by assumption) ?_))
      try simp only [Act.put, List.setIfInBounds_toArray, List.set_cons_zero, List.set_cons_succ]
      (first | ((refine wpAnyH_take (i := 1) (oi := ⟨_, _, _, _, _, _⟩) (v := ?_) rfl (by kernel_rfl) (by kernel_rfl) (by kernel_rfl) (fun _ _ _ h => h) (Or.inl ⟨by rfl, ?_⟩) (by assumption) ?_); rotate_left; focus ((intro w hSw); (try dsimp only at hSw); go_simp; all_goals (with_reducible rfl))) | (refine wpAnyH_take (i := 1) (oi := ⟨_, _, _, _, _, _⟩) (v := undef) rfl (by kernel_rfl) (by kernel_rfl) (by kernel_rfl) (fun _ _ _ h => h) (Or.inr ⟨by rfl, rfl⟩) (by assumption) ?_))
      try simp only [Act.put, List.setIfInBounds_toArray, List.set_cons_zero, List.set_cons_succ]
      (first | ((refine wpAnyH_take (i := 2) (oi := ⟨_, _, _, _, _, _⟩) (v := ?_) rfl (by kernel_rfl) (by kernel_rfl) (by kernel_rfl) (fun _ _ _ h => h) (Or.inl ⟨by rfl, ?_⟩) (by assumption) ?_); rotate_left; focus ((intro w hSw); (try dsimp only at hSw); go_simp; all_goals (with_reducible rfl))) | (refine wpAnyH_take (i := 2) (oi := ⟨_, _, _, _, _, _⟩) (v := undef) rfl (by kernel_rfl) (by kernel_rfl) (by kernel_rfl) (fun _ _ _ h => h) (Or.inr ⟨by rfl, rfl⟩) (by assumption) ?_))
      try simp only [Act.put, List.setIfInBounds_toArray, List.set_cons_zero, List.set_cons_succ]
      (first | ((refine wpAnyH_take (i := 3) (oi := ⟨_, _, _, _, _, _⟩) (v := ?_) rfl (by kernel_rfl) (by kernel_rfl) (by kernel_rfl) (fun _ _ _ h => h) (Or.inl ⟨by rfl, ?_⟩) (by assumption) ?_); rotate_left; focus ((intro w hSw); (try dsimp only at hSw); go_simp; all_goals (with_reducible rfl))) | (refine wpAnyH_take (i := 3) (oi := ⟨_, _, _, _, _, _⟩) (v := undef) rfl (by kernel_rfl) (by kernel_rfl) (by kernel_rfl) (fun _ _ _ h => h) (Or.inr ⟨by rfl, rfl⟩) (by assumption) ?_))
      try simp only [Act.put, List.setIfInBounds_toArray, List.set_cons_zero, List.set_cons_succ]
      (first | ((refine wpAnyH_take (i := 4) (oi := ⟨_, _, _, _, _, _⟩) (v := ?_) rfl (by kernel_rfl) (by kernel_rfl) (by kernel_rfl) (fun _ _ _ h => h) (Or.inl ⟨by rfl, ?_⟩) (by assumption) ?_); rotate_left; focus ((intro w hSw); (try dsimp only at hSw); go_simp; all_goals (with_reducible rfl))) | (refine wpAnyH_take (i := 4) (oi := ⟨_, _, _, _, _, _⟩) (v := undef) rfl (by kernel_rfl) (by kernel_rfl) (by kernel_rfl) (fun _ _ _ h => h) (Or.inr ⟨by rfl, rfl⟩) (by assumption) ?_))
      try simp only [Act.put, List.setIfInBounds_toArray, List.set_cons_zero, List.set_cons_succ]
      (first | ((refine wpAnyH_take (i := 5) (oi := ⟨_, _, _, _, _, _⟩) (v := ?_) rfl (by kernel_rfl) (by kernel_rfl) (by kernel_rfl) (fun _ _ _ h => h) (Or.inl ⟨by rfl, ?_⟩) (by assumption) ?_); rotate_left; focus ((intro w hSw); (try dsimp only at hSw); go_simp; all_goals (with_reducible rfl))) | (refine wpAnyH_take (i := 5) (oi := ⟨_, _, _, _, _, _⟩) (v := undef) rfl (by kernel_rfl) (by kernel_rfl) (by kernel_rfl) (fun _ _ _ h => h) (Or.inr ⟨by rfl, rfl⟩) (by assumption) ?_))
      try simp only [Act.put, List.setIfInBounds_toArray, List.set_cons_zero, List.set_cons_succ]
      (first | ((refine wpAnyH_take (i := 6) (oi := ⟨_, _, _, _, _, _⟩) (v := ?_) rfl (by kernel_rfl) (by kernel_rfl) (by kernel_rfl) (fun _ _ _ h => h) (Or.inl ⟨by rfl, ?_⟩) (by assumption) ?_); rotate_left; focus ((intro w hSw); (try dsimp only at hSw); go_simp; all_goals (with_reducible rfl))) | (refine wpAnyH_take (i := 6) (oi := ⟨_, _, _, _, _, _⟩) (v := undef) rfl (by kernel_rfl) (by kernel_rfl) (by kernel_rfl) (fun _ _ _ h => h) (Or.inr ⟨by rfl, rfl⟩) (by assumption) ?_))
      try simp only [Act.put, List.setIfInBounds_toArray, List.set_cons_zero, List.set_cons_succ]
      (first | ((refine wpAnyH_take (i := 7) (oi := ⟨_, _, _, _, _, _⟩) (v := ?_) rfl (by kernel_rfl) (by kernel_rfl) (by kernel_rfl) (fun _ _ _ h => h) (Or.inl ⟨by rfl, ?_⟩) (by assumption) ?_); rotate_left; focus ((intro w hSw); (try dsimp only at hSw); go_simp; all_goals (with_reducible rfl))) | (refine wpAnyH_take (i := 7) (oi := ⟨_, _, _, _, _, _⟩) (v := undef) rfl (by kernel_rfl) (by kernel_rfl) (by kernel_rfl) (fun _ _ _ h => h) (Or.inr ⟨by rfl, rfl⟩) (by assumption) ?_))
      try simp only [Act.put, List.setIfInBounds_toArray, List.set_cons_zero, List.set_cons_succ]
      (first | ((refine wpAnyH_take (i := 8) (oi := ⟨_, _, _, _, _, _⟩) (v := ?_) rfl (by kernel_rfl) (by kernel_rfl) (by kernel_rfl) (fun _ _ _ h => h) (Or.inl ⟨by rfl, ?_⟩) (by assumption) ?_); rotate_left; focus ((intro w hSw); (try dsimp only at hSw); go_simp; all_goals (with_reducible rfl))) | (refine wpAnyH_take (i := 8) (oi := ⟨_, _, _, _, _, _⟩) (v := undef) rfl (by kernel_rfl) (by kernel_rfl) (by kernel_rfl) (fun _ _ _ h => h) (Or.inr ⟨by rfl, rfl⟩) (by assumption) ?_))
      try simp only [Act.put, List.setIfInBounds_toArray, List.set_cons_zero, List.set_cons_succ]
      (first | ((refine wpAnyH_take (i := 9) (oi := ⟨_, _, _, _, _, _⟩) (v := ?_) rfl (by kernel_rfl) (by kernel_rfl) (by kernel_rfl) (fun _ _ _ h => h) (Or.inl ⟨by rfl, ?_⟩) (by assumption) ?_); rotate_left; focus ((intro w hSw); (try dsimp only at hSw); go_simp; all_goals (with_reducible rfl))) | (refine wpAnyH_take (i := 9) (oi := ⟨_, _, _, _, _, _⟩) (v := undef) rfl (by kernel_rfl) (by kernel_rfl) (by kernel_rfl) (fun _ _ _ h => h) (Or.inr ⟨by rfl, rfl⟩) (by assumption) ?_))
      try simp only [Act.put, List.setIfInBounds_toArray, List.set_cons_zero, List.set_cons_succ]
      have y2 := HH2.out.cell
      have y2' := HH2.out.frozen
      have hne2 : Bx ≠ g + 2 := by omega
      have hne3 : Bx ≠ g + 3 := by omega
      refine wpAnyH_ready (rs := [10]) (by kernel_rfl) (by simp) ?_
      refine AllReadyH.cons (o := ⟨_, _, _, _, _, _⟩) rfl (fun K hK => ?_) AllReadyH.nil
      go_simp
      obtain ⟨w6, hw6⟩ : ∃ w6, (w5.setCell ⟨g + 2, 0, none⟩ (.int .i64 n1)).drew = w6 := ⟨_, rfl⟩
      have hbx6 : w6.heap[Bx]? = some (.cells #[.int .i64 x1, .int .i64 x2, .int .i64 x3] 74 (0, 0)) := by rw [← hw6]; exact (Below.heap_setCell w5 ⟨g + 2, 0, none⟩ _ Bx hne2).trans HBX5.out
      have p0 : Boxed w6 g 9 (.string (strB U)) := by rw [← hw6]; exact HH0.out.other (by omega) _
      have p1 : Boxed w6 (g + 1) 22 (.slice (some ⟨g4, 0, none⟩) (pre.length + 1) cap4) := by rw [← hw6]; exact HV2.out.other (by omega) _
      have p2 : Boxed w6 (g + 2) 3 (.int .i64 n1) := by rw [← hw6]; exact HH2.out.set _
      have p3 : Boxed w6 (g + 3) 3 (.int .i64 at_) := by rw [← hw6]; exact HH3.out.other (by omega) _
      have pr : w6.ownsRow g 39 3 (.slice (some ⟨g4, 0, none⟩) (pre.length + 1) cap4) (pre.length + 1) (edCs (gapsI U 0 0 pre) ++ [.int .i64 old, .int .i64 x1, .string ((strB U).extract at_ x2)]) := by
        rw [← hw6]
        have h := HR2.out.kept (grownBy_setCell' w5 (g + 2) (.int .i64 n1)) (.inr (HH2.out.not_row (by decide) HR2.out).symm)
        exact h
      have pk : KpB X (g + 1) W w6 := by
        rw [← hw6]
        exact (KpB.below (Below.drew (Below.refl _ W))).trans (HKP.out.trans ((KpB.store ((HXI.out _).2 (.inr (.inl rfl))) (by omega) _).trans (KpB.below (Below.drew (Below.refl _ _)))))
      have po : KeepsOthers W w6 := by
        rw [← hw6]
        exact (KeepsOthers.drew W).trans (HKO.out.trans ((KeepsOthers.setCell w5 _ _).trans (KeepsOthers.drew _)))
      have pb : Below w.heap.size w w6 := by
        rw [← hw6]
        refine Below.drew (Below.setCell (p := ⟨g + 2, 0, none⟩) ?_ (by simp; omega) _)
        exact HHB.out.trans ((Below.drew (Below.refl _ W)).trans (HBO.out.mono hgw))
      refine hK.out _ _ (by rw [hw6]; exact ⟨cell_of_row w6 Bx 0 _ _ _ hbx6, cell_of_row w6 Bx 1 _ _ _ hbx6, cell_of_row w6 Bx 2 _ _ _ hbx6⟩) (fun k7 => ?_)
      rw [hw6]
      have y3 := p3.cell
      have y3' := p3.frozen
      have P0 := Lib.hid p0
      have P1 := Lib.hid p1
      have P2 := Lib.hid p2
      have P3 := Lib.hid p3
      have PR := Lib.hid pr
      have PK := Lib.hid pk
      have PO := Lib.hid po
      have PB := Lib.hid pb
      have HBX6 := Lib.hid hbx6
      clear hK K hw6 p0 p1 p2 p3 pr pk po pb hbx6 k7 k6 y2 y2' HV2 HR2 HH0 HH2 HH3 HBX5 HKP HKO HBO
      try simp only [Act.put, List.setIfInBounds_toArray, List.set_cons_zero, List.set_cons_succ]
      refine wpAnyH_ready (rs := [11]) (by kernel_rfl) (by simp) ?_
      refine AllReadyH.cons (o := ⟨_, _, _, _, _, _⟩) rfl (fun K hK => ?_) AllReadyH.nil
      go_simp
      refine hK.out _ _ ⟨?_, ?_, ?_⟩ (fun k7 => ?_)
      iterate 3
        · exact cell_of_row _ Bx _ _ _ _ ((Below.heap_setCell w6 ⟨g + 3, 0, none⟩ _ Bx hne3).trans HBX6.out)
      clear hK K
      try simp only [Act.put, List.setIfInBounds_toArray, List.set_cons_zero, List.set_cons_succ]
      refine wpAnyH_done (by kernel_rfl) ?_ _
      clear k7 y3 y3'
      gi_wp2
      refine ⟨(PO.out.trans (KeepsOthers.setCell w6 _ _)).from _, PK.out.trans (KpB.store ((HXI.out _).2 (.inr (.inr rfl))) (by omega) _), ⟨_, P1.out.other (by omega) _, ?_, trivial⟩, ?_, ?_, P0.out.other (by omega) _, PB.out.setCell (p := ⟨g + 3, 0, none⟩) (by simp; omega) _⟩
      · have hr := PR.out.kept (grownBy_setCell' w6 (g + 3) (.int .i64 n2)) (.inr (P3.out.not_row (by decide) PR.out).symm)
        rw [HCUT.out] at hr
        rw [HSN.out, edCs_app, List.length_append]
        exact hr
      · rw [HSO.out, HN1.out]; exact P2.out.other (by omega) _
      · rw [HSW.out, HN2.out]; exact P3.out.set _
    refine AllReadyH.cons (o := ⟨_, _, _, _, _, _⟩) rfl (fun K hK => ?_) AllReadyH.nil
    · go_simp
      refine hK.out _ _ HS1.out (fun k1 => ?_)
      clear hK K
      try simp only [Act.put, List.setIfInBounds_toArray, List.set_cons_zero, List.set_cons_succ]
      refine wpAnyH_ready (rs := [0]) (by kernel_rfl) (by simp) ?_
      refine AllReadyH.cons (o := ⟨_, _, _, _, _, _⟩) rfl (fun K hK => ?_) AllReadyH.nil
      go_simp
      refine hK.out _ _ HS1.out (fun k2 => ?_)
      clear hK K k1 k2
      try simp only [Act.put, List.setIfInBounds_toArray, List.set_cons_zero, List.set_cons_succ]
      refine wpAnyH_ready (rs := [11]) (by kernel_rfl) (by simp) ?_
      refine AllReadyH.cons (o := ⟨_, _, _, _, _, _⟩) rfl (fun K hK => ?_) AllReadyH.nil
      refine step_append_at rfl (.tmp 41) (.tmp 51) 22 rfl elemE g (.slice av pre.length cv) pre.length _ rfl HROWA.out ⟨W.heap.size, 0, none⟩ 1 1 [.int .i64 old, .int .i64 x1, .string ((strB U).extract at_ x2)] rfl HSRC.out (by simp [Value.oneCell']) (by omega) (by omega) hgz1 ?_
      intro v4 w4 hown4 hgrow4 hat4
      obtain ⟨g4, cap4, rfl⟩ := ownsRow_succ hown4
      have hgrow4 : (W.drew.alloc tmp).grownBy w4 (Value.slice av pre.length cv).ownBlock := by rw [← hWt] at hgrow4; exact hgrow4
      have hat4 : (Value.slice (some ⟨g4, 0, none⟩) (pre.length + 1) cap4).ownBlock = (Value.slice av pre.length cv).ownBlock ∨ (Value.slice (some ⟨g4, 0, none⟩) (pre.length + 1) cap4).ownBlock = some (W.drew.alloc tmp).heap.size := by rw [← hWt] at hat4; exact hat4
      obtain ⟨hv1, hv2, hr2, hko, hbo⟩ := Boxed.appended (W := W.drew) (tmp := tmp) (B := g + 1) H1.out (by decide) HROWD.out hgz0 (by omega) hown4 hgrow4
      have hkp : KpB X (g + 1) W.drew (w4.setCell ⟨g + 1, 0, none⟩ (.slice (some ⟨g4, 0, none⟩) (pre.length + 1) cap4)) := KpB.append ((HXI.out _).2 (.inl rfl)) H1.out hv1 hgrow4 hown4 hat4
      have hbx4 : w4.heap[Bx]? = some (.cells #[.int .i64 x1, .int .i64 x2, .int .i64 x3] 74 (0, 0)) := by
        rw [hgrow4.block Bx (by simp; exact Nat.lt_succ_of_lt hBl) (row_ne HBX.out (by decide) HROW.out), Below.heap_alloc W.drew tmp Bx hBl]
        exact HBX.out
      have k0' := (((show Boxed W.drew g 9 (.string (strB U)) from H0.out).alloc tmp).kept hgrow4 (H0.out.not_row (by decide) HROW.out))
      have k2' := (((show Boxed W.drew (g + 2) 3 (.int .i64 old) from H2.out).alloc tmp).kept hgrow4 (H2.out.not_row (by decide) HROW.out))
      have k3' := (((show Boxed W.drew (g + 3) 3 (.int .i64 at_) from H3.out).alloc tmp).kept hgrow4 (H3.out.not_row (by decide) HROW.out))
      refine hK.out _ _ ⟨k0'.cell, k2'.cell, k3'.cell, cell_of_row w4 Bx 0 _ _ _ hbx4, cell_of_row w4 Bx 1 _ _ _ hbx4⟩ (fun k4 => ?_)
      clear hK K
      have hc1 := hv1.cell
      have hf1 := hv1.frozen
      have HH0 := Lib.hid (k0'.other (by omega) (.slice (some ⟨g4, 0, none⟩) (pre.length + 1) cap4) (B' := g + 1))
      have HH2 := Lib.hid (k2'.other (by omega) (.slice (some ⟨g4, 0, none⟩) (pre.length + 1) cap4) (B' := g + 1))
      have HH3 := Lib.hid (k3'.other (by omega) (.slice (some ⟨g4, 0, none⟩) (pre.length + 1) cap4) (B' := g + 1))
      have hbx5 : (w4.setCell ⟨g + 1, 0, none⟩ (.slice (some ⟨g4, 0, none⟩) (pre.length + 1) cap4)).heap[Bx]? = some (.cells #[.int .i64 x1, .int .i64 x2, .int .i64 x3] 74 (0, 0)) := (Below.heap_setCell w4 ⟨g + 1, 0, none⟩ _ Bx (by simp; omega)).trans hbx4
      have HV2 := Lib.hid hv2
      have HR2 := Lib.hid hr2
      have HKO := Lib.hid hko
      have HBO := Lib.hid hbo
      have HKP := Lib.hid hkp
      have HBX5 := Lib.hid hbx5
      clear k0' k2' k3' hv1 hv2 hr2 hko hbo hkp hbx4 hbx5 hgrow4 hown4 hat4
      try simp only [Act.put, List.setIfInBounds_toArray, List.set_cons_zero, List.set_cons_succ]
      refine wpAnyH_ready (rs := [12]) (by kernel_rfl) (by simp) ?_
      refine AllReadyH.cons (o := ⟨_, _, _, _, _, _⟩) rfl (fun K hK => ?_) AllReadyH.nil
      go_simp
      refine hK.out _ _ ⟨HH0.out.cell, HH2.out.cell, HH3.out.cell, cell_of_row _ Bx 0 _ _ _ HBX5.out, cell_of_row _ Bx 1 _ _ _ HBX5.out⟩ (fun k5 => ?_)
      clear hK K
      try simp only [Act.put, List.setIfInBounds_toArray, List.set_cons_zero, List.set_cons_succ]
      refine wpAnyH_done (by kernel_rfl) ?_ _
      clear k4 k5 hc1 hf1
      obtain ⟨w5, hw5⟩ : ∃ w5, w4.setCell ⟨g + 1, 0, none⟩ (.slice (some ⟨g4, 0, none⟩) (pre.length + 1) cap4) = w5 := ⟨_, rfl⟩
      rw [hw5] at HV2 HR2 HH0 HH2 HH3 HBX5 HKP HKO HBO ⊢
      clear hw5
      gi_upto_region 12 with fail
      have e0 : w5.drew.cell? ⟨Bx, 0, none⟩ = some (.int .i64 x1) := cell_of_row w5 Bx 0 _ _ _ HBX5.out
      have e1 : w5.drew.cell? ⟨Bx, 1, none⟩ = some (.int .i64 x2) := cell_of_row w5 Bx 1 _ _ _ HBX5.out
      have e2 : w5.drew.cell? ⟨Bx, 2, none⟩ = some (.int .i64 x3) := cell_of_row w5 Bx 2 _ _ _ HBX5.out
      have j1 : IntKind.i64.wrap ((x1 : Int) + (x3 : Int)) = ((x1 + x3 : Nat) : Int) := by rw [IntWalk.i64_in _ (by omega)]; omega
      have j2 : IntKind.i64.wrap ((x2 : Int) + (x3 : Int)) = ((x2 + x3 : Nat) : Int) := by rw [IntWalk.i64_in _ (by omega)]; omega
      obtain ⟨n1, hn1⟩ : ∃ n1, x1 + x3 = n1 := ⟨_, rfl⟩
      obtain ⟨n2, hn2⟩ : ∃ n2, x2 + x3 = n2 := ⟨_, rfl⟩
      rw [hn1] at j1
      rw [hn2] at j2
      have HN1 := Lib.hid hn1
      have HN2 := Lib.hid hn2
      clear hn1 hn2
      refine region_held_round (S := fun W' => W'.cell? ⟨Bx, 0, none⟩ = some (.int .i64 x1) ∧ W'.cell? ⟨Bx, 1, none⟩ = some (.int .i64 x2) ∧ W'.cell? ⟨Bx, 2, none⟩ = some (.int .i64 x3)) (w3.heap.size + 1) (by kernel_rfl) (by kernel_rfl) (fun ⟨_, _, h⟩ => h) ⟨e0, e1, e2⟩ (fun k6 => ?_)
      (first | ((refine wpAnyH_take (i := 0) (oi := ⟨_, _, _, _, _, _⟩) (v := ?_) rfl (by kernel_rfl) (by kernel_rfl) (by kernel_rfl) (fun _ _ _ h => h) (Or.inl ⟨by rfl, ?_⟩) (by assumption) ?_); rotate_left; focus ((intro w hSw); (try dsimp only at hSw); go_simp; all_goals (with_reducible rfl))) | (refine wpAnyH_take (i := 0) (oi := ⟨_, _, _, _, _, _⟩) (v := undef) rfl (by kernel_rfl) (by kernel_rfl) (by kernel_rfl) (fun _ _ _ h => h) (Or.inr ⟨by rfl, rfl⟩) (by assumption) ?_))
      try simp only [Act.put, List.setIfInBounds_toArray, List.set_cons_zero, List.set_cons_succ]
      (first | ((refine wpAnyH_take (i := 1) (oi := ⟨_, _, _, _, _, _⟩) (v := ?_) rfl (by kernel_rfl) (by kernel_rfl) (by kernel_rfl) (fun _ _ _ h => h) (Or.inl ⟨by rfl, ?_⟩) (by assumption) ?_); rotate_left; focus ((intro w hSw); (try dsimp only at hSw); go_simp; all_goals (with_reducible rfl))) | (refine wpAnyH_take (i := 1) (oi := ⟨_, _, _, _, _, _⟩) (v := undef) rfl (by kernel_rfl) (by kernel_rfl) (by kernel_rfl) (fun _ _ _ h => h) (Or.inr ⟨by rfl, rfl⟩) (by assumption) ?_))
      try simp only [Act.put, List.setIfInBounds_toArray, List.set_cons_zero, List.set_cons_succ]
      (first | ((refine wpAnyH_take (i := 2) (oi := ⟨_, _, _, _, _, _⟩) (v := ?_) rfl (by kernel_rfl) (by kernel_rfl) (by kernel_rfl) (fun _ _ _ h => h) (Or.inl ⟨by rfl, ?_⟩) (by assumption) ?_); rotate_left; focus ((intro w hSw); (try dsimp only at hSw); go_simp; all_goals (with_reducible rfl))) | (refine wpAnyH_take (i := 2) (oi := ⟨_, _, _, _, _, _⟩) (v := undef) rfl (by kernel_rfl) (by kernel_rfl) (by kernel_rfl) (fun _ _ _ h => h) (Or.inr ⟨by rfl, rfl⟩) (by assumption) ?_))
      try simp only [Act.put, List.setIfInBounds_toArray, List.set_cons_zero, List.set_cons_succ]
      (first | ((refine wpAnyH_take (i := 3) (oi := ⟨_, _, _, _, _, _⟩) (v := ?_) rfl (by kernel_rfl) (by kernel_rfl) (by kernel_rfl) (fun _ _ _ h => h) (Or.inl ⟨by rfl, ?_⟩) (by assumption) ?_); rotate_left; focus ((intro w hSw); (try dsimp only at hSw); go_simp; all_goals (with_reducible rfl))) | (refine wpAnyH_take (i := 3) (oi := ⟨_, _, _, _, _, _⟩) (v := undef) rfl (by kernel_rfl) (by kernel_rfl) (by kernel_rfl) (fun _ _ _ h => h) (Or.inr ⟨by rfl, rfl⟩) (by assumption) ?_))
      try simp only [Act.put, List.setIfInBounds_toArray, List.set_cons_zero, List.set_cons_succ]
      (first | ((refine wpAnyH_take (i := 4) (oi := ⟨_, _, _, _, _, _⟩) (v := ?_) rfl (by kernel_rfl) (by kernel_rfl) (by kernel_rfl) (fun _ _ _ h => h) (Or.inl ⟨by rfl, ?_⟩) (by assumption) ?_); rotate_left; focus ((intro w hSw); (try dsimp only at hSw); go_simp; all_goals (with_reducible rfl))) | (refine wpAnyH_take (i := 4) (oi := ⟨_, _, _, _, _, _⟩) (v := undef) rfl (by kernel_rfl) (by kernel_rfl) (by kernel_rfl) (fun _ _ _ h => h) (Or.inr ⟨by rfl, rfl⟩) (by assumption) ?_))
      try simp only [Act.put, List.setIfInBounds_toArray, List.set_cons_zero, List.set_cons_succ]
      (first | ((refine wpAnyH_take (i := 5) (oi := ⟨_, _, _, _, _, _⟩) (v := ?_) rfl (by kernel_rfl) (by kernel_rfl) (by kernel_rfl) (fun _ _ _ h => h) (Or.inl ⟨by rfl, ?_⟩) (by assumption) ?_); rotate_left; focus ((intro w hSw); (try dsimp only at hSw); go_simp; all_goals (with_reducible rfl))) | (refine wpAnyH_take (i := 5) (oi := ⟨_, _, _, _, _, _⟩) (v := undef) rfl (by kernel_rfl) (by kernel_rfl) (by kernel_rfl) (fun _ _ _ h => h) (Or.inr ⟨by rfl, rfl⟩) (by assumption) ?_))
      try simp only [Act.put, List.setIfInBounds_toArray, List.set_cons_zero, List.set_cons_succ]
      (first | ((refine wpAnyH_take (i := 6) (oi := ⟨_, _, _, _, _, _⟩) (v := ?_) rfl (by kernel_rfl) (by kernel_rfl) (by kernel_rfl) (fun _ _ _ h => h) (Or.inl ⟨by rfl, ?_⟩) (by assumption) ?_); rotate_left; focus ((intro w hSw); (try dsimp only at hSw); go_simp; all_goals (with_reducible rfl))) | (refine wpAnyH_take (i := 6) (oi := ⟨_, _, _, _, _, _⟩) (v := undef) rfl (by kernel_rfl) (by kernel_rfl) (by kernel_rfl) (fun _ _ _ h => h) (Or.inr ⟨by rfl, rfl⟩) (by assumption) ?_))
      try simp only [Act.put, List.setIfInBounds_toArray, List.set_cons_zero, List.set_cons_succ]
      (first | ((refine wpAnyH_take (i := 7) (oi := ⟨_, _, _, _, _, _⟩) (v := ?_) rfl (by kernel_rfl) (by kernel_rfl) (by kernel_rfl) (fun _ _ _ h => h) (Or.inl ⟨by rfl, ?_⟩) (by assumption) ?_); rotate_left; focus ((intro w hSw); (try dsimp only at hSw); go_simp; all_goals (with_reducible rfl))) | (refine wpAnyH_take (i := 7) (oi := ⟨_, _, _, _, _, _⟩) (v := undef) rfl (by kernel_rfl) (by kernel_rfl) (by kernel_rfl) (fun _ _ _ h => h) (Or.inr ⟨by rfl, rfl⟩) (by assumption) ?_))
      try simp only [Act.put, List.setIfInBounds_toArray, List.set_cons_zero, List.set_cons_succ]
      (first | ((refine wpAnyH_take (i := 8) (oi := ⟨_, _, _, _, _, _⟩) (v := ?_) rfl (by kernel_rfl) (by kernel_rfl) (by kernel_rfl) (fun _ _ _ h => h) (Or.inl ⟨by rfl, ?_⟩) (by assumption) ?_); rotate_left; focus ((intro w hSw); (try dsimp only at hSw); go_simp; all_goals (with_reducible rfl))) | (refine wpAnyH_take (i := 8) (oi := ⟨_, _, _, _, _, _⟩) (v := undef) rfl (by kernel_rfl) (by kernel_rfl) (by kernel_rfl) (fun _ _ _ h => h) (Or.inr ⟨by rfl, rfl⟩) (by assumption) ?_))
      try simp only [Act.put, List.setIfInBounds_toArray, List.set_cons_zero, List.set_cons_succ]
      (first | ((refine wpAnyH_take (i := 9) (oi := ⟨_, _, _, _, _, _⟩) (v := ?_) rfl (by kernel_rfl) (by kernel_rfl) (by kernel_rfl) (fun _ _ _ h => h) (Or.inl ⟨by rfl, ?_⟩) (by assumption) ?_); rotate_left; focus ((intro w hSw); (try dsimp only at hSw); go_simp; all_goals (with_reducible rfl))) | (refine wpAnyH_take (i := 9) (oi := ⟨_, _, _, _, _, _⟩) (v := undef) rfl (by kernel_rfl) (by kernel_rfl) (by kernel_rfl) (fun _ _ _ h => h) (Or.inr ⟨by rfl, rfl⟩) (by assumption) ?_))
      try simp only [Act.put, List.setIfInBounds_toArray, List.set_cons_zero, List.set_cons_succ]
      have y2 := HH2.out.cell
      have y2' := HH2.out.frozen
      have hne2 : Bx ≠ g + 2 := by omega
      have hne3 : Bx ≠ g + 3 := by omega
      refine wpAnyH_ready (rs := [10]) (by kernel_rfl) (by simp) ?_
      refine AllReadyH.cons (o := ⟨_, _, _, _, _, _⟩) rfl (fun K hK => ?_) AllReadyH.nil
      go_simp
      obtain ⟨w6, hw6⟩ : ∃ w6, (w5.setCell ⟨g + 2, 0, none⟩ (.int .i64 n1)).drew = w6 := ⟨_, rfl⟩
      have hbx6 : w6.heap[Bx]? = some (.cells #[.int .i64 x1, .int .i64 x2, .int .i64 x3] 74 (0, 0)) := by rw [← hw6]; exact (Below.heap_setCell w5 ⟨g + 2, 0, none⟩ _ Bx hne2).trans HBX5.out
      have p0 : Boxed w6 g 9 (.string (strB U)) := by rw [← hw6]; exact HH0.out.other (by omega) _
      have p1 : Boxed w6 (g + 1) 22 (.slice (some ⟨g4, 0, none⟩) (pre.length + 1) cap4) := by rw [← hw6]; exact HV2.out.other (by omega) _
      have p2 : Boxed w6 (g + 2) 3 (.int .i64 n1) := by rw [← hw6]; exact HH2.out.set _
      have p3 : Boxed w6 (g + 3) 3 (.int .i64 at_) := by rw [← hw6]; exact HH3.out.other (by omega) _
      have pr : w6.ownsRow g 39 3 (.slice (some ⟨g4, 0, none⟩) (pre.length + 1) cap4) (pre.length + 1) (edCs (gapsI U 0 0 pre) ++ [.int .i64 old, .int .i64 x1, .string ((strB U).extract at_ x2)]) := by
        rw [← hw6]
        have h := HR2.out.kept (grownBy_setCell' w5 (g + 2) (.int .i64 n1)) (.inr (HH2.out.not_row (by decide) HR2.out).symm)
        exact h
      have pk : KpB X (g + 1) W w6 := by
        rw [← hw6]
        exact (KpB.below (Below.drew (Below.refl _ W))).trans (HKP.out.trans ((KpB.store ((HXI.out _).2 (.inr (.inl rfl))) (by omega) _).trans (KpB.below (Below.drew (Below.refl _ _)))))
      have po : KeepsOthers W w6 := by
        rw [← hw6]
        exact (KeepsOthers.drew W).trans (HKO.out.trans ((KeepsOthers.setCell w5 _ _).trans (KeepsOthers.drew _)))
      have pb : Below w.heap.size w w6 := by
        rw [← hw6]
        refine Below.drew (Below.setCell (p := ⟨g + 2, 0, none⟩) ?_ (by simp; omega) _)
        exact HHB.out.trans ((Below.drew (Below.refl _ W)).trans (HBO.out.mono hgw))
      refine hK.out _ _ (by rw [hw6]; exact ⟨cell_of_row w6 Bx 0 _ _ _ hbx6, cell_of_row w6 Bx 1 _ _ _ hbx6, cell_of_row w6 Bx 2 _ _ _ hbx6⟩) (fun k7 => ?_)
      rw [hw6]
      have y3 := p3.cell
      have y3' := p3.frozen
      have P0 := Lib.hid p0
      have P1 := Lib.hid p1
      have P2 := Lib.hid p2
      have P3 := Lib.hid p3
      have PR := Lib.hid pr
      have PK := Lib.hid pk
      have PO := Lib.hid po
      have PB := Lib.hid pb
      have HBX6 := Lib.hid hbx6
      clear hK K hw6 p0 p1 p2 p3 pr pk po pb hbx6 k7 k6 y2 y2' HV2 HR2 HH0 HH2 HH3 HBX5 HKP HKO HBO
      try simp only [Act.put, List.setIfInBounds_toArray, List.set_cons_zero, List.set_cons_succ]
      refine wpAnyH_ready (rs := [11]) (by kernel_rfl) (by simp) ?_
      refine AllReadyH.cons (o := ⟨_, _, _, _, _, _⟩) rfl (fun K hK => ?_) AllReadyH.nil
      go_simp
      refine hK.out _ _ ⟨?_, ?_, ?_⟩ (fun k7 => ?_)
      iterate 3
        · exact cell_of_row _ Bx _ _ _ _ ((Below.heap_setCell w6 ⟨g + 3, 0, none⟩ _ Bx hne3).trans HBX6.out)
      clear hK K
      try simp only [Act.put, List.setIfInBounds_toArray, List.set_cons_zero, List.set_cons_succ]
      refine wpAnyH_done (by kernel_rfl) ?_ _
      clear k7 y3 y3'
      gi_wp2
      refine ⟨(PO.out.trans (KeepsOthers.setCell w6 _ _)).from _, PK.out.trans (KpB.store ((HXI.out _).2 (.inr (.inr rfl))) (by omega) _), ⟨_, P1.out.other (by omega) _, ?_, trivial⟩, ?_, ?_, P0.out.other (by omega) _, PB.out.setCell (p := ⟨g + 3, 0, none⟩) (by simp; omega) _⟩
      · have hr := PR.out.kept (grownBy_setCell' w6 (g + 3) (.int .i64 n2)) (.inr (P3.out.not_row (by decide) PR.out).symm)
        rw [HCUT.out] at hr
        rw [HSN.out, edCs_app, List.length_append]
        exact hr
      · rw [HSO.out, HN1.out]; exact P2.out.other (by omega) _
      · rw [HSW.out, HN2.out]; exact P3.out.set _
  case done =>
    rintro W ⟨⟨v, hv, hrow, -⟩, h2, h3, h0, hB⟩ hK
    obtain ⟨av, cv, rfl, hrat⟩ := ownsRow_row hrow
    have hcl := HCL.out
    have hend : oldE 0 C ≤ l.length ∧ newE 0 C ≤ U.length := by
      have hv := HV.out
      have hv' := HV'.out
      have hc := HCC.out
      rw [← HT.out] at hv' hc
      have := comp_end hv hv'
      rw [hc, HT.out, HU.out] at this
      exact this
    have hcomp : compP l es fs = gapsI U 0 0 C ++ [⟨oldE 0 C, l.length, U.drop (newE 0 C)⟩] := by
      unfold compP
      rw [HT.out, HCC.out, HU.out, gapsP_eq]
    have hsn : Snd l.length 0 (compP l es fs) := compP_snd HV.out (by rw [HT.out]; exact HV'.out)
    have hxs : ∀ e ∈ compP l es fs, e.x.length ≤ 1000000 := fun e he => by
      unfold compP at he
      rw [HT.out, HU.out] at he
      have := gapsP_x _ _ _ _ _ e he
      omega
    have hlen : (compP l es fs).length = C.length + 1 := by rw [hcomp, List.length_append, gapsI_length]; rfl
    obtain ⟨old, hold⟩ : ∃ old, oldE 0 C = old := ⟨_, rfl⟩
    obtain ⟨at_, hat_⟩ : ∃ at_, newE 0 C = at_ := ⟨_, rfl⟩
    rw [hold, hat_] at hend hcomp
    rw [hold] at h2
    rw [hat_] at h3
    have zu : (strB U).size = U.length := strB_size U
    gi_upto_region 13 with fail
    refine wpIn_wide.2 (region_only ?_)
    have c0 := h0.cell
    have c1 := hv.cell
    have c2 := h2.cell
    have c3 := h3.cell
    have i1 : IntKind.i64.wrap (at_ : Int) = (at_ : Int) := IntWalk.i64_in _ (by omega)
    have i3 : (at_ : Int) ≤ (U.length : Int) := by omega
    have i5 : (0 : Int) ≤ (at_ : Int) := by omega
    obtain ⟨tmp, htmp⟩ : ∃ tmp, Obj.cells #[.int .i64 old, .int .i64 l.length, .string ((strB U).extract at_ U.length)] 39 (0, 0) = tmp := ⟨_, rfl⟩
    obtain ⟨Wt, hWt⟩ : ∃ Wt, (W.alloc tmp).drew = Wt := ⟨_, rfl⟩
    have hbel1 : Below W.heap.size W Wt := by rw [← hWt]; exact Below.drew ((Below.refl _ W).alloc (Nat.le_refl _) _)
    have S1 : Wt.cell? ⟨g, 0, none⟩ = some (.string (strB U)) ∧ Wt.cell? ⟨g + 2, 0, none⟩ = some (.int .i64 old) ∧ Wt.cell? ⟨g + 3, 0, none⟩ = some (.int .i64 at_) :=
      ⟨Below.kept hbel1 (Nat.le_refl _) c0, Below.kept hbel1 (Nat.le_refl _) c2, Below.kept hbel1 (Nat.le_refl _) c3⟩
    have l0 : W.drew.cell? ⟨g + 1, 0, none⟩ = some (.slice av C.length cv) := c1
    have l1 : Wt.cell? ⟨g + 1, 0, none⟩ = some (.slice av C.length cv) := Below.kept hbel1 (Nat.le_refl _) c1
    have hcut : (strB U).extract at_ U.length = strB (U.drop at_) := by
      rw [ext_strB, strB_list]
      unfold cutL
      rw [List.take_of_length_le (by simp)]
    have hsrc : RowAt Wt (some ⟨W.heap.size, 0, none⟩) 1 1 3 [.int .i64 old, .int .i64 l.length, .string ((strB U).extract at_ U.length)] := by rw [← hWt, ← htmp]; exact row_new (w := W.drew) (cs := [.int .i64 old, .int .i64 l.length, .string ((strB U).extract at_ U.length)]) rfl (by decide)
    have hgz0 : g ≤ W.drew.heap.size := by have := h0.lt; show g ≤ W.heap.size; omega
    have hgz1 : g ≤ Wt.heap.size := by have := hbel1.size; exact Nat.le_trans hgz0 this
    have hDl : w3.heap.size < W.drew.heap.size := (Array.getElem?_eq_some_iff.1 hK).1
    have kn := fun W' a' c' (h : EdsAt W' a' c' (compP l es fs)) => normal_any s a' c' (compP l es fs) W' (by omega) h (by rw [hlen]; omega) (by rw [hsl]; exact hsn) hxs
    rw [HL.out, HNN.out] at kn
    have hN' : N.length ≤ 1000 := by have := norm_len l (compP l es fs); rw [HNN.out, hlen] at this; omega
    have KN := Lib.hid kn
    have HROWA := Lib.hid (ownsRow_below hrow hbel1)
    have HROWD := Lib.hid (show W.drew.ownsRow g 39 3 (.slice av C.length cv) C.length (edCs (gapsI U 0 0 C)) from hrow)
    have HS1 := Lib.hid S1
    have HSRC := Lib.hid hsrc
    have HCUT := Lib.hid hcut
    have HCM := Lib.hid hcomp
    have HLEN := Lib.hid hlen
    have H0 := Lib.hid h0
    have H1 := Lib.hid hv
    have H2 := Lib.hid h2
    have H3 := Lib.hid h3
    have HHB := Lib.hid hB
    have HKD := Lib.hid hK
    have S0 := Lib.hid (show W.drew.cell? ⟨g, 0, none⟩ = some (.string (strB U)) ∧ W.drew.cell? ⟨g + 2, 0, none⟩ = some (.int .i64 old) ∧ W.drew.cell? ⟨g + 3, 0, none⟩ = some (.int .i64 at_) from ⟨c0, c2, c3⟩)
    clear S1 hsrc hcut hrow h0 hv h2 h3 hB hK hbel1 c0 c1 c2 c3 kn hcomp hlen hxs hsn hold hat_ hrat
    refine wp_region_held_drew (S := fun W' => W'.cell? ⟨g, 0, none⟩ = some (.string (strB U)) ∧ W'.cell? ⟨g + 2, 0, none⟩ = some (.int .i64 old) ∧ W'.cell? ⟨g + 3, 0, none⟩ = some (.int .i64 at_)) (by kernel_rfl) S0.out (fun k0 => ?_)
    (first | ((refine wpAnyH_take (i := 0) (oi := ⟨_, _, _, _, _, _⟩) (v := ?_) rfl (by kernel_rfl) (by kernel_rfl) (by kernel_rfl) (fun _ _ _ h => h) (Or.inl ⟨by rfl, ?_⟩) (by assumption) ?_); rotate_left; focus ((intro w hSw); (try dsimp only at hSw); go_simp; all_goals (with_reducible rfl))) | (refine wpAnyH_take (i := 0) (oi := ⟨_, _, _, _, _, _⟩) (v := undef) rfl (by kernel_rfl) (by kernel_rfl) (by kernel_rfl) (fun _ _ _ h => h) (Or.inr ⟨by rfl, rfl⟩) (by assumption) ?_))
    try simp only [Act.put, List.setIfInBounds_toArray, List.set_cons_zero, List.set_cons_succ]
    (first | ((refine wpAnyH_take (i := 2) (oi := ⟨_, _, _, _, _, _⟩) (v := ?_) rfl (by kernel_rfl) (by kernel_rfl) (by kernel_rfl) (fun _ _ _ h => h) (Or.inl ⟨by rfl, ?_⟩) (by assumption) ?_); rotate_left; focus ((intro w hSw); (try dsimp only at hSw); go_simp; all_goals (with_reducible rfl))) | (refine wpAnyH_take (i := 2) (oi := ⟨_, _, _, _, _, _⟩) (v := undef) rfl (by kernel_rfl) (by kernel_rfl) (by kernel_rfl) (fun _ _ _ h => h) (Or.inr ⟨by rfl, rfl⟩) (by assumption) ?_))
    try simp only [Act.put, List.setIfInBounds_toArray, List.set_cons_zero, List.set_cons_succ]
    (first | ((refine wpAnyH_take (i := 3) (oi := ⟨_, _, _, _, _, _⟩) (v := ?_) rfl (by kernel_rfl) (by kernel_rfl) (by kernel_rfl) (fun _ _ _ h => h) (Or.inl ⟨by rfl, ?_⟩) (by assumption) ?_); rotate_left; focus ((intro w hSw); (try dsimp only at hSw); go_simp; all_goals (with_reducible rfl))) | (refine wpAnyH_take (i := 3) (oi := ⟨_, _, _, _, _, _⟩) (v := undef) rfl (by kernel_rfl) (by kernel_rfl) (by kernel_rfl) (fun _ _ _ h => h) (Or.inr ⟨by rfl, rfl⟩) (by assumption) ?_))
    try simp only [Act.put, List.setIfInBounds_toArray, List.set_cons_zero, List.set_cons_succ]
    (first | ((refine wpAnyH_take (i := 4) (oi := ⟨_, _, _, _, _, _⟩) (v := ?_) rfl (by kernel_rfl) (by kernel_rfl) (by kernel_rfl) (fun _ _ _ h => h) (Or.inl ⟨by rfl, ?_⟩) (by assumption) ?_); rotate_left; focus ((intro w hSw); (try dsimp only at hSw); go_simp; all_goals (with_reducible rfl))) | (refine wpAnyH_take (i := 4) (oi := ⟨_, _, _, _, _, _⟩) (v := undef) rfl (by kernel_rfl) (by kernel_rfl) (by kernel_rfl) (fun _ _ _ h => h) (Or.inr ⟨by rfl, rfl⟩) (by assumption) ?_))
    try simp only [Act.put, List.setIfInBounds_toArray, List.set_cons_zero, List.set_cons_succ]
    (first | ((refine wpAnyH_take (i := 5) (oi := ⟨_, _, _, _, _, _⟩) (v := ?_) rfl (by kernel_rfl) (by kernel_rfl) (by kernel_rfl) (fun _ _ _ h => h) (Or.inl ⟨by rfl, ?_⟩) (by assumption) ?_); rotate_left; focus ((intro w hSw); (try dsimp only at hSw); go_simp; all_goals (with_reducible rfl))) | (refine wpAnyH_take (i := 5) (oi := ⟨_, _, _, _, _, _⟩) (v := undef) rfl (by kernel_rfl) (by kernel_rfl) (by kernel_rfl) (fun _ _ _ h => h) (Or.inr ⟨by rfl, rfl⟩) (by assumption) ?_))
    try simp only [Act.put, List.setIfInBounds_toArray, List.set_cons_zero, List.set_cons_succ]
    (first | ((refine wpAnyH_take (i := 6) (oi := ⟨_, _, _, _, _, _⟩) (v := ?_) rfl (by kernel_rfl) (by kernel_rfl) (by kernel_rfl) (fun _ _ _ h => h) (Or.inl ⟨by rfl, ?_⟩) (by assumption) ?_); rotate_left; focus ((intro w hSw); (try dsimp only at hSw); go_simp; all_goals (with_reducible rfl))) | (refine wpAnyH_take (i := 6) (oi := ⟨_, _, _, _, _, _⟩) (v := undef) rfl (by kernel_rfl) (by kernel_rfl) (by kernel_rfl) (fun _ _ _ h => h) (Or.inr ⟨by rfl, rfl⟩) (by assumption) ?_))
    try simp only [Act.put, List.setIfInBounds_toArray, List.set_cons_zero, List.set_cons_succ]
    (first | ((refine wpAnyH_take (i := 7) (oi := ⟨_, _, _, _, _, _⟩) (v := ?_) rfl (by kernel_rfl) (by kernel_rfl) (by kernel_rfl) (fun _ _ _ h => h) (Or.inl ⟨by rfl, ?_⟩) (by assumption) ?_); rotate_left; focus ((intro w hSw); (try dsimp only at hSw); go_simp; all_goals (with_reducible rfl))) | (refine wpAnyH_take (i := 7) (oi := ⟨_, _, _, _, _, _⟩) (v := undef) rfl (by kernel_rfl) (by kernel_rfl) (by kernel_rfl) (fun _ _ _ h => h) (Or.inr ⟨by rfl, rfl⟩) (by assumption) ?_))
    try simp only [Act.put, List.setIfInBounds_toArray, List.set_cons_zero, List.set_cons_succ]
    (first | ((refine wpAnyH_take (i := 8) (oi := ⟨_, _, _, _, _, _⟩) (v := ?_) rfl (by kernel_rfl) (by kernel_rfl) (by kernel_rfl) (fun _ _ _ h => h) (Or.inl ⟨by rfl, ?_⟩) (by assumption) ?_); rotate_left; focus ((intro w hSw); (try dsimp only at hSw); go_simp; all_goals (with_reducible rfl))) | (refine wpAnyH_take (i := 8) (oi := ⟨_, _, _, _, _, _⟩) (v := undef) rfl (by kernel_rfl) (by kernel_rfl) (by kernel_rfl) (fun _ _ _ h => h) (Or.inr ⟨by rfl, rfl⟩) (by assumption) ?_))
    try simp only [Act.put, List.setIfInBounds_toArray, List.set_cons_zero, List.set_cons_succ]
    refine wpAnyH_ready (rs := [1, 9]) (by kernel_rfl) (by simp) ?_
    refine AllReadyH.cons (o := ⟨_, _, _, _, _, _⟩) rfl (fun K hK => ?_) ?_
    · go_simp
      refine hK.out _ _ S0.out (fun k1 => ?_)
      clear hK K
      try simp only [Act.put, List.setIfInBounds_toArray, List.set_cons_zero, List.set_cons_succ]
      refine wpAnyH_ready (rs := [9]) (by kernel_rfl) (by simp) ?_
      refine AllReadyH.cons (o := ⟨_, _, _, _, _, _⟩) rfl (fun K hK => ?_) AllReadyH.nil
      go_simp
      refine hK.out _ _ HS1.out (fun k2 => ?_)
      clear hK K k1 k2
      try simp only [Act.put, List.setIfInBounds_toArray, List.set_cons_zero, List.set_cons_succ]
      refine wpAnyH_ready (rs := [10]) (by kernel_rfl) (by simp) ?_
      refine AllReadyH.cons (o := ⟨_, _, _, _, _, _⟩) rfl (fun K hK => ?_) AllReadyH.nil
      refine step_append_at rfl (.tmp 64) (.tmp 72) 22 rfl elemE g (.slice av C.length cv) C.length _ rfl HROWA.out ⟨W.heap.size, 0, none⟩ 1 1 [.int .i64 old, .int .i64 l.length, .string ((strB U).extract at_ U.length)] rfl HSRC.out (by simp [Value.oneCell']) (by omega) (by omega) hgz1 ?_
      intro v4 w4 hown4 hgrow4 hat4
      obtain ⟨g4, cap4, rfl⟩ := ownsRow_succ hown4
      have hgrow4 : (W.drew.alloc tmp).grownBy w4 (Value.slice av C.length cv).ownBlock := by rw [← hWt] at hgrow4; exact hgrow4
      obtain ⟨hv1, -, -, hko, hbo⟩ := Boxed.appended (W := W.drew) (tmp := tmp) (B := g + 1) H1.out (by decide) HROWD.out hgz0 (by omega) hown4 hgrow4
      have k0' := (((show Boxed W.drew g 9 (.string (strB U)) from H0.out).alloc tmp).kept hgrow4 (H0.out.not_row (by decide) HROWD.out))
      have k2' := (((show Boxed W.drew (g + 2) 3 (.int .i64 old) from H2.out).alloc tmp).kept hgrow4 (H2.out.not_row (by decide) HROWD.out))
      have k3' := (((show Boxed W.drew (g + 3) 3 (.int .i64 at_) from H3.out).alloc tmp).kept hgrow4 (H3.out.not_row (by decide) HROWD.out))
      have hD4 : w4.heap[w3.heap.size]? = some (.deferred (some [])) := by
        rw [hgrow4.block _ (by simp; exact Nat.lt_succ_of_lt hDl) (fun e => ?_), Below.heap_alloc W.drew tmp _ hDl]
        · exact HKD.out
        · rcases HROWD.out.2 with ⟨h, _⟩ | ⟨g', cap', cur, h, _, hgb, _⟩
          · rw [h] at e; simp [Value.ownBlock] at e
          · rw [h] at e
            simp [Value.ownBlock] at e
            rw [← e] at hgb
            have := hgb.symm.trans HKD.out
            cases this
      have hb4 : Below g W w4 := by
        have h1 : Below g W.drew (W.drew.alloc tmp) := (Below.refl _ _).alloc hgz0 _
        refine (Below.drew (Below.refl _ W)).trans (h1.grown hgrow4 (by rw [World.size_alloc]; omega) fun k hk => ?_)
        exact (HROWD.out.lt k hk).1
      have hown5 : OwnEds w4 g (.slice (some ⟨g4, 0, none⟩) (C.length + 1) cap4) (compP l es fs) := by
        unfold OwnEds
        rw [HLEN.out, HCM.out, edCs_app]
        rw [HCUT.out] at hown4
        exact hown4
      obtain ⟨a5, c5, he5, hat5⟩ := hown5.at
      simp only [Value.slice.injEq] at he5
      obtain ⟨rfl, -, rfl⟩ := he5
      refine hK.out _ _ ⟨k0'.cell, k2'.cell, k3'.cell⟩ (fun k4 => ?_)
      clear hK K
      have hkn := KN.out w4 (some ⟨g4, 0, none⟩) cap4 hat5
      rw [HLEN.out] at hkn
      have HKN := Lib.hid hkn
      have HK0 := Lib.hid k0'
      have HK1 := Lib.hid hv1
      have HK2 := Lib.hid k2'
      have HK3 := Lib.hid k3'
      have HD4 := Lib.hid hD4
      have HB4 := Lib.hid hb4
      clear hkn k0' hv1 k2' k3' hD4 hb4 hgrow4 hown4 hat4 hown5 hat5 hko hbo
      try simp only [Act.put, List.setIfInBounds_toArray, List.set_cons_zero, List.set_cons_succ]
      refine wpAnyH_ready (rs := [11]) (by kernel_rfl) (by simp) ?_
      refine AllReadyH.cons (o := ⟨_, _, _, _, _, _⟩) rfl (fun K hK => ?_) AllReadyH.nil
      go_simp
      (with_reducible refine HKN.out.mono ?_)
      rintro e w5 ⟨v5, rfl, hO5, hb5⟩
      obtain ⟨an, cn, rfl, hE5⟩ := hO5.at
      go_wp2_with fail
      have q0 : Boxed w5 g 9 (.string (strB U)) := Boxed.below HK0.out hb5
      have q1 : Boxed w5 (g + 1) 22 (.slice av C.length cv) := Boxed.below HK1.out hb5
      have q2 : Boxed w5 (g + 2) 3 (.int .i64 old) := Boxed.below HK2.out hb5
      have q3 : Boxed w5 (g + 3) 3 (.int .i64 at_) := Boxed.below HK3.out hb5
      have qD : w5.heap[w3.heap.size]? = some (.deferred (some [])) := (hb5.block _ (Array.getElem?_eq_some_iff.1 HD4.out).1).trans HD4.out
      refine hK.out _ _ ⟨q0.cell, q2.cell, q3.cell⟩ (fun k5 => ?_)
      clear hK K
      have z1 := q1.cell
      have z1' := q1.frozen
      have hmn := hE5.2.2.1
      have hln := hE5.le
      have HQ0 := Lib.hid (q0.other (by omega) (.slice an N.length cn) (B' := g + 1))
      have HQ1 := Lib.hid (q1.set (.slice an N.length cn))
      have HQ2 := Lib.hid (q2.other (by omega) (.slice an N.length cn) (B' := g + 1))
      have HQ3 := Lib.hid (q3.other (by omega) (.slice an N.length cn) (B' := g + 1))
      have hD6 : (w5.setCell ⟨g + 1, 0, none⟩ (.slice an N.length cn)).heap[w3.heap.size]? = some (.deferred (some [])) := (Below.heap_setCell w5 ⟨g + 1, 0, none⟩ _ _ (by simp; omega)).trans qD
      have HD6 := Lib.hid hD6
      have hgw4 : g ≤ w4.heap.size := Nat.le_trans hgz0 HB4.out.size
      have HB6 := Lib.hid (show Below w.heap.size w (w5.setCell ⟨g + 1, 0, none⟩ (.slice an N.length cn)) from ((HHB.out.trans (HB4.out.mono hgw)).trans (hb5.mono (by omega))).setCell (p := ⟨g + 1, 0, none⟩) (by simp; omega) _)
      have HO6 := Lib.hid (show OwnEds (w5.setCell ⟨g + 1, 0, none⟩ (.slice an N.length cn)) w4.heap.size (.slice an N.length cn) N from World.ownsRow.kept hO5 (grownBy_setCell' w5 (g + 1) _) (.inr fun e => by
        have := (World.ownsRow.lt hO5 (g + 1) e).1
        have := HK1.out.lt
        omega))
      clear q0 q1 q2 q3 qD hO5 hE5 hb5 HKN HK0 HK1 HK2 HK3 hD6
      try simp only [Act.put, List.setIfInBounds_toArray, List.set_cons_zero, List.set_cons_succ]
      refine wpAnyH_ready (rs := [12]) (by kernel_rfl) (by simp) ?_
      refine AllReadyH.cons (o := ⟨_, _, _, _, _, _⟩) rfl (fun K hK => ?_) AllReadyH.nil
      go_simp
      refine hK.out _ _ ⟨HQ0.out.cell, HQ2.out.cell, HQ3.out.cell⟩ (fun k6 => ?_)
      clear hK K
      try simp only [Act.put, List.setIfInBounds_toArray, List.set_cons_zero, List.set_cons_succ]
      refine wpAnyH_done (by kernel_rfl) ?_ _
      clear k4 k5 k6 z1 z1'
      rw [hz3] at HD6
      obtain ⟨w6, hw6⟩ : ∃ w6, w5.setCell ⟨g + 1, 0, none⟩ (.slice an N.length cn) = w6 := ⟨_, rfl⟩
      rw [hw6] at HQ0 HQ1 HQ2 HQ3 HD6 HB6 HO6 ⊢
      have z1 := HQ1.out.cell
      clear hw6
      have hwz : w.heap.size ≤ w3.heap.size := hgz
      by_cases h64n : 64 < N.length
      · have d64 : decide ((64 : Int) < (N.length : Int)) = true := decide_eq_true (by omega)
        gi_wp2
        refine ⟨by simp, .inl ⟨_, _, rfl, run_takeDeferred HD6.out, ?_⟩⟩
        exact ⟨_, results_tmp2 rfl _ _ _, _, rfl, OwnEds.nil _ _, HB6.out.trans (belowK_b (w := w) (Nat.le_refl _) w6 (g + 8) _ _ (by omega) HD6.out rfl rfl)⟩
      · have d64 : decide ((64 : Int) < (N.length : Int)) = false := decide_eq_false (by omega)
        gi_wp2
        refine ⟨by simp, .inl ⟨_, _, rfl, run_takeDeferred HD6.out, ?_⟩⟩
        exact ⟨_, results_tmp2 rfl _ _ _, _, rfl, OwnEds.base (ownsRow_putObj HO6.out _ HD6.out rfl) (by omega), HB6.out.trans (belowK_b (w := w) (Nat.le_refl _) w6 (g + 8) _ _ (by omega) HD6.out rfl rfl)⟩
    refine AllReadyH.cons (o := ⟨_, _, _, _, _, _⟩) rfl (fun K hK => ?_) AllReadyH.nil
    · go_simp
      refine hK.out _ _ HS1.out (fun k1 => ?_)
      clear hK K
      try simp only [Act.put, List.setIfInBounds_toArray, List.set_cons_zero, List.set_cons_succ]
      refine wpAnyH_ready (rs := [1]) (by kernel_rfl) (by simp) ?_
      refine AllReadyH.cons (o := ⟨_, _, _, _, _, _⟩) rfl (fun K hK => ?_) AllReadyH.nil
      go_simp
      refine hK.out _ _ HS1.out (fun k2 => ?_)
      clear hK K k1 k2
      try simp only [Act.put, List.setIfInBounds_toArray, List.set_cons_zero, List.set_cons_succ]
      refine wpAnyH_ready (rs := [10]) (by kernel_rfl) (by simp) ?_
      refine AllReadyH.cons (o := ⟨_, _, _, _, _, _⟩) rfl (fun K hK => ?_) AllReadyH.nil
      refine step_append_at rfl (.tmp 64) (.tmp 72) 22 rfl elemE g (.slice av C.length cv) C.length _ rfl HROWA.out ⟨W.heap.size, 0, none⟩ 1 1 [.int .i64 old, .int .i64 l.length, .string ((strB U).extract at_ U.length)] rfl HSRC.out (by simp [Value.oneCell']) (by omega) (by omega) hgz1 ?_
      intro v4 w4 hown4 hgrow4 hat4
      obtain ⟨g4, cap4, rfl⟩ := ownsRow_succ hown4
      have hgrow4 : (W.drew.alloc tmp).grownBy w4 (Value.slice av C.length cv).ownBlock := by rw [← hWt] at hgrow4; exact hgrow4
      obtain ⟨hv1, -, -, hko, hbo⟩ := Boxed.appended (W := W.drew) (tmp := tmp) (B := g + 1) H1.out (by decide) HROWD.out hgz0 (by omega) hown4 hgrow4
      have k0' := (((show Boxed W.drew g 9 (.string (strB U)) from H0.out).alloc tmp).kept hgrow4 (H0.out.not_row (by decide) HROWD.out))
      have k2' := (((show Boxed W.drew (g + 2) 3 (.int .i64 old) from H2.out).alloc tmp).kept hgrow4 (H2.out.not_row (by decide) HROWD.out))
      have k3' := (((show Boxed W.drew (g + 3) 3 (.int .i64 at_) from H3.out).alloc tmp).kept hgrow4 (H3.out.not_row (by decide) HROWD.out))
      have hD4 : w4.heap[w3.heap.size]? = some (.deferred (some [])) := by
        rw [hgrow4.block _ (by simp; exact Nat.lt_succ_of_lt hDl) (fun e => ?_), Below.heap_alloc W.drew tmp _ hDl]
        · exact HKD.out
        · rcases HROWD.out.2 with ⟨h, _⟩ | ⟨g', cap', cur, h, _, hgb, _⟩
          · rw [h] at e; simp [Value.ownBlock] at e
          · rw [h] at e
            simp [Value.ownBlock] at e
            rw [← e] at hgb
            have := hgb.symm.trans HKD.out
            cases this
      have hb4 : Below g W w4 := by
        have h1 : Below g W.drew (W.drew.alloc tmp) := (Below.refl _ _).alloc hgz0 _
        refine (Below.drew (Below.refl _ W)).trans (h1.grown hgrow4 (by rw [World.size_alloc]; omega) fun k hk => ?_)
        exact (HROWD.out.lt k hk).1
      have hown5 : OwnEds w4 g (.slice (some ⟨g4, 0, none⟩) (C.length + 1) cap4) (compP l es fs) := by
        unfold OwnEds
        rw [HLEN.out, HCM.out, edCs_app]
        rw [HCUT.out] at hown4
        exact hown4
      obtain ⟨a5, c5, he5, hat5⟩ := hown5.at
      simp only [Value.slice.injEq] at he5
      obtain ⟨rfl, -, rfl⟩ := he5
      refine hK.out _ _ ⟨k0'.cell, k2'.cell, k3'.cell⟩ (fun k4 => ?_)
      clear hK K
      have hkn := KN.out w4 (some ⟨g4, 0, none⟩) cap4 hat5
      rw [HLEN.out] at hkn
      have HKN := Lib.hid hkn
      have HK0 := Lib.hid k0'
      have HK1 := Lib.hid hv1
      have HK2 := Lib.hid k2'
      have HK3 := Lib.hid k3'
      have HD4 := Lib.hid hD4
      have HB4 := Lib.hid hb4
      clear hkn k0' hv1 k2' k3' hD4 hb4 hgrow4 hown4 hat4 hown5 hat5 hko hbo
      try simp only [Act.put, List.setIfInBounds_toArray, List.set_cons_zero, List.set_cons_succ]
      refine wpAnyH_ready (rs := [11]) (by kernel_rfl) (by simp) ?_
      refine AllReadyH.cons (o := ⟨_, _, _, _, _, _⟩) rfl (fun K hK => ?_) AllReadyH.nil
      go_simp
      (with_reducible refine HKN.out.mono ?_)
      rintro e w5 ⟨v5, rfl, hO5, hb5⟩
      obtain ⟨an, cn, rfl, hE5⟩ := hO5.at
      go_wp2_with fail
      have q0 : Boxed w5 g 9 (.string (strB U)) := Boxed.below HK0.out hb5
      have q1 : Boxed w5 (g + 1) 22 (.slice av C.length cv) := Boxed.below HK1.out hb5
      have q2 : Boxed w5 (g + 2) 3 (.int .i64 old) := Boxed.below HK2.out hb5
      have q3 : Boxed w5 (g + 3) 3 (.int .i64 at_) := Boxed.below HK3.out hb5
      have qD : w5.heap[w3.heap.size]? = some (.deferred (some [])) := (hb5.block _ (Array.getElem?_eq_some_iff.1 HD4.out).1).trans HD4.out
      refine hK.out _ _ ⟨q0.cell, q2.cell, q3.cell⟩ (fun k5 => ?_)
      clear hK K
      have z1 := q1.cell
      have z1' := q1.frozen
      have hmn := hE5.2.2.1
      have hln := hE5.le
      have HQ0 := Lib.hid (q0.other (by omega) (.slice an N.length cn) (B' := g + 1))
      have HQ1 := Lib.hid (q1.set (.slice an N.length cn))
      have HQ2 := Lib.hid (q2.other (by omega) (.slice an N.length cn) (B' := g + 1))
      have HQ3 := Lib.hid (q3.other (by omega) (.slice an N.length cn) (B' := g + 1))
      have hD6 : (w5.setCell ⟨g + 1, 0, none⟩ (.slice an N.length cn)).heap[w3.heap.size]? = some (.deferred (some [])) := (Below.heap_setCell w5 ⟨g + 1, 0, none⟩ _ _ (by simp; omega)).trans qD
      have HD6 := Lib.hid hD6
      have hgw4 : g ≤ w4.heap.size := Nat.le_trans hgz0 HB4.out.size
      have HB6 := Lib.hid (show Below w.heap.size w (w5.setCell ⟨g + 1, 0, none⟩ (.slice an N.length cn)) from ((HHB.out.trans (HB4.out.mono hgw)).trans (hb5.mono (by omega))).setCell (p := ⟨g + 1, 0, none⟩) (by simp; omega) _)
      have HO6 := Lib.hid (show OwnEds (w5.setCell ⟨g + 1, 0, none⟩ (.slice an N.length cn)) w4.heap.size (.slice an N.length cn) N from World.ownsRow.kept hO5 (grownBy_setCell' w5 (g + 1) _) (.inr fun e => by
        have := (World.ownsRow.lt hO5 (g + 1) e).1
        have := HK1.out.lt
        omega))
      clear q0 q1 q2 q3 qD hO5 hE5 hb5 HKN HK0 HK1 HK2 HK3 hD6
      try simp only [Act.put, List.setIfInBounds_toArray, List.set_cons_zero, List.set_cons_succ]
      refine wpAnyH_ready (rs := [12]) (by kernel_rfl) (by simp) ?_
      refine AllReadyH.cons (o := ⟨_, _, _, _, _, _⟩) rfl (fun K hK => ?_) AllReadyH.nil
      go_simp
      refine hK.out _ _ ⟨HQ0.out.cell, HQ2.out.cell, HQ3.out.cell⟩ (fun k6 => ?_)
      clear hK K
      try simp only [Act.put, List.setIfInBounds_toArray, List.set_cons_zero, List.set_cons_succ]
      refine wpAnyH_done (by kernel_rfl) ?_ _
      clear k4 k5 k6 z1 z1'
      rw [hz3] at HD6
      obtain ⟨w6, hw6⟩ : ∃ w6, w5.setCell ⟨g + 1, 0, none⟩ (.slice an N.length cn) = w6 := ⟨_, rfl⟩
      rw [hw6] at HQ0 HQ1 HQ2 HQ3 HD6 HB6 HO6 ⊢
      have z1 := HQ1.out.cell
      clear hw6
      have hwz : w.heap.size ≤ w3.heap.size := hgz
      by_cases h64n : 64 < N.length
      · have d64 : decide ((64 : Int) < (N.length : Int)) = true := decide_eq_true (by omega)
        gi_wp2
        refine ⟨by simp, .inl ⟨_, _, rfl, run_takeDeferred HD6.out, ?_⟩⟩
        exact ⟨_, results_tmp2 rfl _ _ _, _, rfl, OwnEds.nil _ _, HB6.out.trans (belowK_b (w := w) (Nat.le_refl _) w6 (g + 8) _ _ (by omega) HD6.out rfl rfl)⟩
      · have d64 : decide ((64 : Int) < (N.length : Int)) = false := decide_eq_false (by omega)
        gi_wp2
        refine ⟨by simp, .inl ⟨_, _, rfl, run_takeDeferred HD6.out, ?_⟩⟩
        exact ⟨_, results_tmp2 rfl _ _ _, _, rfl, OwnEds.base (ownsRow_putObj HO6.out _ HD6.out rfl) (by omega), HB6.out.trans (belowK_b (w := w) (Nat.le_refl _) w6 (g + 8) _ _ (by omega) HD6.out rfl rfl)⟩
end
end Go.Proofs.Ytpncjgcdiomloaa
