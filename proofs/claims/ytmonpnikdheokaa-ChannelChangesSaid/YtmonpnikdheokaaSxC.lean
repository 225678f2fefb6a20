/-
  Contract: position.Bytes.
-/
import Derived.Test.YtmonpnikdheokaaSxB
import Derived.Test.YtmonpnikdheokaaRec
namespace Go.Proofs.Ytmonpnikdheokaa
open Go Go.Proofs
open Go.RowKit
set_option linter.unusedVariables false
set_option linter.unusedSimpArgs false


structure PEd where
  sl : Int
  su : Int
  el : Int
  eu : Int
  x : ByteArray
def pedC (e : PEd) : List Value := [.int .i64 e.sl, .int .i64 e.su, .int .i64 e.el, .int .i64 e.eu, .string e.x]
theorem pedZ (e : PEd) : (pedC e).length = 5 := rfl
theorem pedO (e : PEd) : ∀ u ∈ pedC e, u.oneCell' = true := by
  intro u hu
  simp only [pedC, List.mem_cons, List.not_mem_nil, or_false] at hu
  rcases hu with rfl | rfl | rfl | rfl | rfl <;> rfl
abbrev PEdsAt := RecAt pedC 5
theorem PEds.cells {w : World} {b off cap : Nat} {es : List PEd} (h : PEdsAt w (some ⟨b, off, none⟩) cap es) {k : Nat} {e : PEd} (hk : es[k]? = some e) :
    w.cell? ⟨b, off + k * 5, none⟩ = some (.int .i64 e.sl) ∧ w.cell? ⟨b, off + k * 5 + 1, none⟩ = some (.int .i64 e.su) ∧ w.cell? ⟨b, off + k * 5 + 2, none⟩ = some (.int .i64 e.el) ∧
    w.cell? ⟨b, off + k * 5 + 3, none⟩ = some (.int .i64 e.eu) ∧ w.cell? ⟨b, off + k * 5 + 4, none⟩ = some (.string e.x) :=
  ⟨RecAt.cell0 pedZ h hk rfl, RecAt.cell pedZ h hk rfl, RecAt.cell pedZ h hk rfl, RecAt.cell pedZ h hk rfl, RecAt.cell pedZ h hk rfl⟩
def PEdW (e : PEd) : Prop := (-9223372036854775808 ≤ e.sl ∧ e.sl ≤ 9223372036854775807) ∧ (-9223372036854775808 ≤ e.su ∧ e.su ≤ 9223372036854775807) ∧ (-9223372036854775808 ≤ e.el ∧ e.el ≤ 9223372036854775807) ∧ (-9223372036854775808 ≤ e.eu ∧ e.eu ≤ 9223372036854775807) ∧ e.x.size ≤ 9223372036854775807

/-- An edit by offsets. -/
structure BEd where
  f : Nat
  t : Nat
  x : ByteArray
def bedC (e : BEd) : List Value := [.int .i64 e.f, .int .i64 e.t, .string e.x]
theorem bedZ (e : BEd) : (bedC e).length = 3 := rfl
theorem bedO (e : BEd) : ∀ u ∈ bedC e, u.oneCell' = true := by
  intro u hu
  simp only [bedC, List.mem_cons, List.not_mem_nil, or_false] at hu
  rcases hu with rfl | rfl | rfl <;> rfl
abbrev OwnBEd := OwnRec bedC 3 155
theorem BEds.cells {w : World} {b off cap : Nat} {es : List BEd} (h : RecAt bedC 3 w (some ⟨b, off, none⟩) cap es) {k : Nat} {e : BEd} (hk : es[k]? = some e) :
    w.cell? ⟨b, off + k * 3, none⟩ = some (.int .i64 e.f) ∧ w.cell? ⟨b, off + k * 3 + 1, none⟩ = some (.int .i64 e.t) ∧ w.cell? ⟨b, off + k * 3 + 2, none⟩ = some (.string e.x) :=
  ⟨RecAt.cell0 bedZ h hk rfl, RecAt.cell bedZ h hk rfl, RecAt.cell bedZ h hk rfl⟩
theorem elemBE : ElemT Try.prog 112 155 (.agg #[.int .i64 0, .int .i64 0, .string ⟨#[]⟩]) 3 32 := ⟨Try.underlying112, info_parts (by kernel_rfl), rfl, by decide⟩
/-- The error of one edit. -/
def pbE (l : List UInt8) (e : PEd) : Nat :=
  if (offC l e.sl e.su).2 ≠ 0 then (offC l e.sl e.su).2 else if (offC l e.el e.eu).2 ≠ 0 then (offC l e.el e.eu).2 else if (offC l e.el e.eu).1 < (offC l e.sl e.su).1 then 1 else 0
def pbB (l : List UInt8) (e : PEd) : BEd := ⟨(offC l e.sl e.su).1, (offC l e.el e.eu).1, e.x⟩
def pbR (l : List UInt8) : List PEd → List BEd → List BEd × Nat
  | [], acc => (acc, 0)
  | e :: es, acc => if pbE l e = 0 then pbR l es (acc ++ [pbB l e]) else ([], pbE l e)
def pbX (l : List UInt8) (es : List PEd) : List BEd × Nat := if 64 < es.length then ([], 4) else pbR l es []
theorem pbR_len (l : List UInt8) : ∀ (es : List PEd) (acc : List BEd), (pbR l es acc).1.length ≤ acc.length + es.length
  | [], acc => by simp [pbR]
  | e :: es, acc => by
    unfold pbR
    split
    · have := pbR_len l es (acc ++ [pbB l e])
      simp only [List.length_append, List.length_singleton, List.length_cons, List.length_nil] at this ⊢
      omega
    · simp
theorem pbX_len (l : List UInt8) (es : List PEd) : (pbX l es).1.length ≤ 64 := by
  unfold pbX
  split
  · simp
  · have := pbR_len l es []
    simp only [List.length_nil] at this
    omega
theorem bytes1_any (e : Int) (w : World) : Calls Try.prog 102 #[.int .i64 e] w fun x w' => x = .returned (.bool (e != 0)) ∧ w = w' := by
  go_enter Try.func102, Try.ntmps102
  go_wp2
  go_ret
  exact ⟨rfl, rfl⟩
theorem first_any (a b : Nat) (g : Nat) (w : World) (h0 : w.cell? ⟨g, 0, none⟩ = some (.int .i64 a)) (h1 : w.cell? ⟨g, 1, none⟩ = some (.int .i64 b)) :
    Calls Try.prog 101 #[.slice (some ⟨g, 0, none⟩) 2 2, .int .i64 0, .func (.func 102) #[] #[]] w fun x w' => x = .returned (.int .i64 ((if a ≠ 0 then a else b : Nat) : Int)) ∧ w = w' := by
  obtain ⟨r, hr⟩ : ∃ r : Nat, (if a ≠ 0 then a else b) = r := ⟨_, rfl⟩
  rw [hr]
  have HR := Lib.hid hr
  clear hr
  go_enter Try.func101, Try.ntmps101
  go_wp2_with fail
  go_loopw [11] (fun iv wr => wr = w ∧ ∃ k : Nat, iv = .int .i64 k ∧ (k = 0 ∨ k = 1 ∧ a = 0 ∨ k = 2 ∧ a = 0 ∧ b = 0)) (fun iv _ => 2 - (intOf iv).toNat)
  case atStart => exact ⟨rfl, 0, rfl, .inl rfl⟩
  case round =>
    obtain ⟨rfl, k, rfl, hk⟩ := hrel
    rcases hk with rfl | ⟨rfl, rfl⟩ | ⟨rfl, rfl, rfl⟩
    · go_wp2_with fail
      refine (bytes1_any a _).mono ?_
      rintro e w1 ⟨rfl, rfl⟩
      by_cases ha : a = 0
      · subst ha
        go_wp2_with fail
        go_roundw
        case rel => exact ⟨trivial, 1, rfl, by simp⟩
        case measure => decide
      · have d1 : ((a : Int) != 0) = true := by simp; omega
        obtain rfl : a = r := by have := HR.out; rw [if_pos ha] at this; exact this
        go_wp2_with fail
        go_ret
        exact ⟨rfl, rfl⟩
    · go_wp2_with fail
      refine (bytes1_any b _).mono ?_
      rintro e w1 ⟨rfl, rfl⟩
      obtain rfl : b = r := by have := HR.out; rw [if_neg (by simp)] at this; exact this
      by_cases hb : b = 0
      · subst hb
        go_wp2_with fail
        go_roundw
        case rel => exact ⟨trivial, 2, rfl, by simp⟩
        case measure => decide
      · have d1 : ((b : Int) != 0) = true := by simp; omega
        go_wp2_with fail
        go_ret
        exact ⟨rfl, rfl⟩
    · obtain rfl : 0 = r := by have := HR.out; rw [if_neg (by simp)] at this; exact this
      go_wp2_with fail
      go_ret
      exact ⟨rfl, rfl⟩
/-! ### The package's Bytes -/
theorem pbR_cons (l : List UInt8) (e : PEd) (es : List PEd) (acc : List BEd) : pbR l (e :: es) acc = if pbE l e = 0 then pbR l es (acc ++ [pbB l e]) else ([], pbE l e) := rfl
set_option maxRecDepth 100000 in
set_option maxHeartbeats 4000000 in
theorem pbytes_any (s : ByteArray) (a : Option Addr) (c : Nat) (es : List PEd) (w : World) (hs : s.size ≤ 1099511627776) (hx : PEdsAt w a c es) (hw : ∀ e ∈ es, PEdW e) :
    Calls Try.prog 85 #[.string s, .slice a es.length c] w fun e w' => ∃ v, e = .returned (.tuple #[v, .int .i64 (pbX s.data.toList es).2]) ∧ OwnBEd w' w.heap.size v (pbX s.data.toList es).1 ∧ Below w.heap.size w w' := by
  have hm := hx.max
  by_cases h64 : 64 < es.length
  · have hv : pbX s.data.toList es = ([], 4) := by unfold pbX; rw [if_pos h64]
    rw [hv]
    clear hv
    go_enter Try.func85, Try.ntmps85
    go_wp2
    go_ret2
    exact ⟨_, rfl, OwnRec.nil _ _, Below.refl _ _⟩
  · have hv : pbX s.data.toList es = pbR s.data.toList es [] := by unfold pbX; rw [if_neg h64]
    rw [hv]
    clear hv
    generalize hR : pbR s.data.toList es [] = R
    have HR := Lib.hid hR
    have HW := Lib.hid hw
    clear hR hw
    go_enter Try.func85, Try.ntmps85
    go_wp2_with fail
    go_loopw [6, 19] (fun ov iv wr => ∃ (k : Nat) (acc : List BEd), k ≤ es.length ∧ iv = .int .i64 k ∧ acc.length = k ∧ Hid (pbR s.data.toList (es.drop k) acc = R) ∧ OwnBEd wr w.heap.size ov acc ∧ Below w.heap.size w wr) (fun _ iv _ => es.length - (intOf iv).toNat)
    case atStart => exact ⟨0, [], by omega, rfl, rfl, HR.out, OwnRec.nil _ _, Below.refl _ _⟩
    case round =>
      obtain ⟨k, acc, hk, rfl, hal, hS, hO, hB⟩ := hrel
      by_cases hlt : k < es.length
      · obtain ⟨b, off, rfl⟩ := RecAt.addr pedZ (by decide) hx (by omega)
        obtain ⟨e, he⟩ : ∃ e, es[k]? = some e := ⟨es[k], List.getElem?_eq_getElem hlt⟩
        obtain ⟨f0, f1, f2, f3, f4⟩ := PEds.cells (RecAt.below hx hB) he
        obtain ⟨q0, q1, q2, q3, q4⟩ := HW.out e (List.mem_of_getElem? he)
        have hd : es.drop k = e :: es.drop (k + 1) := by
          rw [List.getElem?_eq_getElem hlt, Option.some.injEq] at he
          rw [List.drop_eq_getElem_cons hlt, he]
        have hS' := hS.out
        rw [hd, pbR_cons] at hS'
        unfold pbE pbB at hS'
        have k1 := fun W => offset_any s e.sl e.su W hs q0.1 q0.2 q1.1 q1.2
        have k2 := fun W => offset_any s e.el e.eu W hs q2.1 q2.2 q3.1 q3.2
        obtain ⟨el1, el2, el3, el4, ex⟩ := e
        simp only at k1 k2 hS' f0 f1 f2 f3 f4
        generalize offC s.data.toList el1 el2 = P at *
        generalize offC s.data.toList el3 el4 = Q at *
        obtain ⟨p1, p2⟩ := P
        obtain ⟨r1, r2⟩ := Q
        simp only at k1 k2 hS'
        clear he hd hS q0 q1 q2 q3
        obtain ⟨W0, hW0⟩ : ∃ x, x = wr.alloc (.cells #[.int .i64 el1, .int .i64 el2, .int .i64 el3, .int .i64 el4, .string ex] 127) := ⟨_, rfl⟩
        have hb0 : W0.heap[wr.heap.size]? = some (.cells #[.int .i64 el1, .int .i64 el2, .int .i64 el3, .int .i64 el4, .string ex] 127 (0, 0)) := by rw [hW0]; exact heap_alloc_new wr _
        have hBB : Below wr.heap.size wr W0 := by rw [hW0]; exact (Below.refl _ wr).alloc (Nat.le_refl _) _
        have hO0 := hO.below hBB
        have hB0 := Below.step hB hBB
        have x0 := cell_of_row W0 wr.heap.size 0 _ _ _ hb0
        have x1 := cell_of_row W0 wr.heap.size 1 _ _ _ hb0
        have x2 := cell_of_row W0 wr.heap.size 2 _ _ _ hb0
        have x3 := cell_of_row W0 wr.heap.size 3 _ _ _ hb0
        have x4 := cell_of_row W0 wr.heap.size 4 _ _ _ hb0
        simp at x0 x1 x2 x3 x4
        have HW0 := Lib.hid hW0
        have HO0 := Lib.hid hO0
        have HB0 := Lib.hid hB0
        have HS := Lib.hid hS'
        have K1 := Lib.hid k1
        have K2 := Lib.hid k2
        clear hW0 hO0 hB0 hBB hb0 hO hB hS' k1 k2
        generalize hg : wr.heap.size = g at *
        go_wp2_with fail
        rw [← HW0.out]
        refine (K1.out W0).mono ?_
        rintro e w1 ⟨rfl, hb1⟩
        have x0 := Below.kept hb1 (Nat.le_refl _) x0
        have x1 := Below.kept hb1 (Nat.le_refl _) x1
        have x2 := Below.kept hb1 (Nat.le_refl _) x2
        have x3 := Below.kept hb1 (Nat.le_refl _) x3
        have x4 := Below.kept hb1 (Nat.le_refl _) x4
        have HO1 := Lib.hid (HO0.out.below hb1)
        have HB1 := Lib.hid (Below.step HB0.out hb1)
        go_wp2_with fail
        refine (K2.out w1).mono ?_
        rintro e w2 ⟨rfl, hb2⟩
        have x4 := Below.kept hb2 (Nat.le_refl _) x4
        have HO2 := Lib.hid (HO1.out.below hb2)
        have HB2 := Lib.hid (Below.step HB1.out hb2)
        clear x0 x1 x2 x3 HO0 HB0 HO1 HB1 hb1 hb2
        obtain ⟨W3, hW3⟩ : ∃ x, x = w2.alloc (.cells #[.int .i64 p2, .int .i64 r2] 32) := ⟨_, rfl⟩
        have hb3 : W3.heap[w2.heap.size]? = some (.cells #[.int .i64 p2, .int .i64 r2] 32 (0, 0)) := by rw [hW3]; exact heap_alloc_new w2 _
        have hBB : Below w2.heap.size w2 W3 := by rw [hW3]; exact (Below.refl _ w2).alloc (Nat.le_refl _) _
        have y0 := cell_of_row W3 w2.heap.size 0 _ _ _ hb3
        have y1 := cell_of_row W3 w2.heap.size 1 _ _ _ hb3
        simp at y0 y1
        have x4 := Below.kept hBB (Nat.le_refl _) x4
        have HO3 := Lib.hid (HO2.out.below hBB)
        have HB3 := Lib.hid (Below.step HB2.out hBB)
        have HW3 := Lib.hid hW3
        clear HO2 HB2 hBB hb3 hW3
        generalize hg3 : w2.heap.size = g3 at *
        go_wp2_with fail
        rw [← HW3.out]
        refine (first_any p2 r2 g3 W3 y0 y1).mono ?_
        rintro e w4 ⟨rfl, rfl⟩
        have hS' := HS.out
        by_cases he0 : (if p2 ≠ 0 then p2 else r2) = 0
        · have hp2 : p2 = 0 := by
            rcases Nat.eq_zero_or_pos p2 with h | h
            · exact h
            · rw [if_pos (by omega)] at he0; exact he0
          have hr2 : r2 = 0 := by rw [if_neg (by omega)] at he0; exact he0
          rw [he0]
          subst hp2 hr2
          by_cases hlt2 : r1 < p1
          · have d1 : decide ((r1 : Int) < (p1 : Int)) = true := decide_eq_true (by omega)
            have d1' : decide (r1 < p1) = true := decide_eq_true hlt2
            obtain rfl : ([], 1) = R := by rw [← hS']; simp [hlt2]
            clear hS' HS HR
            go_wp2_with fail
            go_ret2
            exact ⟨_, rfl, OwnRec.nil _ _, HB3.out⟩
          · have d1 : decide ((r1 : Int) < (p1 : Int)) = false := decide_eq_false (by omega)
            have d1' : decide (r1 < p1) = false := decide_eq_false hlt2
            rw [if_pos (by simp [hlt2])] at hS'
            have HS := Lib.hid hS'
            clear hS'
            go_wp2_with (at_builtin; refine wpList_append_src _ rfl _ _ 112 rfl elemBE w.heap.size _ acc.length _ rfl (ownsRow_below HO3.out ((Below.refl _ W3).alloc (Nat.le_refl _) _)) (some ⟨W3.heap.size, 0, none⟩) 1 1 (bedC ⟨p1, r1, ex⟩) rfl (row_new (cs := bedC ⟨p1, r1, ex⟩) (by rfl) (by omega)) (bedO _) (by omega) (by omega) (by have := HB3.out.size; simp; omega) ?_)
            intro v' w5 hown5 hbel5 hgrow5
            go_wp2_with fail
            go_roundw
            case rel =>
              refine ⟨k + 1, acc ++ [⟨p1, r1, ex⟩], by omega, by go_num, by simp; omega, HS, OwnRec.snoc (f := bedC) (x := (⟨p1, r1, ex⟩ : BEd)) (by rw [hal]; exact hown5), (HB3.out.alloc HB3.out.size _).trans hbel5⟩
            case measure => simp [intOf]; omega
        · obtain ⟨q, hq, hq0⟩ : ∃ q : Nat, (if p2 ≠ 0 then p2 else r2) = q ∧ q ≠ 0 := ⟨_, rfl, he0⟩
          have hres : R = ([], q) := by
            rw [← hS', ← hq]
            by_cases h2 : p2 = 0
            · rw [if_neg (by omega)] at he0
              simp [h2, he0]
            · simp [h2]
          subst hres
          have hne : ((q : Int) != 0) = true := by simp; omega
          rw [hq]
          clear hS' HS HR he0 hq
          go_wp2_with fail
          go_ret2
          exact ⟨_, rfl, OwnRec.nil _ _, HB3.out⟩
      · have hS' := hS.out
        rw [List.drop_of_length_le (by omega)] at hS'
        simp only [pbR] at hS'
        subst hS'
        clear hS HR
        go_wp2_with fail
        go_ret2
        exact ⟨_, rfl, hO, hB⟩
theorem elemPE : ElemT Try.prog 68 127 (.agg #[.int .i64 0, .int .i64 0, .int .i64 0, .int .i64 0, .string ⟨#[]⟩]) 5 48 := ⟨Try.underlying68, info_parts (by kernel_rfl), rfl, by decide⟩
theorem bord_pos {l : List UInt8} {k : Nat} (hkm : k ∈ bordL l 0) (hls : l.length ≤ 1000) : ∃ ln un : Nat, atC l k = ((ln, un), 0) ∧ offC l ln un = (k, 0) ∧ ln ≤ 1001 ∧ un ≤ 1001 ∧ k ≤ l.length := by
  have hkl := bord_ge hkm
  have hoff := off_at hkm
  obtain ⟨P, hP⟩ : ∃ P, atC l k = P := ⟨_, rfl⟩
  have he0 : P.2 = 0 := by rw [← hP, atC_border hkm]
  rw [hP] at hoff
  obtain ⟨⟨ln, un⟩, e0⟩ := P
  simp only at hoff he0
  subst he0
  have hun := unitsL_le l
  have hr1 : ln ≤ 1001 ∧ un ≤ 1001 := by
    obtain ⟨h1, h2, h3, h4⟩ := at_off hoff
    rw [atC_border h3] at h4
    simp only [Int.toNat_natCast, Prod.mk.injEq, and_true] at h4
    have h5 := lineIx_lt l k
    have h6 := linesL_len l
    have h7 := unitsL_le ((l.take k).drop ((linesL l).getD (lineIx l k) 0))
    simp only [List.length_drop, List.length_take] at h7
    omega
  exact ⟨ln, un, hP, hoff, hr1.1, hr1.2, by omega⟩
end Go.Proofs.Ytmonpnikdheokaa
