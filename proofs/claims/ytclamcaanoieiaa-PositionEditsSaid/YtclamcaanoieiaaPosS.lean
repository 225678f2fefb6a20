/-
  The walks of the laws PositionBytes and PositionEdits.
-/
import Derived.Test.YtclamcaanoieiaaPosR
namespace Go.Proofs.Ytclamcaanoieiaa
open Go Go.Proofs
open Go.RowKit
set_option linter.unusedVariables false
set_option linter.unusedSimpArgs false

def lenV : Value → Nat
  | .slice _ n _ => n
  | _ => 0
theorem elemPE : ElemT Try.prog 43 45 (.agg #[.int .i64 0, .int .i64 0, .int .i64 0, .int .i64 0, .string ⟨#[]⟩]) 5 48 := ⟨Try.underlying43, info_parts (by kernel_rfl), rfl, by decide⟩

set_option maxRecDepth 100000 in
set_option maxHeartbeats 4000000 in
theorem positionBytes_walk (a : Option Addr) (c : Nat) (xs : List Int) (a2 : Option Addr) (c2 : Nat) (es : List PEd) (long : Bool) (w : World) (hx : SliceAt w a c (xs.map intV)) (hxb : ∀ n ∈ xs, -9223372036854775808 ≤ n ∧ n ≤ 9223372036854775807)
    (he : PEdsAt w a2 c2 es) (hw : ∀ e ∈ es, PEdW e) :
    Calls Try.prog 9 #[.slice a xs.length c, .slice a2 es.length c2, .bool long] w fun e w' => e = .returned (.bool true) ∧ Below w.heap.size w w' := by
  have hts := textB_size xs
  have HTX := Lib.hid (text_b a c xs w hx hxb)
  generalize textB xs = t at *
  obtain ⟨m, hm⟩ : ∃ m : Nat, min (es.length : Int) 5 = (m : Int) := ⟨min es.length 5, by omega⟩
  have hme : m ≤ es.length := by omega
  have hm5 : m ≤ 5 := by omega
  have hmx := he.max
  have hmc := RecAt.le he
  have hmd := RecAt.cap_le he
  have hcase : (m = 5 ∧ 5 < es.length) ∨ (m = es.length ∧ es.length ≤ 5) := by omega
  have hl : (es.take m).length = m := by rw [List.length_take]; omega
  have hRm : Hid (∀ W, Below w.heap.size w W → RowAt W a2 m c2 5 ((es.take m).flatMap pedC)) := by
    intro W hW
    have h := RecAt.take pedZ (RecAt.below he hW) m
    unfold RecAt at h
    rw [hl] at h
    exact h
  have hW : Hid (∀ e ∈ es.take m, PEdW e) := fun e h => hw e (List.mem_of_mem_take h)
  generalize es.take m = X at *
  clear hx hxb he hw hm
  rcases hcase with ⟨rfl, h5⟩ | ⟨rfl, h5⟩
  all_goals
    go_enter Try.func9, Try.ntmps9
    go_wp2_with fail
    refine HTX.out.mono ?_
    rintro e w1 ⟨rfl, hb1⟩
    have HR := Lib.hid (hRm.out w1 hb1)
    go_wp2_with (at_builtin; refine wpList_append_src _ rfl _ _ 43 rfl elemPE w.heap.size _ 0 [] rfl (World.ownsRow_nil _ _ _ _) a2 _ c2 _ rfl HR.out (rec_one pedO _) (by omega) (by omega) hb1.size ?_)
    intro v2 w2 hown2 hbel2 _
    have hO2 : OwnRec pedC 5 45 w2 w.heap.size v2 X := by
      unfold OwnRec
      rw [hl]
      simpa using hown2
    have hB2 : Below w.heap.size w w2 := hb1.trans hbel2
    have hl2 : X.length ≤ 65 := by omega
    have HO2 := Lib.hid hO2
    clear hown2 hbel2 hO2 HR hb1
    go_wp2_with fail
    go_loopw [8] (fun ov wr => ∃ Y : List PEd, OwnRec pedC 5 45 wr w.heap.size ov Y ∧ Y.length ≤ 65 ∧ Hid (∀ e ∈ Y, PEdW e) ∧ Below w.heap.size w wr) (fun ov _ => 65 - lenV ov)
    case atStart => exact ⟨X, HO2.out, hl2, hW, hB2⟩
    case round =>
      obtain ⟨Y, hO, hY, hYW, hB⟩ := hrel
      obtain ⟨ya, yc, rfl, hat⟩ := hO.at
      obtain ⟨n, hn⟩ : ∃ n, Y.length = n := ⟨_, rfl⟩
      rw [hn] at hY ⊢
      by_cases hgo : long = true ∧ 0 < n ∧ n < 65
      · obtain ⟨rfl, hn0, hn65⟩ := hgo
        have d1 : decide ((0 : Int) < (n : Int)) = true := decide_eq_true (by omega)
        have d1' : decide (0 < n) = true := decide_eq_true hn0
        have d2 : decide ((n : Int) < 65) = true := decide_eq_true (by omega)
        obtain ⟨b, off, rfl⟩ := RecAt.addr pedZ (by decide) hat (by omega)
        obtain ⟨e, hek⟩ : ∃ e, Y[0]? = some e := ⟨Y[0], List.getElem?_eq_getElem (by omega)⟩
        obtain ⟨f0, f1, f2, f3, f4⟩ := PEds.cells hat hek
        simp only [Nat.zero_mul, Nat.add_zero] at f0 f1 f2 f3 f4
        have heW := hYW.out e (List.mem_of_getElem? hek)
        obtain ⟨e1, e2, e3, e4, ex⟩ := e
        simp only at f0 f1 f2 f3 f4
        have hown : ∀ ob, (wr.alloc ob).ownsRow w.heap.size 45 5 (.slice (some ⟨b, off, none⟩) n yc) n (Y.flatMap pedC) := by
          intro ob
          have h := ownsRow_below hO ((Below.refl _ wr).alloc (Nat.le_refl _) ob)
          rw [hn] at h
          exact h
        have HO := Lib.hid hown
        have HEW := Lib.hid heW
        have hsz := hB.size
        clear hO hat hek heW hown
        go_wp2_with (at_builtin; refine wpList_append_src _ rfl _ _ 43 rfl elemPE w.heap.size _ n _ rfl (HO.out _) (some ⟨wr.heap.size, 0, none⟩) 1 1 (pedC ⟨e1, e2, e3, e4, ex⟩) rfl (row_new (cs := pedC ⟨e1, e2, e3, e4, ex⟩) (by rfl) (by omega)) (pedO _) (by omega) (by omega) (by simp; omega) ?_)
        intro v' w5 hown5 hbel5 _
        have hO5 : OwnRec pedC 5 45 w5 w.heap.size v' (Y ++ [⟨e1, e2, e3, e4, ex⟩]) := OwnRec.snoc (f := pedC) (x := (⟨e1, e2, e3, e4, ex⟩ : PEd)) (by rw [hn]; exact hown5)
        obtain ⟨a5, c5, rfl, _⟩ := hO5.at
        go_wp2_with fail
        go_roundw
        case rel =>
          refine ⟨Y ++ [⟨e1, e2, e3, e4, ex⟩], hO5, by simp; omega, fun e he => ?_, (hB.alloc hB.size _).trans hbel5⟩
          rcases List.mem_append.1 he with h | h
          · exact hYW.out e h
          · simp only [List.mem_singleton] at h
            subst h
            exact HEW.out
        case measure => simp [lenV]; omega
      · have hcase : long = false ∨ (long = true ∧ decide ((0 : Int) < (n : Int)) = false ∧ decide (0 < n) = false) ∨ (long = true ∧ decide ((0 : Int) < (n : Int)) = true ∧ decide (0 < n) = true ∧ decide ((n : Int) < 65) = false) := by
          cases long with
          | false => exact .inl rfl
          | true =>
            by_cases h0 : 0 < n
            · exact .inr (.inr ⟨rfl, decide_eq_true (by omega), decide_eq_true h0, decide_eq_false (by have : ¬ n < 65 := fun h => hgo ⟨rfl, h0, h⟩; omega)⟩)
            · exact .inr (.inl ⟨rfl, decide_eq_false (by omega), decide_eq_false h0⟩)
        have hYm := hat.max
        have HO := Lib.hid hO
        have hsz := hB.size
        have hrow : RowAt wr ya n yc 5 (Y.flatMap pedC) := by have h := hat; unfold RecAt at h; rw [hn] at h; exact h
        have HR := Lib.hid hrow
        have hyc := RecAt.cap_le hat
        have hyl := RecAt.le hat
        clear hgo hO hat hrow
        rcases hcase with rfl | ⟨rfl, d1, d1'⟩ | ⟨rfl, d1, d1', d2⟩
        all_goals
          go_wp2_with (at_builtin; refine wpList_append_src _ rfl _ _ 43 rfl elemPE wr.heap.size _ 0 [] rfl (World.ownsRow_nil _ _ _ _) ya n yc _ rfl HR.out (rec_one pedO _) (by omega) (by omega) (Nat.le_refl _) ?_)
          intro v6 w6 hown6 hbel6 _
          have hO6 : OwnRec pedC 5 45 w6 wr.heap.size v6 Y := by
            unfold OwnRec
            rw [hn]
            simpa using hown6
          obtain ⟨a6, c6, rfl, hat6⟩ := hO6.at
          rw [hn]
          have hat5 : PEdsAt w6 ya yc Y := RecAt.below (show RecAt pedC 5 wr ya yc Y by unfold RecAt; rw [hn]; exact HR.out) hbel6
          have hB6 := Below.step hB hbel6
          have K1 := Lib.hid (pbytes_any t ya yc Y w6 (by omega) hat5 hYW.out)
          have K2 := Lib.hid fun W (hW : Below w6.heap.size w6 W) => rbytes_any t a6 c6 Y W (by omega) (hat6.below hW) hYW.out
          rw [hn] at K1 K2
          have hpl := pbX_len t.data.toList Y
          generalize pbX t.data.toList Y = R at *
          obtain ⟨R1, R2⟩ := R
          simp only at K1 K2 hpl
          have H5 := Lib.hid hat5
          have H6 := Lib.hid hat6
          have hc6 := RecAt.cap_le hat6
          have hl6 := RecAt.le hat6
          clear hown6 hO6 hat5 hat6 hbel6
          go_wp2_with fail
          refine K1.out.mono ?_
          rintro e w7 ⟨v7, rfl, hO7, hb7⟩
          obtain ⟨a7, c7, rfl, hat7⟩ := hO7.at
          have H7 := Lib.hid hat7
          clear hO7 hat7
          go_wp2_with fail
          refine (K2.out w7 hb7).mono ?_
          rintro e w8 ⟨v8, rfl, hO8, hb8⟩
          obtain ⟨a8, c8, rfl, hat8⟩ := hO8.at
          have H8 := Lib.hid hat8
          have H7 := Lib.hid (H7.out.below hb8)
          have H5 := Lib.hid (H5.out.below (Below.step hb7 hb8))
          have H6 := Lib.hid (H6.out.below (Below.step hb7 hb8))
          have hB8 := Below.step (Below.step hB6 hb7) hb8
          clear hO8 hat8 hb7 hb8 K1 K2
          have dr : ((R2 : Int) == (R2 : Int)) = true := by simp
          go_wp2_with fail
          go_loopw [14] (fun iv wx => ∃ (k : Nat), k ≤ n ∧ iv = .int .i64 k ∧ Below w8.heap.size w8 wx) (fun iv _ => n - (intOf iv).toNat)
          case atStart => exact ⟨0, by omega, rfl, Below.refl _ _⟩
          case round =>
            rename_i wx _ _ _
            obtain ⟨k, hk, rfl, hBx⟩ := hrel
            by_cases hlt : k < n
            · obtain ⟨b5, off5, rfl⟩ := RecAt.addr pedZ (by decide) H5.out (by omega)
              obtain ⟨b6, off6, rfl⟩ := RecAt.addr pedZ (by decide) H6.out (by omega)
              obtain ⟨e, hek⟩ : ∃ e, Y[k]? = some e := ⟨Y[k], List.getElem?_eq_getElem (by omega)⟩
              obtain ⟨f0, f1, f2, f3, f4⟩ := PEds.cells (H5.out.below hBx) hek
              obtain ⟨g0, g1, g2, g3, g4⟩ := PEds.cells (H6.out.below hBx) hek
              obtain ⟨e1, e2, e3, e4, ex⟩ := e
              simp only at f0 f1 f2 f3 f4 g0 g1 g2 g3 g4
              clear hek
              go_wp2_with fail
              go_quiet (fail)
              go_wp2_with fail
              go_roundw
              case rel => exact ⟨k + 1, by omega, by go_num, hBx.trans (Below.drewN _)⟩
              case measure => simp [intOf]; omega
            · go_wp2_with fail
              refine (sameEdits_any a7 a8 c7 c8 R1 _ (H7.out.below hBx) (H8.out.below hBx)).mono ?_
              rintro e w9 ⟨rfl, hb9⟩
              go_wp2_with fail
              refine (lives_any w9).mono ?_
              rintro e w10 ⟨rfl, hb10⟩
              go_wp2_with fail
              go_ret
              exact ⟨rfl, Below.step (Below.step (Below.step hB8 hBx) hb9) hb10⟩
end Go.Proofs.Ytclamcaanoieiaa
