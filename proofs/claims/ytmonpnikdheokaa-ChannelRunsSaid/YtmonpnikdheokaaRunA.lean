/-
  The end of the reference in memory: New, Send, find.
-/
import Derived.Test.YtmonpnikdheokaaChanF
import Derived.Test.YtmonpnikdheokaaRec
namespace Go.Proofs.Ytmonpnikdheokaa
open Go Go.Proofs
open Go.RowKit
set_option linter.unusedVariables false
set_option linter.unusedSimpArgs false

/-- A held message's cells. -/
def hfc (p : Int × Value) : List Value := [.int .i64 p.1, p.2]
theorem hfc_len (p : Int × Value) : (hfc p).length = 2 := rfl
/-- The end of the reference: object i, its struct in block b: the state of an end, and all messages that were sent. -/
def MdAt (w : World) (o : Nat → Nat) (i b : Nat) (E : EndS) (S : List (List UInt8)) : Prop :=
  ∃ sv vs hv es lh, (10 * i + 2 ≤ lh ∧ lh ≤ 10 * i + 3) ∧ Blk w o (10 * i) b [.int .i64 E.window, sv, .int .i64 E.acked, .int .i64 E.got, hv, .bool E.owing] ∧
    RowL w o (10 * i + 1) 31 1 sv vs.length vs ∧ Msgs w o vs S ∧ RecL hfc 2 108 w o lh hv es ∧ HeldAt w o es E.held
theorem MdAt.step {L : Nat → Prop} {w w' : World} {o o' : Nat → Nat} {i b : Nat} {E : EndS} {S : List (List UInt8)} (h : MdAt w o i b E S) (hs : Step L w o w' o') (h0 : ¬ L 0) (hi : ∀ l, Own i l → ¬ L l) : MdAt w' o' i b E S := by
  obtain ⟨sv, vs, hv, es, lh, hlh, h1, h2, h3, h5, h6⟩ := h
  exact ⟨sv, vs, hv, es, lh, hlh, h1.step hs (hi _ (Own.at0 i)), h2.step hs (hi _ (Own.at1 i)), h3.step hs h0, h5.step hs (hi _ (by unfold Own; omega)), h6.step hs h0⟩
theorem MdAt.cong {w : World} {o : Nat → Nat} {i b : Nat} {E E' : EndS} {S : List (List UInt8)} (h : MdAt w o i b E S) (e1 : E'.window = E.window) (e2 : E'.acked = E.acked) (e3 : E'.got = E.got) (e4 : E'.held = E.held) (e5 : E'.owing = E.owing) : MdAt w o i b E' S := by
  unfold MdAt
  rw [e1, e2, e3, e4, e5]
  exact h
/-- What the reference's end counts and the end keeps. -/
structure MdOk (E : EndS) (S : List (List UInt8)) : Prop where
  wait : E.waiting = S.drop E.acked
  le : E.acked ≤ S.length
  len : S.length ≤ 1000000
theorem MdOk.num {E : EndS} {S : List (List UInt8)} (h : MdOk E S) : E.waiting.length = S.length - E.acked := by rw [h.wait, List.length_drop]
def sendM (E : EndS) (S : List (List UInt8)) (m : List UInt8) : List (List UInt8) := if 65536 < m.length ∨ 1000 ≤ E.waiting.length then S else S ++ [m]

theorem rnew_any (n i : Nat) (w : World) (o : Nat → Nat) (h1 : 1 ≤ n) (h2 : n ≤ 16) (hi : 1 ≤ i) :
    Calls Try.prog 12 #[.int .i64 n] w fun e w' => ∃ b, e = .returned (.tuple #[.pointer (some ⟨b, 0, none⟩), .bool true]) ∧ ∃ o', Step (Own i) w o w' o' ∧ MdAt w' o' i b (newE n) [] := by
  have h1' : (1 : Int) ≤ n := by omega
  have h2' : (n : Int) ≤ 16 := by omega
  go_enter Try.func12, Try.ntmps12
  go_wp2_with fail
  go_ret2
  refine ⟨_, rfl, newLab w o (10 * i), Step.below ((Below.refl _ w).alloc (Nat.le_refl _) _) fun k hk => newLab_old _ _ _ hk, .slice none 0 0, [], .slice none 0 0, [], 10 * i + 2, by omega, ⟨_, heap_alloc_new _ _, newLab_new _ _ _ (Nat.le_refl _)⟩, RowL.nil _ _ _ _ _, Msgs.nil _ _, RecL.nil _ _ _, .nil⟩

theorem findIdx_none {α : Type} {es : List (Int × α)} {j : Int} (h : ∀ k, k < es.length → ∀ p, es[k]? = some p → p.1 ≠ j) : es.findIdx? (fun p => p.1 == j) = none := by
  rw [List.findIdx?_eq_none_iff]
  intro p hp
  obtain ⟨k, hk, rfl⟩ := List.getElem_of_mem hp
  simpa using h k hk _ (List.getElem?_eq_getElem hk)
theorem findIdx_some {α : Type} {es : List (Int × α)} {j : Int} {n : Nat} {p : Int × α} (hn : es[n]? = some p) (hp : p.1 = j) (h : ∀ k, k < n → ∀ p, es[k]? = some p → p.1 ≠ j) : es.findIdx? (fun p => p.1 == j) = some n := by
  obtain ⟨hl, he⟩ := List.getElem?_eq_some_iff.1 hn
  rw [List.findIdx?_eq_some_iff_getElem]
  refine ⟨hl, by rw [he]; simpa using hp, fun k hk => ?_⟩
  simpa using h k hk _ (List.getElem?_eq_getElem (by omega))
def optI (r : Option Nat) : Int := match r with | some n => (n : Int) | none => -1

set_option maxRecDepth 100000 in
set_option maxHeartbeats 2000000 in
theorem find_any (b c : Nat) (a : Option Addr) (es : List (Int × Value)) (j : Int) (w : World) (hc : w.cell? ⟨b, 4, none⟩ = some (.slice a es.length c)) (hr : RecAt hfc 2 w a c es) :
    Calls Try.prog 56 #[.pointer (some ⟨b, 0, none⟩), .int .i64 j] w fun e w' => e = .returned (.int .i64 (optI (es.findIdx? (fun p => p.1 == j)))) ∧ w = w' := by
  have hmx := hr.max
  have hle := hr.le
  have hcm := hr.cap_le
  obtain ⟨n, hn⟩ : ∃ n, es.length = n := ⟨_, rfl⟩
  rw [hn] at hc hmx hle
  have HN := Lib.hid hn
  have HR := Lib.hid hr
  have HC := Lib.hid hc
  clear hn hr
  go_enter Try.func56, Try.ntmps56
  go_wp2_with fail
  go_loopw [5] (fun iv wr => ∃ k : Nat, k ≤ n ∧ iv = .int .i64 k ∧ wr = w ∧ Hid (∀ k', k' < k → ∀ p, es[k']? = some p → p.1 ≠ j)) (fun iv _ => n - (intOf iv).toNat)
  case atStart => first | exact ⟨0, by omega, rfl, trivial, fun k' h => by omega⟩ | exact ⟨0, by omega, rfl, rfl, fun k' h => by omega⟩
  case round =>
    obtain ⟨k, hk, rfl, rfl, HP⟩ := hrel
    by_cases hkn : k < n
    · obtain ⟨p, hp⟩ : ∃ p, es[k]? = some p := ⟨es[k]'(by rw [HN.out]; exact hkn), List.getElem?_eq_getElem _⟩
      obtain ⟨bb, off, rfl⟩ := HR.out.addr hfc_len (by omega) (by rw [HN.out]; omega)
      have c0 := HR.out.cell0 hfc_len hp rfl
      have hp' := Lib.hid hp
      clear hp
      obtain ⟨pk, pv⟩ := p
      simp only at c0
      by_cases he : pk = j
      · have e1 : (pk == j) = true := by simpa using he
        go_wp2_with fail
        go_ret
        rw [findIdx_some hp'.out he HP.out]
        exact ⟨rfl, rfl⟩
      · have e1 : (pk == j) = false := beq_eq_false_iff_ne.2 he
        have HP2 : Hid (∀ k', k' < k + 1 → ∀ p, es[k']? = some p → p.1 ≠ j) := by
          intro k' hk' p hp
          by_cases h : k' = k
          · subst h
            rw [hp'.out] at hp
            cases hp
            exact he
          · exact HP.out k' (by omega) p hp
        go_wp2_with fail
        go_roundw
        case rel => first | exact ⟨k + 1, by omega, by go_num, trivial, HP2.out⟩ | exact ⟨k + 1, by omega, by go_num, rfl, HP2.out⟩
        case measure => simp [intOf]; omega
    · obtain rfl : k = n := by omega
      go_wp2_with fail
      go_ret
      rw [findIdx_none (by rw [HN.out]; exact HP.out)]
      exact ⟨rfl, rfl⟩

set_option maxRecDepth 100000 in
set_option maxHeartbeats 2000000 in
theorem rsend_any (i b : Nat) (E : EndS) (S : List (List UInt8)) (a : Option Addr) (c : Nat) (m : List UInt8) (w : World) (o : Nat → Nat) (hi : 1 ≤ i) (hE : MdAt w o i b E S) (hO : MdOk E S) (hm : Dat w o 0 a c (m.map byteV)) :
    Calls Try.prog 15 #[.pointer (some ⟨b, 0, none⟩), .slice a m.length c] w fun e w' => e = .returned (.int .i64 (sendErr E m)) ∧ ∃ o', Step (Own i) w o w' o' ∧ MdAt w' o' i b (sendE E m) (sendM E S m) := by
  have hE0 := hE
  obtain ⟨sv, vs, hv, es, lh, hlh, h1, h2, h3, h5, h6⟩ := hE
  obtain ⟨sa, sc, rfl, _, hs⟩ := ownsRow_slice h2.1
  have c1 := h1.cell (j := 1) rfl
  have c2 := h1.cell (j := 2) rfl
  have f1 := h1.frozen 1
  have hl := h3.1
  have hnum := hO.num
  have hle := hO.le
  have hlen := hO.len
  have hml := hm.1.len
  simp only [List.length_map] at hml
  obtain ⟨n, hn⟩ : ∃ n, m.length = n := ⟨_, rfl⟩
  obtain ⟨N, hN⟩ : ∃ n, vs.length = n := ⟨_, rfl⟩
  obtain ⟨A, hA⟩ : ∃ n, E.acked = n := ⟨_, rfl⟩
  rw [hN] at c1 hl h2
  rw [hA] at c2 hnum hle
  rw [← hl] at hnum hle hlen
  rw [hn] at hml ⊢
  have H1 := Lib.hid h1
  have H2 := Lib.hid h2
  have H3 := Lib.hid h3
  have H5 := Lib.hid h5
  have H6 := Lib.hid h6
  have HM := Lib.hid hm
  have HE0 := Lib.hid hE0
  have HN := Lib.hid hn
  have HV := Lib.hid hN
  have HA := Lib.hid hA
  have HNUM := Lib.hid hnum
  clear h1 h2 h3 h5 h6 hs hm hE0 hn hN hA hnum hl
  have c1d : w.drew.cell? ⟨b, 1, none⟩ = some (.slice sa N sc) := c1
  have c2d : w.drew.cell? ⟨b, 2, none⟩ = some (.int .i64 A) := c2
  have HD := Lib.hid fun nq => MdAt.step HE0.out (Step.same (L := fun _ => False) (Below.drewN nq)) (fun h => h) (fun _ _ h => h)
  have hwr : IntKind.i64.wrap ((N : Int) - (A : Int)) = (N : Int) - (A : Int) := by simp [IntKind.wrap, IntKind.bits, IntKind.signed]; omega
  by_cases ha : 65536 < n
  · have ha' : (65536 : Int) < n := by omega
    go_enter Try.func15, Try.ntmps15
    go_wp2_with fail
    go_quiet (fail)
    go_wp2_with fail
    go_ret
    rw [show sendErr E m = 4 from if_pos (.inl (by rw [HN.out]; exact ha)), show sendE E m = E from if_pos (.inl (by rw [HN.out]; exact ha)), show sendM E S m = S from if_pos (.inl (by rw [HN.out]; exact ha))]
    exact ⟨rfl, o, Step.same (Below.drewN _), HD.out _⟩
  · have ha' : ¬ (65536 : Int) < n := by omega
    by_cases hn : 1000 ≤ E.waiting.length
    · have hn' : (1000 : Int) ≤ (N : Int) - (A : Int) := by have := HNUM.out; omega
      go_enter Try.func15, Try.ntmps15
      go_wp2_with fail
      go_quiet (fail)
      go_wp2_with fail
      go_ret
      rw [show sendErr E m = 4 from if_pos (.inr hn), show sendE E m = E from if_pos (.inr hn), show sendM E S m = S from if_pos (.inr hn)]
      exact ⟨rfl, o, Step.same (Below.drewN _), HD.out _⟩
    · have hn' : ¬ (1000 : Int) ≤ (N : Int) - (A : Int) := by have := HNUM.out; omega
      go_enter Try.func15, Try.ntmps15
      go_wp2_with fail
      go_quiet (fail)
      obtain ⟨w1, hw1⟩ : ∃ x, x = w.drewN nq := ⟨_, rfl⟩
      have hs1 : Step (fun _ => False) w o w1 o := by rw [hw1]; exact Step.same (Below.drewN _)
      have H11 := Lib.hid (H1.out.step hs1 fun h => h)
      have H21 := Lib.hid (H2.out.step hs1 fun h => h)
      have H31 := Lib.hid (H3.out.step hs1 fun h => h)
      have H51 := Lib.hid (RecL.step H5.out hs1 fun h => h)
      have H61 := Lib.hid (H6.out.step hs1 fun h => h)
      have HM1 := Lib.hid (HM.out.step hs1 fun h => h)
      have HS1 := Lib.hid hs1
      rw [← hw1]
      have c11 : w1.cell? ⟨b, 1, none⟩ = some (.slice sa N sc) := by rw [hw1]; exact c1
      have f11 := H11.out.frozen 1
      clear hs1 hw1 c1d c2d c1 c2 f1 HD H1 H2 H3 H5 H6 HM HE0
      go_wp2_with (at_builtin; refine wpList_append_row (w₀ := w1) (o := o) (l := 10 * i + 1) (by rfl) (.tmp 25) (.tmp 27) 42 (by rfl) elemM (by rfl) H21.out ((Below.refl _ w1).alloc (Nat.le_refl _) _) (some ⟨w1.heap.size, 0, none⟩) 1 1 [.slice a n c] (by rfl) (row_new (cs := [.slice a n c]) (by simp) (by omega)) (by simp [Value.oneCell']) (by omega) (by omega) ?_)
      intro v2 w2 hrow2 hs2
      obtain ⟨a2, c2, rfl⟩ := hrow2.form
      have H12 := H11.out.step hs2 (by omega)
      have k2 := H12.cell (j := 1) rfl
      have k3 := H12.frozen 1
      have H12' := Lib.hid H12
      have HR2 := Lib.hid hrow2
      have HS2 := Lib.hid hs2
      clear H12 hrow2 hs2 c11 f11
      go_wp2_with fail
      go_ret
      rw [show sendErr E m = 0 from if_neg (by rw [HN.out]; omega), show sendE E m = { E with waiting := E.waiting ++ [m] } from if_neg (by rw [HN.out]; omega), show sendM E S m = S ++ [m] from if_neg (by rw [HN.out]; omega)]
      have hs3 : Step (· = 10 * i) w2 (newLab w1 o (10 * i + 1)) (w2.setCell ⟨b, 1, none⟩ (.slice a2 (N + 1) c2)) (newLab w1 o (10 * i + 1)) := (Step.refl _ _ _).set (p := ⟨b, 1, none⟩) H12'.out.lab _
      have hS : Step (Own i) w1 o (w2.setCell ⟨b, 1, none⟩ (.slice a2 (N + 1) c2)) (newLab w1 o (10 * i + 1)) := (HS2.out.mono fun l hl => by subst hl; exact Own.at1 i).trans (hs3.mono fun l hl => by subst hl; exact Own.at0 i)
      refine ⟨rfl, _, (HS1.out.mono fun _ h => h.elim).trans hS, .slice a2 (N + 1) c2, vs ++ [.slice a n c], hv, es, lh, hlh, ?_, ?_, ?_, ?_, ?_⟩
      · have := H12'.out.set 1 (.slice a2 (N + 1) c2)
        exact this
      · have := HR2.out.step hs3 (by omega)
        rw [show (vs ++ [Value.slice a n c]).length = N + 1 from by rw [List.length_append, HV.out]; rfl]
        exact this
      · exact (H31.out.step hS (Own.not0 hi)).snoc ⟨a, c, by rw [HN.out], HM1.out.step hS (Own.not0 hi)⟩
      · exact RecL.step (RecL.step H51.out HS2.out (by omega)) hs3 (by omega)
      · exact H61.out.step hS (Own.not0 hi)
end Go.Proofs.Ytmonpnikdheokaa
