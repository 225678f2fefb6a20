/-
  Slices of edits; contracts of edit.sound and of the reference's Valid.
-/
import Derived.Test.YtmonpnikdheokaaRefA
import Derived.Test.YtmonpnikdheokaaEdM
namespace Go.Proofs.Ytmonpnikdheokaa
open Go Go.Proofs
open Go.RowKit
set_option linter.unusedVariables false
set_option linter.unusedSimpArgs false

def strB (l : List UInt8) : ByteArray := ⟨l.toArray⟩
theorem strB_list (l : List UInt8) : (strB l).data.toList = l := by unfold strB; simp
theorem strB_size (l : List UInt8) : (strB l).size = l.length := rfl
def edC (e : Ed) : List Value := [.int .i64 e.f, .int .i64 e.t, .string (strB e.x)]
def edCs (es : List Ed) : List Value := es.flatMap edC
theorem edCs_len (es : List Ed) : (edCs es).length = es.length * 3 := by
  induction es with
  | nil => rfl
  | cons e es ih => simp only [edCs, List.flatMap_cons, List.length_append, List.length_cons] at ih ⊢; rw [ih]; simp [edC]; omega
theorem edCs_get : ∀ {es : List Ed} {k : Nat} {e : Ed}, es[k]? = some e → (edCs es)[k * 3]? = some (.int .i64 e.f) ∧ (edCs es)[k * 3 + 1]? = some (.int .i64 e.t) ∧ (edCs es)[k * 3 + 2]? = some (.string (strB e.x))
  | [], k, e, h => by simp at h
  | x :: es, 0, e, h => by simp at h; subst h; exact ⟨rfl, rfl, rfl⟩
  | x :: es, k + 1, e, h => by
    have := edCs_get (es := es) (k := k) (by simpa using h)
    have e1 : edCs (x :: es) = .int .i64 x.f :: .int .i64 x.t :: .string (strB x.x) :: edCs es := rfl
    rw [e1, show (k + 1) * 3 = k * 3 + 3 by omega]
    exact this
theorem edCs_one (es : List Ed) : ∀ u ∈ edCs es, u.oneCell' = true := by
  intro u hu
  unfold edCs at hu
  rw [List.mem_flatMap] at hu
  obtain ⟨e, _, hu⟩ := hu
  simp only [edC, List.mem_cons, List.not_mem_nil, or_false] at hu
  rcases hu with rfl | rfl | rfl <;> rfl
theorem edCs_app (a b : List Ed) : edCs (a ++ b) = edCs a ++ edCs b := by simp [edCs]
def EdsAt (w : World) (a : Option Addr) (cap : Nat) (es : List Ed) : Prop := RowAt w a es.length cap 3 (edCs es)
section
variable {w w' : World} {a : Option Addr} {cap : Nat} {es : List Ed}
theorem EdsAt.below (h : EdsAt w a cap es) (hb : Below w.heap.size w w') : EdsAt w' a cap es := RowAt.below h hb
theorem EdsAt.max (h : EdsAt w a cap es) : es.length ≤ 9223372036854775807 := Nat.le_trans h.2.1 h.2.2.1
theorem EdsAt.le (h : EdsAt w a cap es) : es.length ≤ cap := h.2.1
theorem EdsAt.addr (h : EdsAt w a cap es) (hp : 0 < es.length) : ∃ b off, a = some ⟨b, off, none⟩ := by
  obtain ⟨b, off, ha, _⟩ := h.2.2.2.2 (by rw [edCs_len]; omega)
  exact ⟨b, off, ha⟩
theorem EdsAt.cells {b off : Nat} (h : EdsAt w (some ⟨b, off, none⟩) cap es) {k : Nat} {e : Ed} (hk : es[k]? = some e) :
    w.cell? ⟨b, off + k * 3, none⟩ = some (.int .i64 e.f) ∧ w.cell? ⟨b, off + k * 3 + 1, none⟩ = some (.int .i64 e.t) ∧ w.cell? ⟨b, off + k * 3 + 2, none⟩ = some (.string (strB e.x)) := by
  have hlt := (List.getElem?_eq_some_iff.1 hk).1
  obtain ⟨b', off', ha, hc⟩ := h.2.2.2.2 (by rw [edCs_len]; omega)
  simp only [Option.some.injEq, Addr.mk.injEq, and_true] at ha
  obtain ⟨rfl, rfl⟩ := ha
  obtain ⟨h1, h2, h3⟩ := edCs_get hk
  exact ⟨hc _ _ h1, by rw [Nat.add_assoc]; exact hc _ _ h2, by rw [Nat.add_assoc]; exact hc _ _ h3⟩
theorem EdsAt.nil (w : World) : EdsAt w none 0 [] := ⟨rfl, Nat.le_refl _, by decide, fun _ => rfl, fun h => by simp [edCs] at h⟩
end
def EdB (e : Ed) : Prop := -9223372036854775808 ≤ e.f ∧ e.f ≤ 9223372036854775807 ∧ -9223372036854775808 ≤ e.t ∧ e.t ≤ 9223372036854775807

set_option maxHeartbeats 1000000 in
theorem sound_any (a : Option Addr) (c : Nat) (es : List Ed) (size : Int) (w : World) (hx : EdsAt w a c es) :
    Calls Try.prog 115 #[.slice a es.length c, .int .i64 size] w fun e w' => e = .returned (.int .i64 (validL size es)) ∧ Below w.heap.size w w' := by
  have hm := hx.max
  by_cases h64 : 64 < es.length
  · have hv : validL size es = 4 := by unfold validL; rw [if_pos h64]
    have HV := Lib.hid hv
    clear hv
    go_enter Try.func115, Try.ntmps115
    go_wp2
    go_ret
    exact ⟨ret_int HV.out.symm, Below.refl _ _⟩
  · have hv : validL size es = soundL size 0 es := by unfold validL; rw [if_neg h64]
    rw [hv]
    clear hv
    generalize hR : soundL size 0 es = R
    have HR := Lib.hid hR
    clear hR
    go_enter Try.func115, Try.ntmps115
    go_wp2
    go_loopw [5, 13] (fun lv iv wr => ∃ (k : Nat) (last : Int), k ≤ es.length ∧ iv = .int .i64 k ∧ lv = .int .i64 last ∧ Hid (soundL size last (es.drop k) = R) ∧ Below w.heap.size w wr) (fun _ iv _ => es.length - (intOf iv).toNat)
    case atStart => exact ⟨0, 0, by omega, rfl, rfl, HR.out, Below.refl _ _⟩
    case round =>
      obtain ⟨k, last, hk, rfl, rfl, hS, hB⟩ := hrel
      by_cases hlt : k < es.length
      · obtain ⟨b, off, rfl⟩ := hx.addr (by omega)
        obtain ⟨e, he⟩ : ∃ e, es[k]? = some e := ⟨es[k], List.getElem?_eq_getElem hlt⟩
        obtain ⟨f0, f1, f2⟩ := (hx.below hB).cells he
        have hd : es.drop k = e :: es.drop (k + 1) := by
          rw [List.getElem?_eq_getElem hlt, Option.some.injEq] at he
          rw [List.drop_eq_getElem_cons hlt, he]
        have hS' := hS.out
        rw [hd] at hS'
        unfold soundL at hS'
        have HS := Lib.hid hS'
        clear hS hS' hd he
        by_cases c1 : e.f < 0 ∨ e.t < e.f ∨ size < e.t
        · have hr : R = 5 := by rw [← HS.out, if_pos c1]
          subst hr
          have hc : decide (e.f < 0) = true ∨ decide (e.f < 0) = false ∧ decide (e.t < e.f) = true ∨ decide (e.f < 0) = false ∧ decide (e.t < e.f) = false ∧ decide (size < e.t) = true := by
            simp only [decide_eq_true_eq, decide_eq_false_iff_not]; omega
          clear c1 HS
          rcases hc with d1 | ⟨d1, d2⟩ | ⟨d1, d2, d3⟩
          all_goals
            go_wp2
            go_ret
            exact ⟨rfl, hB.trans ((Below.refl _ _).alloc hB.size _)⟩
        · have d1 : decide (e.f < 0) = false := by simp; omega
          have d2 : decide (e.t < e.f) = false := by simp; omega
          have d3 : decide (size < e.t) = false := by simp; omega
          have hS2 := HS.out
          rw [if_neg c1] at hS2
          clear HS c1
          by_cases c4 : e.f < last
          · rw [if_pos c4] at hS2
            subst hS2
            have d4 : decide (e.f < last) = true := by simpa using c4
            clear c4
            go_wp2
            go_ret
            exact ⟨rfl, hB.trans ((Below.refl _ _).alloc hB.size _)⟩
          · rw [if_neg c4] at hS2
            have HS := Lib.hid hS2
            have d4 : decide (e.f < last) = false := by simpa using c4
            clear c4 hS2
            go_wp2
            go_roundw
            case rel => exact ⟨k + 1, e.t, by omega, by go_num, rfl, HS.out, hB.trans ((Below.refl _ _).alloc hB.size _)⟩
            case measure => simp [intOf]; omega
      · have hS' := hS.out
        rw [List.drop_of_length_le (by omega)] at hS'
        have hr : R = 0 := hS'.symm
        subst hr
        clear hS hS'
        go_wp2
        go_ret
        exact ⟨rfl, hB⟩
end Go.Proofs.Ytmonpnikdheokaa
