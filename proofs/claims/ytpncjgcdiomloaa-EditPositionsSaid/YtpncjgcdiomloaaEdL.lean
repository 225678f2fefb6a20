/-
  Contract: the generator Raw of valid edits.
-/
import Derived.Test.YtpncjgcdiomloaaEdJ
namespace Go.Proofs.Ytpncjgcdiomloaa
open Go Go.Proofs
open Go.RowKit
set_option linter.unusedVariables false
set_option linter.unusedSimpArgs false

theorem pick_b (a : Option Addr) (c : Nat) (xs : List Int) (i : Int) (m : Int) (w : World) (hx : SliceAt w a c (xs.map intV)) (hb : ∀ n ∈ xs, -9223372036854775808 ≤ n ∧ n ≤ 9223372036854775807) (h1 : 1 ≤ m) (h2 : m ≤ 9223372036854775807) (hi : 0 ≤ i) (hi2 : i ≤ 1000000) :
    Calls Try.prog 58 #[.slice a xs.length c, .int .i64 i, .int .i64 m] w fun e w' => ∃ z : Nat, (z : Int) < m ∧ e = .returned (.int .i64 z) ∧ w = w' := by
  obtain ⟨j, rfl⟩ : ∃ j : Nat, i = j := ⟨i.toNat, by omega⟩
  refine (pick_any a c xs j m w hx hb h1 h2 (by omega)).mono ?_
  rintro e w' ⟨rfl, rfl⟩
  by_cases hlt : j < xs.length
  · have h3 := aroundI_lo xs[j] m h1
    have h4 := aroundI_hi xs[j] m h1
    rw [dif_pos hlt]
    exact ⟨(aroundI xs[j] m).toNat, by omega, ret_int (by omega), rfl⟩
  · rw [dif_neg hlt]
    exact ⟨0, by omega, rfl, rfl⟩
/-- What the generator gives: at most five valid edits with short texts. -/
def GenEd (n : Nat) (es : List Ed) : Prop := Snd n 0 es ∧ es.length ≤ 5 ∧ ∀ e ∈ es, e.x.length ≤ 7
def GenAt (n p : Nat) (es : List Ed) : Prop := (∀ rest, Snd n p rest → Snd n 0 (es ++ rest)) ∧ ∀ e ∈ es, e.x.length ≤ 7
theorem GenAt.snoc {n p f t : Nat} {es : List Ed} {x : List UInt8} (h : GenAt n p es) (h1 : p ≤ f) (h2 : f ≤ t) (h3 : t ≤ n) (hx : x.length ≤ 7) : GenAt n t (es ++ [⟨f, t, x⟩]) := by
  refine ⟨fun rest hr => ?_, fun e he => ?_⟩
  · rw [List.append_assoc]
    exact h.1 _ ⟨by show (p : Int) ≤ f; omega, by show (f : Int) ≤ t; omega, by show (t : Int) ≤ n; omega, hr⟩
  · rcases List.mem_append.1 he with he | he
    · exact h.2 e he
    · simp only [List.mem_singleton] at he
      subst he
      exact hx
theorem GenAt.done {n p : Nat} {es : List Ed} (h : GenAt n p es) (hp : p ≤ n) (hl : es.length ≤ 5) : GenEd n es := ⟨by have := h.1 [] hp; simpa using this, hl, h.2⟩
theorem OwnEds.base {w : World} {b b' : Nat} {v : Value} {es : List Ed} (h : OwnEds w b v es) (hb : b' ≤ b) : OwnEds w b' v es := by
  refine ⟨h.1, ?_⟩
  rcases h.2 with hn | ⟨g, cap, cur, rfl, hg, rest⟩
  · exact .inl hn
  · exact .inr ⟨g, cap, cur, rfl, Nat.le_trans hb hg, rest⟩
theorem gen_mod (n p m : Nat) (h : p ≤ m) : ∃ q : Nat, (n : Int) % ((m : Int) - (p : Int) + 1) = (q : Int) ∧ p + q ≤ m := by
  have h1 := Int.emod_nonneg (n : Int) (b := (m : Int) - p + 1) (by omega)
  have h2 := Int.emod_lt_of_pos (n : Int) (b := (m : Int) - p + 1) (by omega)
  exact ⟨((n : Int) % ((m : Int) - p + 1)).toNat, by omega, by omega⟩
theorem gen_mod2 (n m : Nat) : ∃ q : Nat, (n : Int) % ((m : Int) + 1) = (q : Int) ∧ q ≤ m := by
  have h1 := Int.emod_nonneg (n : Int) (b := (m : Int) + 1) (by omega)
  have h2 := Int.emod_lt_of_pos (n : Int) (b := (m : Int) + 1) (by omega)
  exact ⟨((n : Int) % ((m : Int) + 1)).toNat, by omega, by omega⟩
theorem gen_min (p m : Nat) (h : p ≤ m) : ∃ q : Nat, min ((m : Int) - (p : Int)) 6 = (q : Int) ∧ p + q ≤ m := ⟨min (m - p) 6, by omega, by omega⟩
theorem gen_min7 (p m : Nat) (h : p ≤ m) : ∃ q : Nat, min ((m : Int) - (p : Int)) 7 = (q : Int) ∧ p + q ≤ m ∧ q ≤ 7 := ⟨min (m - p) 7, by omega, by omega, by omega⟩
def wordsL : List Value := [.string ⟨#[]⟩, .string ⟨#[120]⟩, .string ⟨#[97, 98]⟩, .string ⟨#[32]⟩, .string ⟨#[10]⟩, .string ⟨#[108, 101, 116]⟩, .string ⟨#[48]⟩, .string ⟨#[43]⟩, .string ⟨#[195, 169]⟩, .string ⟨#[240, 157, 132, 158, 121]⟩, .string ⟨#[40]⟩, .string ⟨#[34]⟩, .string ⟨#[97, 95, 49]⟩]
theorem words_at (m : Nat) (h : m < 13) : ∃ x : List UInt8, wordsL[m]? = some (.string (strB x)) ∧ x.length ≤ 7 := by
  match m, h with
  | 0, _ => exact ⟨[], rfl, by decide⟩
  | 1, _ => exact ⟨[120], rfl, by decide⟩
  | 2, _ => exact ⟨[97, 98], rfl, by decide⟩
  | 3, _ => exact ⟨[32], rfl, by decide⟩
  | 4, _ => exact ⟨[10], rfl, by decide⟩
  | 5, _ => exact ⟨[108, 101, 116], rfl, by decide⟩
  | 6, _ => exact ⟨[48], rfl, by decide⟩
  | 7, _ => exact ⟨[43], rfl, by decide⟩
  | 8, _ => exact ⟨[195, 169], rfl, by decide⟩
  | 9, _ => exact ⟨[240, 157, 132, 158, 121], rfl, by decide⟩
  | 10, _ => exact ⟨[40], rfl, by decide⟩
  | 11, _ => exact ⟨[34], rfl, by decide⟩
  | 12, _ => exact ⟨[97, 95, 49], rfl, by decide⟩
  | m + 13, h => omega

theorem gen_from (b : Bool) (p q1 q2 m : Nat) (h1 : p + q1 ≤ m) (h2 : p + q2 ≤ m) :
    (b = true ∧ ∃ f : Nat, (p : Int) + (q2 : Int) = (f : Int) ∧ p ≤ f ∧ f ≤ m ∧ ∃ m7 : Nat, min ((m : Int) - (f : Int)) 7 = (m7 : Int) ∧ f + m7 ≤ m ∧ m7 ≤ 7) ∨
    (b = false ∧ ∃ f : Nat, (p : Int) + (q1 : Int) = (f : Int) ∧ p ≤ f ∧ f ≤ m ∧ ∃ m7 : Nat, min ((m : Int) - (f : Int)) 7 = (m7 : Int) ∧ f + m7 ≤ m ∧ m7 ≤ 7) := by
  cases b
  · exact .inr ⟨rfl, p + q1, by omega, by omega, by omega, gen_min7 _ _ (by omega)⟩
  · exact .inl ⟨rfl, p + q2, by omega, by omega, by omega, gen_min7 _ _ (by omega)⟩
theorem gen_text (b : Bool) (s : ByteArray) (f t : Nat) (ht : t ≤ f + 7) {w1 wr : World} (g : Nat) (hc : ∀ m, m < 13 → w1.cell? ⟨g, m, none⟩ = wordsL[m]?) (hg : g < w1.heap.size) (hb : Below w1.heap.size w1 wr) (z : Nat) (hz : z < 13) :
    (b = true ∧ ∃ y : List UInt8, y.length ≤ 7 ∧ s.extract f t = strB y ∧ ∃ x : List UInt8, wr.cell? ⟨g, z, none⟩ = some (.string (strB x))) ∨ (b = false ∧ ∃ y : List UInt8, y.length ≤ 7 ∧ wr.cell? ⟨g, z, none⟩ = some (.string (strB y))) := by
  obtain ⟨x, h1, h2⟩ := words_at z hz
  have hcell := (hb.cell (p := ⟨g, z, none⟩) hg).trans ((hc z hz).trans h1)
  cases b
  · exact .inr ⟨rfl, x, h2, hcell⟩
  · refine .inl ⟨rfl, _, ?_, ext_strB s f t, x, hcell⟩
    have := cutL_le s.data.toList f t
    omega

set_option maxRecDepth 100000 in
set_option maxHeartbeats 8000000 in
theorem some_any (s : ByteArray) (a : Option Addr) (c : Nat) (xs : List Int) (w : World) (hs : s.size ≤ 1000000) (hx : SliceAt w a c (xs.map intV)) (hb : ∀ n ∈ xs, -9223372036854775808 ≤ n ∧ n ≤ 9223372036854775807) :
    Calls Try.prog 40 #[.string s, .slice a xs.length c, .bool false] w fun e w' => ∃ v es, e = .returned v ∧ GenEd s.size es ∧ OwnEds w' w.heap.size v es ∧ Below w.heap.size w w' := by
  obtain ⟨w1, hw1⟩ : ∃ w1, w1 = w.alloc (.cells wordsL.toArray 9) := ⟨_, rfl⟩
  have hw1' := hw1
  unfold wordsL at hw1'
  have hB1 : Below w.heap.size w w1 := by rw [hw1]; exact (Below.refl _ w).alloc (Nat.le_refl _) _
  have hcell : ∀ m, m < 13 → w1.cell? ⟨w.heap.size, m, none⟩ = wordsL[m]? := by
    intro m hm
    rw [hw1, cell_of_row _ w.heap.size m _ _ (0, 0) (heap_alloc_new w _), List.getElem?_toArray]
  have hlt1 : w.heap.size < w1.heap.size := by rw [hw1]; simp
  have HC := Lib.hid hcell
  have HW := Lib.hid hw1'
  have KP := Lib.hid fun (W : World) (hW : Below w.heap.size w W) (i m : Int) (h1 : 1 ≤ m) (h2 : m ≤ 9223372036854775807) (hi : 0 ≤ i) (hi2 : i ≤ 1000000) => pick_b a c xs i m W (hx.below hW) hb h1 h2 hi hi2
  have k2 : ∀ W, Below w.heap.size w W → ∀ i : Int, 0 ≤ i → i ≤ 1000000 → Calls Try.prog 58 #[.slice a xs.length c, .int .i64 i, .int .i64 100000] W fun e w' => ∃ z : Nat, z ≤ 1000000 ∧ e = .returned (.int .i64 z) ∧ W = w' := fun W hW i hi hi2 =>
    (pick_b a c xs i 100000 W (hx.below hW) hb (by decide) (by decide) hi hi2).mono fun e w' ⟨z, h0, h1, h2⟩ => ⟨z, by omega, h1, h2⟩
  have K2 := Lib.hid k2
  clear hw1 hw1' hcell hb hx k2
  generalize hxl : xs.length = xl at *
  clear hxl
  go_enter Try.func40, Try.ntmps40
  go_wp2_with fail
  rw [← HW.out]
  go_loopw [8, 9, 10] (fun ov av iv wr => ∃ (k p : Nat) (es : List Ed), k ≤ 5 ∧ iv = .int .i64 k ∧ av = .int .i64 p ∧ p ≤ s.size ∧ Hid (es.length = k) ∧ Hid (GenAt s.size p es) ∧ OwnEds wr w1.heap.size ov es ∧ Hid (Below w1.heap.size w1 wr)) (fun _ _ iv _ => 5 - (intOf iv).toNat)
  case atStart => exact ⟨0, 0, [], by omega, rfl, rfl, by omega, rfl, ⟨fun rest h => h, fun e he => by simp at he⟩, OwnEds.nil _ _, Below.refl _ _⟩
  case round =>
    obtain ⟨k, p, es, hk, rfl, rfl, hp, hl, hG, hO, hB⟩ := hrel
    have hB0 := Lib.hid (hB1.trans (hB.out.mono (Nat.le_of_lt hlt1)))
    have HO := Lib.hid hO
    clear hO
    go_wp2_with fail
    refine (KP.out wr hB0.out 0 6 (by decide) (by decide) (by decide) (by decide)).mono ?_
    rintro e w2 ⟨z, hz, rfl, rfl⟩
    by_cases hkz : k < z
    · have d1 : decide (k < z) = true := decide_eq_true hkz
      have d2 : decide ((k : Int) < (z : Int)) = true := decide_eq_true (by omega)
      have hes : es.length ≤ 5 := by rw [hl.out]; omega
      have hwrs : w1.heap.size ≤ wr.heap.size := hB.out.size
      go_wp2_with (first | (go_at_call 58; (with_reducible refine (K2.out wr hB0.out _ (by omega) (by omega)).mono ?_); rintro e w2 ⟨n, hn, rfl, rfl⟩; obtain ⟨q1, e1, hq1⟩ := gen_mod n p s.size hp; obtain ⟨m6, e2, hm6⟩ := gen_min p s.size hp; obtain ⟨q2, e3, hq2⟩ := gen_mod2 n m6; rcases gen_from (((n : Int) / 8 % 2) == 0) p q1 q2 s.size hq1 (by omega) with ⟨b1, f, e4, hpf, hfs, m7, e5, hm7, hm8⟩ | ⟨b1, f, e4, hpf, hfs, m7, e5, hm7, hm8⟩) | (go_at_call 58; (with_reducible refine (KP.out wr hB0.out _ ((m7 : Int) + 1) (by omega) (by omega) (by omega) (by omega)).mono ?_); rintro e w2 ⟨t7, ht7, rfl, rfl⟩; obtain ⟨t, e6, hft, hts, ht8⟩ : ∃ t : Nat, (f : Int) + (t7 : Int) = (t : Int) ∧ f ≤ t ∧ t ≤ s.size ∧ t ≤ f + 7 := ⟨f + t7, by omega, by omega, by omega, by omega⟩) | (go_at_call 58; (with_reducible refine (KP.out wr hB0.out _ 13 (by decide) (by decide) (by omega) (by omega)).mono ?_); rintro e w2 ⟨z3, hz3, rfl, rfl⟩; rcases gen_text (((n : Int) / 16 % 5) == 0) s f t ht8 w.heap.size HC.out hlt1 hB.out z3 (by omega) with ⟨b2, y, hy, hxt, x, cw⟩ | ⟨b2, y, hy, cw⟩) | (at_builtin; refine wpList_append_src _ rfl (.tmp 88) (.tmp 93) 22 rfl elemE w1.heap.size _ es.length _ rfl (ownsRow_below HO.out ((Below.refl _ wr).alloc (Nat.le_refl _) _)) (some ⟨wr.heap.size, 0, none⟩) 1 1 [.int .i64 f, .int .i64 t, .string (strB y)] rfl (row_new (cs := [.int .i64 f, .int .i64 t, .string (strB y)]) rfl (by decide)) (by simp [Value.oneCell']) (by omega) (by omega) (by simp; omega) ?_; intro v2 w2 hown2 hB2 hgrow; obtain ⟨av, cv, rfl, _⟩ := ownsRow_row hown2; have HOW2 := Lib.hid hown2; have HB2 := Lib.hid hB2; clear hown2 hB2 hgrow))
      all_goals
        go_roundw
        case rel =>
          refine ⟨k + 1, t, es ++ [⟨f, t, y⟩], by omega, by go_num, rfl, hts, Lib.hid (by have := hl.out; simp; omega), Lib.hid (hG.out.snoc hpf hft hts hy), OwnEds.snoc (e := ⟨f, t, y⟩) HOW2.out, ?_⟩
          exact Lib.hid (hB.out.trans (((Below.refl _ wr).alloc hB.out.size _).trans HB2.out))
        case measure => simp [intOf]; omega
    · have d1 : decide (k < z) = false := decide_eq_false hkz
      have d2 : decide ((k : Int) < (z : Int)) = false := decide_eq_false (by omega)
      go_wp2_with fail
      go_ret
      exact ⟨_, es, rfl, hG.out.done hp (by rw [hl.out]; omega), OwnEds.base HO.out (Nat.le_of_lt hlt1), hB0.out⟩
theorem raw_any (s : ByteArray) (a : Option Addr) (c : Nat) (xs : List Int) (w : World) (hs : s.size ≤ 1000000) (hx : SliceAt w a c (xs.map intV)) (hb : ∀ n ∈ xs, -9223372036854775808 ≤ n ∧ n ≤ 9223372036854775807) :
    Calls Try.prog 16 #[.string s, .slice a xs.length c] w fun e w' => ∃ a' c' es, e = .returned (.slice a' es.length c') ∧ GenEd s.size es ∧ EdsAt w' a' c' es ∧ Below w.heap.size w w' := by
  have K := Lib.hid (some_any s a c xs w hs hx hb)
  clear hb hx
  go_enter Try.func16, Try.ntmps16
  go_wp2_with fail
  refine K.out.mono ?_
  rintro e w1 ⟨v, es, rfl, hg, ho, hb1⟩
  obtain ⟨a', c', rfl, hat⟩ := ho.at
  have HA := Lib.hid hat
  have HG := Lib.hid hg
  clear ho hat hg
  go_wp2
  go_ret
  exact ⟨_, _, es, rfl, HG.out, HA.out, hb1⟩
end Go.Proofs.Ytpncjgcdiomloaa
