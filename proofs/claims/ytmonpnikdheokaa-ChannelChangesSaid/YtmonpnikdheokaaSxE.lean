/-
  Contract: the generator of edits at places where characters begin (any text).
-/
import Derived.Test.YtmonpnikdheokaaSeD
import Derived.Test.YtmonpnikdheokaaSxA
import Derived.Test.YtmonpnikdheokaaPeD
namespace Go.Proofs.Ytmonpnikdheokaa
open Go Go.Proofs
open Go.RowKit
set_option linter.unusedVariables false
set_option linter.unusedSimpArgs false

theorem bdL_step {l : List UInt8} {k : Nat} (h : contB l (k + 1) = true) : bdL l (k + 1) = bdL l k := by
  show (if contB l (k + 1) then bdL l k else k + 1) = _
  rw [h]; rfl
theorem bdL_stop {l : List UInt8} {k : Nat} (h : contB l k = false) : bdL l k = k := by
  cases k with
  | zero => rfl
  | succ k => unfold bdL; rw [h]; rfl

set_option maxRecDepth 100000 in
set_option maxHeartbeats 2000000 in
theorem boundary_any (s : ByteArray) (k : Nat) (w : World) (hs : s.size ≤ 1000000) (hk : k ≤ s.size) :
    Calls Try.prog 96 #[.string s, .int .i64 k] w fun e w' => e = .returned (.int .i64 (bdL s.data.toList k)) ∧ w = w' := by
  obtain ⟨R, hR⟩ : ∃ R, bdL s.data.toList k = R := ⟨_, rfl⟩
  have HR := Lib.hid hR
  rw [hR]
  clear hR
  go_enter Try.func96, Try.ntmps96
  go_wp2_with fail
  go_loopw [1] (fun kv wr => wr = w ∧ ∃ j : Nat, kv = .int .i64 j ∧ j ≤ s.size ∧ Hid (bdL s.data.toList j = R)) (fun kv _ => (intOf kv).toNat)
  case atStart => exact ⟨by first | rfl | trivial, k, rfl, hk, HR.out⟩
  case round =>
    obtain ⟨hww, j, rfl, hj, HJ⟩ := hrel
    have hww := hww.symm
    subst hww
    cases j with
    | zero =>
      have hz : R = 0 := by rw [← HJ.out]; rfl
      subst hz
      go_wp2_with fail
      go_ret
      exact ⟨rfl, rfl⟩
    | succ j =>
      have d1 : decide ((0 : Int) < ((j + 1 : Nat) : Int)) = true := decide_eq_true (by omega)
      by_cases hl : j + 1 < s.size
      · have d2 : decide (((j + 1 : Nat) : Int) < (s.size : Int)) = true := decide_eq_true (by omega)
        have d2' : decide (j + 1 < s.size) = true := decide_eq_true hl
        have hg := get_by s hl
        obtain ⟨c, hc⟩ : ∃ c, by8 s.data.toList (j + 1) = c := ⟨_, rfl⟩
        rw [hc] at hg
        by_cases h1 : 128 ≤ c
        · by_cases h2 : c < 192
          · have hcb : contB s.data.toList (j + 1) = true := contB_iff.2 ⟨hl, by omega, by omega⟩
            have hst := bdL_step hcb
            rw [HJ.out] at hst
            have HST := Lib.hid hst
            have e1 : decide ((128 : Int) ≤ (c : Int)) = true := decide_eq_true (by omega)
            have e2 : decide ((c : Int) < 192) = true := decide_eq_true (by omega)
            have e1' : decide (128 ≤ c) = true := decide_eq_true h1
            have e2' : decide (c < 192) = true := decide_eq_true h2
            clear hst hcb hc
            go_wp2_with fail
            go_roundw
            case rel => exact ⟨by first | rfl | trivial, j, by go_num, by omega, Lib.hid HST.out.symm⟩
            case measure => simp [intOf]
          · have hcb : contB s.data.toList (j + 1) = false := by rw [Bool.eq_false_iff]; intro h; have := contB_iff.1 h; omega
            have hst := bdL_stop hcb
            rw [HJ.out] at hst
            subst hst
            have e1 : decide ((128 : Int) ≤ (c : Int)) = true := decide_eq_true (by omega)
            have e2 : decide ((c : Int) < 192) = false := decide_eq_false (by omega)
            have e1' : decide (128 ≤ c) = true := decide_eq_true h1
            have e2' : decide (c < 192) = false := decide_eq_false h2
            clear hcb hc
            go_wp2_with fail
            go_ret
            exact ⟨rfl, rfl⟩
        · have hcb : contB s.data.toList (j + 1) = false := by rw [Bool.eq_false_iff]; intro h; have := contB_iff.1 h; omega
          have hst := bdL_stop hcb
          rw [HJ.out] at hst
          subst hst
          have e1 : decide ((128 : Int) ≤ (c : Int)) = false := decide_eq_false (by omega)
          have e1' : decide (128 ≤ c) = false := decide_eq_false h1
          clear hcb hc
          go_wp2_with fail
          go_ret
          exact ⟨rfl, rfl⟩
      · have hcb : contB s.data.toList (j + 1) = false := by rw [Bool.eq_false_iff]; intro h; have := contB_iff.1 h; rw [size_list] at this; omega
        have hst := bdL_stop hcb
        rw [HJ.out] at hst
        subst hst
        have d2 : decide (((j + 1 : Nat) : Int) < (s.size : Int)) = false := decide_eq_false (by omega)
        have d2' : decide (j + 1 < s.size) = false := decide_eq_false hl
        clear hcb
        go_wp2_with fail
        go_ret
        exact ⟨rfl, rfl⟩

theorem bdL_idem (l : List UInt8) : ∀ k, bdL l (bdL l k) = bdL l k
  | 0 => rfl
  | k + 1 => by
    by_cases h : contB l (k + 1) = true
    · rw [bdL_step h]; exact bdL_idem l k
    · have hf : contB l (k + 1) = false := by simpa using h
      rw [bdL_stop hf, bdL_stop hf]
/-- What the generator gives: at most five valid edits. -/
def GenG (n : Nat) (es : List Ed) : Prop := Snd n 0 es ∧ es.length ≤ 5 ∧ ∀ e ∈ es, e.x.length ≤ 5000
def GenGa (l : List UInt8) (p : Nat) (es : List Ed) : Prop := (∀ rest, Snd l.length p rest → Snd l.length 0 (es ++ rest)) ∧ bdL l p = p ∧ ∀ e ∈ es, e.x.length ≤ 5000
theorem GenGa.snoc {l : List UInt8} {p f t : Nat} {es : List Ed} {x : List UInt8} (h : GenGa l p es) (h1 : p ≤ f) (h2 : f ≤ t) (h3 : t ≤ l.length) (hx : x.length ≤ 5000) (ht : bdL l t = t) : GenGa l t (es ++ [⟨f, t, x⟩]) := by
  refine ⟨fun rest hr => ?_, ht, fun e he => ?_⟩
  · rw [List.append_assoc]
    exact h.1 _ ⟨by show (p : Int) ≤ f; omega, by show (f : Int) ≤ t; omega, by show (t : Int) ≤ l.length; omega, hr⟩
  · rcases List.mem_append.1 he with he | he
    · exact h.2.2 e he
    · simp only [List.mem_singleton] at he
      subst he
      exact hx
theorem GenGa.done {l : List UInt8} {p : Nat} {es : List Ed} (h : GenGa l p es) (hp : p ≤ l.length) (hl : es.length ≤ 5) : GenG l.length es := ⟨by have := h.1 [] hp; simpa using this, hl, h.2.2⟩
theorem gen_textB (b : Bool) (s : ByteArray) (f t : Nat) (hs : s.size ≤ 5000) {w1 wr : World} (g : Nat) (hc : ∀ m, m < 13 → w1.cell? ⟨g, m, none⟩ = wordsL[m]?) (hg : g < w1.heap.size) (hb : Below w1.heap.size w1 wr) (z : Nat) (hz : z < 13) :
    (b = true ∧ ∃ y : List UInt8, y.length ≤ 5000 ∧ s.extract f t = strB y ∧ ∃ x : List UInt8, wr.cell? ⟨g, z, none⟩ = some (.string (strB x))) ∨ (b = false ∧ ∃ y : List UInt8, y.length ≤ 5000 ∧ wr.cell? ⟨g, z, none⟩ = some (.string (strB y))) := by
  obtain ⟨x, h1, h2⟩ := words_at z hz
  have hcell := (hb.cell (p := ⟨g, z, none⟩) hg).trans ((hc z hz).trans h1)
  cases b
  · exact .inr ⟨rfl, x, by omega, hcell⟩
  · refine .inl ⟨rfl, _, ?_, ext_strB s f t, x, hcell⟩
    unfold cutL
    rw [List.length_take, List.length_drop, size_list]
    omega

set_option maxRecDepth 100000 in
set_option maxHeartbeats 8000000 in
theorem someG_any (s : ByteArray) (a : Option Addr) (c : Nat) (xs : List Int) (w : World) (hs : s.size ≤ 5000) (hx : SliceAt w a c (xs.map intV)) (hb : ∀ n ∈ xs, -9223372036854775808 ≤ n ∧ n ≤ 9223372036854775807) :
    Calls Try.prog 82 #[.string s, .slice a xs.length c, .bool true] w fun e w' => ∃ v es, e = .returned v ∧ GenG s.size es ∧ OwnEds w' w.heap.size v es ∧ Below w.heap.size w w' := by
  obtain ⟨w1, hw1⟩ : ∃ w1, w1 = w.alloc (.cells wordsL.toArray 9) := ⟨_, rfl⟩
  have hw1' := hw1
  unfold wordsL at hw1'
  have hB1 : Below w.heap.size w w1 := by rw [hw1]; exact (Below.refl _ w).alloc (Nat.le_refl _) _
  have hcell : ∀ m, m < 13 → w1.cell? ⟨w.heap.size, m, none⟩ = wordsL[m]? := by
    intro m hm
    rw [hw1, cell_of_row _ w.heap.size m _ _ (0, 0) (heap_alloc_new w _), List.getElem?_toArray]
  have hlt1 : w.heap.size < w1.heap.size := by rw [hw1]; simp
  have HC := Lib.hid hcell
  have HW := Lib.hid hw1'
  have KP := Lib.hid fun (W : World) (hW : Below w.heap.size w W) (i m : Int) (h1 : 1 ≤ m) (h2 : m ≤ 9223372036854775807) (hi : 0 ≤ i) (hi2 : i ≤ 1000000) => pick_b a c xs i m W (hx.below hW) hb h1 h2 hi hi2
  have k2 : ∀ W, Below w.heap.size w W → ∀ i : Int, 0 ≤ i → i ≤ 1000000 → Calls Try.prog 33 #[.slice a xs.length c, .int .i64 i, .int .i64 100000] W fun e w' => ∃ z : Nat, z ≤ 1000000 ∧ e = .returned (.int .i64 z) ∧ W = w' := fun W hW i hi hi2 =>
    (pick_b a c xs i 100000 W (hx.below hW) hb (by decide) (by decide) hi hi2).mono fun e w' ⟨z, h0, h1, h2⟩ => ⟨z, by omega, h1, h2⟩
  have K2 := Lib.hid k2
  have hls : s.data.toList.length = s.size := size_list s
  have kb : ∀ (k : Nat) (W : World), k ≤ s.size → Calls Try.prog 96 #[.string s, .int .i64 k] W fun e w' => ∃ q : Nat, q = bdL s.data.toList k ∧ e = .returned (.int .i64 q) ∧ W = w' := fun k W hk =>
    (boundary_any s k W (by omega) hk).mono fun e w' ⟨h1, h2⟩ => ⟨_, rfl, h1, h2⟩
  have KB := Lib.hid kb
  have HLS := Lib.hid hls
  clear hw1 hw1' hcell hb hx k2 kb hls
  generalize hxl : xs.length = xl at *
  clear hxl
  go_enter Try.func82, Try.ntmps82
  go_wp2_with fail
  rw [← HW.out]
  go_loopw [8, 9, 10] (fun ov av iv wr => ∃ (k p : Nat) (es : List Ed), k ≤ 5 ∧ iv = .int .i64 k ∧ av = .int .i64 p ∧ p ≤ s.size ∧ Hid (es.length = k) ∧ Hid (GenGa s.data.toList p es) ∧ OwnEds wr w1.heap.size ov es ∧ Hid (Below w1.heap.size w1 wr)) (fun _ _ iv _ => 5 - (intOf iv).toNat)
  case atStart => exact ⟨0, 0, [], by omega, rfl, rfl, by omega, rfl, ⟨fun rest h => h, rfl, fun e he => by simp at he⟩, OwnEds.nil _ _, Below.refl _ _⟩
  case round =>
    obtain ⟨k, p, es, hk, rfl, rfl, hp, hl, hG, hO, hB⟩ := hrel
    have hB0 := Lib.hid (hB1.trans (hB.out.mono (Nat.le_of_lt hlt1)))
    have HO := Lib.hid hO
    clear hO
    go_wp2_with fail
    refine (KP.out wr hB0.out 0 6 (by decide) (by decide) (by decide) (by decide)).mono ?_
    rintro e w2 ⟨z, hz, rfl, rfl⟩
    by_cases hkz : k < z
    · have d1 : decide (k < z) = true := decide_eq_true hkz
      have d2 : decide ((k : Int) < (z : Int)) = true := decide_eq_true (by omega)
      have hes : es.length ≤ 5 := by rw [hl.out]; omega
      have hwrs : w1.heap.size ≤ wr.heap.size := hB.out.size
      go_wp2_with (first | (go_at_call 33; (with_reducible refine (K2.out wr hB0.out _ (by omega) (by omega)).mono ?_); rintro e w2 ⟨n, hn, rfl, rfl⟩; obtain ⟨q1, e1, hq1⟩ := gen_mod n p s.size hp; obtain ⟨m6, e2, hm6⟩ := gen_min p s.size hp; obtain ⟨q2, e3, hq2⟩ := gen_mod2 n m6; rcases gen_from (((n : Int) / 8 % 2) == 0) p q1 q2 s.size hq1 (by omega) with ⟨b1, f0, e4, hpf0, hfs0, m7, e5, hm7, hm8⟩ | ⟨b1, f0, e4, hpf0, hfs0, m7, e5, hm7, hm8⟩) | (go_at_call 33; (with_reducible refine (KP.out wr hB0.out _ ((m7 : Int) + 1) (by omega) (by omega) (by omega) (by omega)).mono ?_); rintro e w2 ⟨t7, ht7, rfl, rfl⟩; obtain ⟨t0, e6, hft0, hts0, ht80⟩ : ∃ t : Nat, (f0 : Int) + (t7 : Int) = (t : Int) ∧ f0 ≤ t ∧ t ≤ s.size ∧ t ≤ f0 + 7 := ⟨f0 + t7, by omega, by omega, by omega, by omega⟩) | (go_at_call 96; (with_reducible refine (KB.out t0 wr hts0).mono ?_); rintro e w2 ⟨t, htt, rfl, rfl⟩; have htl := bdL_le s.data.toList t0; rw [← htt] at htl; have hts : t ≤ s.size := Nat.le_trans htl hts0; have hft : f ≤ t := (by rw [HFF.out, htt]; exact bdL_mono _ hft0); have HTT := Lib.hid htt; clear htt htl) | (go_at_call 96; (with_reducible refine (KB.out f0 wr hfs0).mono ?_); rintro e w2 ⟨f, hff, rfl, rfl⟩; have hpf : p ≤ f := (by rw [hff]; have := bdL_mono s.data.toList hpf0; rwa [hG.out.2.1] at this); have HFF := Lib.hid hff; clear hff) | (go_at_call 33; (with_reducible refine (KP.out wr hB0.out _ 13 (by decide) (by decide) (by omega) (by omega)).mono ?_); rintro e w2 ⟨z3, hz3, rfl, rfl⟩; rcases gen_textB (((n : Int) / 16 % 5) == 0) s f t hs w.heap.size HC.out hlt1 hB.out z3 (by omega) with ⟨b2, y, hy, hxt, x, cw⟩ | ⟨b2, y, hy, cw⟩) | (at_builtin; refine wpList_append_src _ rfl (.tmp 88) (.tmp 93) 112 rfl elemE w1.heap.size _ es.length _ rfl (ownsRow_below HO.out ((Below.refl _ wr).alloc (Nat.le_refl _) _)) (some ⟨wr.heap.size, 0, none⟩) 1 1 [.int .i64 f, .int .i64 t, .string (strB y)] rfl (row_new (cs := [.int .i64 f, .int .i64 t, .string (strB y)]) rfl (by decide)) (by simp [Value.oneCell']) (by omega) (by omega) (by simp; omega) ?_; intro v2 w2 hown2 hB2 hgrow; obtain ⟨av, cv, rfl, _⟩ := ownsRow_row hown2; have HOW2 := Lib.hid hown2; have HB2 := Lib.hid hB2; clear hown2 hB2 hgrow))
      all_goals
        go_roundw
        case rel =>
          refine ⟨k + 1, t, es ++ [⟨f, t, y⟩], by omega, by go_num, rfl, hts, Lib.hid (by have := hl.out; simp; omega), Lib.hid (hG.out.snoc hpf hft (by rw [HLS.out]; exact hts) hy (by rw [HTT.out]; exact bdL_idem _ _)), OwnEds.snoc (e := ⟨f, t, y⟩) HOW2.out, ?_⟩
          exact Lib.hid (hB.out.trans (((Below.refl _ wr).alloc hB.out.size _).trans HB2.out))
        case measure => simp [intOf]; omega
    · have d1 : decide (k < z) = false := decide_eq_false hkz
      have d2 : decide ((k : Int) < (z : Int)) = false := decide_eq_false (by omega)
      go_wp2_with fail
      go_ret
      exact ⟨_, es, rfl, (by have := hG.out.done (by rw [HLS.out]; exact hp) (by rw [hl.out]; omega); rw [HLS.out] at this; exact this), OwnEds.base HO.out (Nat.le_of_lt hlt1), hB0.out⟩
theorem editsG_any (s : ByteArray) (a : Option Addr) (c : Nat) (xs : List Int) (w : World) (hs : s.size ≤ 5000) (hx : SliceAt w a c (xs.map intV)) (hb : ∀ n ∈ xs, -9223372036854775808 ≤ n ∧ n ≤ 9223372036854775807) :
    Calls Try.prog 60 #[.string s, .slice a xs.length c] w fun e w' => ∃ a' c' es, e = .returned (.slice a' es.length c') ∧ GenG s.size es ∧ EdsAt w' a' c' es ∧ Below w.heap.size w w' := by
  have K := Lib.hid (someG_any s a c xs w hs hx hb)
  clear hb hx
  go_enter Try.func60, Try.ntmps60
  go_wp2_with fail
  refine K.out.mono ?_
  rintro e w1 ⟨v, es, rfl, hg, ho, hb1⟩
  obtain ⟨a', c', rfl, hat⟩ := ho.at
  have HA := Lib.hid hat
  have HG := Lib.hid hg
  clear ho hat hg
  go_wp2
  go_ret
  exact ⟨_, _, es, rfl, HG.out, HA.out, hb1⟩
end Go.Proofs.Ytmonpnikdheokaa
