/-
  The end of the reference: Out.
-/
import Derived.Test.YtmonpnikdheokaaRunA
import Derived.Deep.RegionHeld3
namespace Go.Proofs.Ytmonpnikdheokaa
open Go Go.Proofs
open Go.RowKit
set_option linter.unusedVariables false
set_option linter.unusedSimpArgs false

/-- The reference's packets qs as values ps: the messages are data. -/
def RPkts (w : World) (o : Nat → Nat) (ps : List (Int × Int × Value)) (qs : List Pkt) : Prop :=
  ps.length = qs.length ∧ ∀ (j : Nat) p q, ps[j]? = some p → qs[j]? = some q → p.1 = q.seq ∧ p.2.1 = q.ack ∧ Msg w o 0 p.2.2 q.b
theorem RPkts.step {L : Nat → Prop} {w w' : World} {o o' : Nat → Nat} {ps : List (Int × Int × Value)} {qs : List Pkt} (h : RPkts w o ps qs) (hs : Step L w o w' o') (h0 : ¬ L 0) : RPkts w' o' ps qs :=
  ⟨h.1, fun j p q h1 h2 => ⟨(h.2 j p q h1 h2).1, (h.2 j p q h1 h2).2.1, (h.2 j p q h1 h2).2.2.step hs h0⟩⟩
theorem RPkts.nil (w : World) (o : Nat → Nat) : RPkts w o [] [] := ⟨rfl, fun j p q h => by simp at h⟩
theorem RPkts.snoc {w : World} {o : Nat → Nat} {ps : List (Int × Int × Value)} {qs : List Pkt} (h : RPkts w o ps qs) {x y : Int} {v : Value} {m : List UInt8} (hv : Msg w o 0 v m) : RPkts w o (ps ++ [(x, y, v)]) (qs ++ [⟨x, y, m⟩]) := by
  refine ⟨by simp [h.1], fun j p q h1 h2 => ?_⟩
  by_cases hj : j < ps.length
  · rw [List.getElem?_append_left hj] at h1
    rw [List.getElem?_append_left (by rw [← h.1]; exact hj)] at h2
    exact h.2 j p q h1 h2
  · rw [List.getElem?_append_right (by omega)] at h1
    rw [List.getElem?_append_right (by rw [← h.1]; omega), ← h.1] at h2
    obtain ⟨k, hk⟩ : ∃ k, j - ps.length = k := ⟨_, rfl⟩
    rw [hk] at h1 h2
    cases k with
    | zero => simp at h1 h2; subst h1; subst h2; exact ⟨rfl, rfl, hv⟩
    | succ k => simp at h1
def RPRow (w : World) (o : Nat → Nat) (l : Nat) (v : Value) (qs : List Pkt) : Prop := ∃ ps, RowL w o l 40 3 v qs.length (pcells ps) ∧ RPkts w o ps qs
theorem RPRow.step {L : Nat → Prop} {w w' : World} {o o' : Nat → Nat} {l : Nat} {v : Value} {qs : List Pkt} (h : RPRow w o l v qs) (hs : Step L w o w' o') (hl : ¬ L l) (h0 : ¬ L 0) : RPRow w' o' l v qs := by
  obtain ⟨ps, h1, h2⟩ := h
  exact ⟨ps, h1.step hs hl, h2.step hs h0⟩
theorem RPRow.cells {w : World} {o : Nat → Nat} {l : Nat} {v : Value} {qs : List Pkt} (h : RPRow w o l v qs) :
    ∃ a c, v = .slice a qs.length c ∧ qs.length ≤ c ∧ c ≤ 9223372036854775807 ∧ (0 < qs.length → ∃ g, a = some ⟨g, 0, none⟩ ∧ g < w.heap.size ∧
      ∀ j q, qs[j]? = some q → ∃ ma mc, w.cell? ⟨g, j * 3, none⟩ = some (.int .i64 q.seq) ∧ w.cell? ⟨g, j * 3 + 1, none⟩ = some (.int .i64 q.ack) ∧ w.cell? ⟨g, j * 3 + 2, none⟩ = some (.slice ma q.b.length mc) ∧ Dat w o 0 ma mc (q.b.map byteV)) := by
  obtain ⟨ps, h1, h2⟩ := h
  obtain ⟨a, c, rfl, h3, h4, h5, h6⟩ := h1.cells
  refine ⟨a, c, rfl, h3, h4, fun hp => ?_⟩
  obtain ⟨g, rfl, _, hlt, hc, _⟩ := h6 hp
  refine ⟨g, rfl, hlt, fun j q hq => ?_⟩
  have hj := (List.getElem?_eq_some_iff.1 hq).1
  have hpj : ps[j]? = some (ps[j]'(by rw [h2.1]; exact hj)) := List.getElem?_eq_getElem _
  obtain ⟨e1, e2, e3⟩ := pcells_get ps j _ hpj
  obtain ⟨f1, f2, ma, mc, f3, f4⟩ := h2.2 j _ q hpj hq
  refine ⟨ma, mc, ?_, ?_, ?_, f4⟩
  · rw [hc _ _ e1, f1]
  · rw [hc _ _ e2, f2]
  · rw [hc _ _ e3, f3]
theorem RPRow.at {w : World} {o : Nat → Nat} {l n c : Nat} {a : Option Addr} {qs : List Pkt} (h : RPRow w o l (.slice a n c) qs) {j : Nat} {q : Pkt} (hq : qs[j]? = some q) :
    ∃ g ma mc, a = some ⟨g, 0, none⟩ ∧ n = qs.length ∧ n ≤ c ∧ w.cell? ⟨g, j * 3, none⟩ = some (.int .i64 q.seq) ∧ w.cell? ⟨g, j * 3 + 1, none⟩ = some (.int .i64 q.ack) ∧ w.cell? ⟨g, j * 3 + 2, none⟩ = some (.slice ma q.b.length mc) ∧ Dat w o 0 ma mc (q.b.map byteV) := by
  obtain ⟨a', c', he, h1, h2, h3⟩ := h.cells
  simp only [Value.slice.injEq] at he
  obtain ⟨rfl, rfl, rfl⟩ := he
  obtain ⟨g, rfl, _, h4⟩ := h3 (by have := (List.getElem?_eq_some_iff.1 hq).1; omega)
  obtain ⟨ma, mc, h5⟩ := h4 j q hq
  exact ⟨g, ma, mc, rfl, rfl, h1, h5⟩
theorem elemRP : ElemT Try.prog 30 40 (.agg #[.int .i64 0, .int .i64 0, .slice none 0 0]) 3 40 := ⟨Try.underlying30, info_parts (by kernel_rfl), rfl, by decide⟩
theorem MdAt.owe {w : World} {o : Nat → Nat} {i b : Nat} {E : EndS} {S : List (List UInt8)} (h : MdAt w o i b E S) (hi : 1 ≤ i) (x : Bool) : Step (· = 10 * i) w o (w.setCell ⟨b, 5, none⟩ (.bool x)) o ∧ MdAt (w.setCell ⟨b, 5, none⟩ (.bool x)) o i b { E with owing := x } S := by
  obtain ⟨sv, vs, hv, es, lh, hlh, h1, h2, h3, h5, h6⟩ := h
  have hs := EndAt.set h1 5 (.bool x)
  exact ⟨hs, sv, vs, hv, es, lh, hlh, h1.set 5 (.bool x), h2.step hs (by omega), h3.step hs (by omega), RecL.step h5 hs (by omega), h6.step hs (by omega)⟩
theorem comb {A B : Prop} (f : (Nat → A) → B) (a : A) : B := f fun _ => a

set_option maxRecDepth 100000 in
set_option maxHeartbeats 4000000 in
theorem rout_any (i b : Nat) (E : EndS) (S : List (List UInt8)) (w : World) (o : Nat → Nat) (l : Nat) (hi : 1 ≤ i) (hE : MdAt w o i b E S) (hO : MdOk E S) (hl : ¬ Own i l) (hl0 : l ≠ 0)
    (hw1 : 1 ≤ E.window) (hw2 : E.window ≤ 16) (hgo : E.got ≤ 1000000000) (hwm : ∀ m ∈ S, m.length ≤ 70368744177664) :
    Calls Try.prog 17 #[.pointer (some ⟨b, 0, none⟩)] w fun e w' => ∃ v, e = .returned v ∧ ∃ o', Step (fun x => Own i x ∨ x = l) w o w' o' ∧ MdAt w' o' i b (outE E) S ∧ RPRow w' o' l v (outP E) := by
  have hE0 := hE
  obtain ⟨sv, vs, hv, es, lh, hlh, h1, h2, h3, h5, h6⟩ := hE
  obtain ⟨wa, wc, rfl, _, hs⟩ := ownsRow_slice h2.1
  have hvl := h3.1
  have hwc := hs.le
  have hle := hO.le
  have hlen := hO.len
  have hwait := hO.wait
  have c0 := h1.cell (j := 0) rfl
  have c1 := h1.cell (j := 1) rfl
  have c2 := h1.cell (j := 2) rfl
  have H1 := Lib.hid h1
  have H2 := Lib.hid h2
  have H3 := Lib.hid h3
  have HE0 := Lib.hid hE0
  clear h1 h2 h3 h5 h6 hs hE0
  obtain ⟨N, hN⟩ : ∃ N, vs.length = N := ⟨_, rfl⟩
  obtain ⟨A, hA⟩ : ∃ N, E.acked = N := ⟨_, rfl⟩
  obtain ⟨G, hG⟩ : ∃ N, E.got = N := ⟨_, rfl⟩
  obtain ⟨Wn, hWn⟩ : ∃ N, E.window = N := ⟨_, rfl⟩
  have hSN : S.length = N := by rw [← hN]; exact hvl.symm
  rw [hN] at c1 hwc
  rw [hA] at c2 hle hwait
  rw [hWn] at c0 hw1 hw2
  rw [hG] at hgo
  rw [hSN] at hle hlen
  rw [hN] at H2
  obtain ⟨n, hn⟩ : ∃ n, min Wn (N - A) = n := ⟨_, rfl⟩
  have hnW : n ≤ Wn := by omega
  have hnN : A + n ≤ N := by omega
  have hnc : n = Wn ∨ A + n = N := by omega
  have hqall : outP E = if n = 0 ∧ E.owing = true then [⟨0, G, []⟩] else pktsFrom G A (E.waiting.take n) := by
    have e1 : (E.waiting.take E.window).length = n := by rw [List.length_take, hwait, List.length_drop, hSN, hWn]; exact hn
    have e2 : E.waiting.take E.window = E.waiting.take n := by
      have hl2 : E.waiting.length = N - A := by rw [hwait, List.length_drop, hSN]
      rw [hWn]
      by_cases h : Wn ≤ N - A
      · rw [show n = Wn by omega]
      · rw [List.take_of_length_le (by omega), List.take_of_length_le (by omega)]
    unfold outP
    rw [e1, e2, hG, hA]
  have HQ := Lib.hid hqall
  have HWT := Lib.hid hwait
  have HSN := Lib.hid hSN
  have HN := Lib.hid hN
  have HA := Lib.hid hA
  have HG := Lib.hid hG
  have HWN := Lib.hid hWn
  have c3 : w.cell? ⟨b, 3, none⟩ = some (.int .i64 (G : Int)) := by have := H1.out.cell (j := 3) rfl; rw [HG.out] at this; exact this
  clear hqall hwait hSN hN hA hG hWn hn hvl
  go_enter Try.func17, Try.ntmps17
  go_wp2_with fail
  clear c0 c1 c2 c3
  go_loopw [3, 4] (fun out iv wr => ∃ (k : Nat) (v : Value) (o' : Nat → Nat), k ≤ n ∧ iv = .int .i64 ((A + k : Nat) : Int) ∧ out = v ∧ Hid (Step (· = l) w o wr o') ∧ Hid (RPRow wr o' l v (pktsFrom G A (E.waiting.take k))))
      (fun _ iv wr => A + n - (intOf iv).toNat)
  case atStart => exact ⟨0, _, o, Nat.zero_le _, by simp, rfl, Step.refl _ _ _, ⟨[], RowL.nil _ _ _ _ _, RPkts.nil _ _⟩⟩
  case round =>
    obtain ⟨k, v, o1, hk, rfl, hvu, HST, HROW⟩ := hrel
    have hvu2 := hvu.symm
    clear hvu
    subst hvu2
    have H1r := Lib.hid (H1.out.step HST.out (by unfold Own at hl; omega))
    have H2r := Lib.hid (H2.out.step HST.out (by unfold Own at hl; omega))
    have d0 : wr.cell? ⟨b, 0, none⟩ = some (.int .i64 (Wn : Int)) := by have := H1r.out.cell (j := 0) rfl; rw [HWN.out] at this; exact this
    have d1 : wr.cell? ⟨b, 1, none⟩ = some (.slice wa N wc) := by have := H1r.out.cell (j := 1) rfl; rw [HN.out] at this; exact this
    have d2 : wr.cell? ⟨b, 2, none⟩ = some (.int .i64 (A : Int)) := by have := H1r.out.cell (j := 2) rfl; rw [HA.out] at this; exact this
    have d3 : wr.cell? ⟨b, 3, none⟩ = some (.int .i64 (G : Int)) := by have := H1r.out.cell (j := 3) rfl; rw [HG.out] at this; exact this
    obtain ⟨kk, hkk⟩ : ∃ kk : Nat, A + k = kk := ⟨_, rfl⟩
    rw [hkk]
    have hAW : IntKind.i64.wrap ((A : Int) + (Wn : Int)) = (A : Int) + (Wn : Int) := IntWalk.i64_in _ (by omega)
    by_cases hlt : k < n
    · have t1 : (kk : Int) < (N : Int) := by omega
      have t2 : (kk : Int) < (A : Int) + (Wn : Int) := by omega
      go_wp2_with fail
      go_quiet (fail)
      obtain ⟨w1, hw1⟩ : ∃ x, x = wr.drewN nq := ⟨_, rfl⟩
      have hs1 : Step (fun _ => False) wr o1 w1 o1 := by rw [hw1]; exact Step.same (Below.drewN _)
      rw [← hw1]
      have hst1 := HST.out.trans (hs1.mono fun _ h => h.elim)
      have H1q := Lib.hid (H1r.out.step hs1 fun h => h)
      have H2q := Lib.hid (H2r.out.step hs1 fun h => h)
      have hkS : kk < S.length := by rw [HSN.out]; omega
      obtain ⟨ma, mc, hve, hmd⟩ := (H3.out.step hst1 (fun e => hl0 e.symm)).at hkS
      obtain ⟨m, hm⟩ : ∃ m, S[kk] = m := ⟨_, rfl⟩
      rw [hm] at hve hmd
      obtain ⟨sg, so, rfl⟩ := H2q.out.slice.addr (by have := (List.getElem?_eq_some_iff.1 hve).1; omega)
      have e3 := H2q.out.slice.cell hve
      have HMD := Lib.hid hmd
      have HVE := Lib.hid hve
      have HM := Lib.hid hm
      have e1 : w1.cell? ⟨b, 3, none⟩ = some (.int .i64 (G : Int)) := by rw [hw1]; exact d3
      have e2 : w1.cell? ⟨b, 1, none⟩ = some (.slice (some ⟨sg, so, none⟩) N wc) := by rw [hw1]; exact d1
      obtain ⟨ps, hr, hp⟩ := HROW.out
      have hpl : (pktsFrom G A (E.waiting.take k)).length = k := by rw [pktsFrom_length, List.length_take, hO.num, HSN.out, HA.out]; omega
      rw [hpl] at hr
      have HR := Lib.hid (RowL.step hr hs1 fun h => h)
      have HP := Lib.hid (hp.step hs1 fun h => h)
      have HS1 := Lib.hid hst1
      have HPL := Lib.hid hpl
      have z1 : (0 : Int) ≤ (kk : Int) := by omega
      have z2 : kk < N := by omega
      have hml : m.length ≤ 70368744177664 := by rw [← hm]; exact hwm _ (List.getElem_mem _)
      clear hs1 hw1 hst1 hve hmd hm hr hp hpl d0 d1 d2 d3 H1r H2r HROW HST hAW
      go_wp2_with fail
      have wr1 := IntWalk.i64_in ((kk : Int) + 1) (by omega)
      go_region_held3 (fun W => W.cell? ⟨b, 3, none⟩ = some (.int .i64 G) ∧ W.cell? ⟨b, 1, none⟩ = some (.slice (some ⟨sg, so, none⟩) N wc) ∧ W.cell? ⟨sg, so + kk, none⟩ = some (.slice ma m.length mc)) (first | assumption | exact ⟨e1, e2, e3⟩ | (refine ⟨?_, ?_, ?_⟩ <;> first | assumption | go_keep))
        (first
         | (refine step_append_row (w₀ := w1) (o := o1) (l := l) (by rfl) (.tmp 31) (.tmp 46) 30 (by rfl) elemRP (by rfl) HR.out ((Below.drew (Below.refl _ w1)).alloc (Nat.le_refl _) _) (some ⟨w1.heap.size, 0, none⟩) 1 1 [.int .i64 ((kk : Int) + 1), .int .i64 G, .slice ma m.length mc] (by rfl) (row_new (w := w1.drew) (cs := [.int .i64 ((kk : Int) + 1), .int .i64 G, .slice ma m.length mc]) (by simp) (by omega)) (by simp [Value.oneCell']) (by omega) (by omega) ?_; intro v' w2 hrow2 hs2
            have H12 := H1q.out.step hs2 (by unfold Own at hl; omega)
            have H22 := H2q.out.step hs2 (by unfold Own at hl; omega)
            have k1 : w2.cell? ⟨b, 3, none⟩ = some (.int .i64 (G : Int)) := by have := H12.cell (j := 3) rfl; rw [HG.out] at this; exact this
            have k2 : w2.cell? ⟨b, 1, none⟩ = some (.slice (some ⟨sg, so, none⟩) N wc) := by have := H12.cell (j := 1) rfl; rw [HN.out] at this; exact this
            have k3 := H22.slice.cell HVE.out))
      all_goals
        have HS2 := Lib.hid (HS1.out.trans hs2)
        have HR2 := Lib.hid hrow2
        have HST2 := Lib.hid hs2
        clear hs2 hrow2 H12 H22 k1 k2 k3 e1 e2 e3
        go_wp2_with fail
        go_roundw
        case rel =>
          have e4 : E.waiting.take (k + 1) = E.waiting.take k ++ [m] := by
            rw [List.take_add_one, HWT.out, List.getElem?_drop, hkk, List.getElem?_eq_getElem hkS, HM.out]
            rfl
          have e5 : (E.waiting.take k).length = k := by rw [List.length_take, hO.num, HSN.out, HA.out]; omega
          refine ⟨k + 1, _, _, by omega, by simp only [Value.int.injEq, true_and]; omega, rfl, HS2.out, ps ++ [((kk : Int) + 1, (G : Int), .slice ma m.length mc)], ?_, ?_⟩
          · rw [pktsFrom_length, pcells_snoc, e4, List.length_append, e5]
            exact HR2.out
          · rw [e4, pktsFrom_snoc, e5, hkk]
            exact (HP.out.step HST2.out (fun e => hl0 e.symm)).snoc ⟨ma, mc, rfl, HMD.out.step HST2.out (fun e => hl0 e.symm)⟩
        case measure => simp [intOf]; omega
    · obtain rfl : k = n := by omega
      have hpl : (pktsFrom G A (E.waiting.take k)).length = k := by rw [pktsFrom_length, List.length_take, hO.num, HSN.out, HA.out]; omega
      have c5 : wr.cell? ⟨b, 5, none⟩ = some (.bool E.owing) := H1r.out.cell (j := 5) rfl
      have c5n : ∀ nq, (wr.drewN nq).cell? ⟨b, 5, none⟩ = some (.bool E.owing) := fun _ => c5
      have c3n : ∀ nq, (wr.drewN nq).cell? ⟨b, 3, none⟩ = some (.int .i64 (G : Int)) := fun _ => d3
      have hcase : (¬ (kk : Int) < (N : Int)) ∨ ((kk : Int) < (N : Int) ∧ ¬ (kk : Int) < (A : Int) + (Wn : Int)) := by omega
      have HMD := Lib.hid (HE0.out.step HST.out (fun e => hl0 e.symm) fun x hx e => hl (by rw [← e]; exact hx))
      obtain ⟨ps, hr, hp⟩ := HROW.out
      rw [hpl] at hr
      obtain ⟨a3, c3', rfl⟩ := hr.form
      have HR := Lib.hid hr
      have HP := Lib.hid hp
      have HPL := Lib.hid hpl
      have hk0 : ((k : Int) == 0) = decide (k = 0) := by rw [Bool.eq_iff_iff]; simp
      obtain ⟨z, hz⟩ : ∃ z, decide (k = 0) = z := ⟨_, rfl⟩
      have HZ := Lib.hid hz
      rw [hz] at hk0
      obtain ⟨ow, how⟩ : ∃ ow, E.owing = ow := ⟨_, rfl⟩
      have HOW := Lib.hid how
      rw [how] at c5 c5n
      clear hr hp hpl HROW hz how
      have hcase' : decide (kk < N) = false ∧ decide ((kk : Int) < (N : Int)) = false ∨ (decide (kk < N) = true ∧ decide ((kk : Int) < (N : Int)) = true ∧ decide (kk < A + Wn) = false ∧ decide ((kk : Int) < (A : Int) + (Wn : Int)) = false) := by
        rcases hcase with h | ⟨h, h2⟩
        · exact .inl ⟨decide_eq_false (by omega), decide_eq_false h⟩
        · exact .inr ⟨decide_eq_true (by omega), decide_eq_true h, decide_eq_false (by omega), decide_eq_false h2⟩
      clear hcase
      rcases hcase' with ⟨hc1, hc2⟩ | ⟨hc1, hc2, hc3, hc4⟩
      all_goals
        go_wp2_with fail
        go_quiet (fail)
        obtain ⟨w1, hw1⟩ : ∃ x, x = wr.drewN nq := ⟨_, rfl⟩
        have hs1 : Step (fun _ => False) wr o1 w1 o1 := by rw [hw1]; exact Step.same (Below.drewN _)
        rw [← hw1]
        have hst1 := HST.out.trans (hs1.mono fun _ h => h.elim)
        have e5 : w1.cell? ⟨b, 5, none⟩ = some (.bool ow) := by rw [hw1]; exact c5
        have e3 : w1.cell? ⟨b, 3, none⟩ = some (.int .i64 (G : Int)) := by rw [hw1]; exact d3
        have HMD1 := Lib.hid (HMD.out.step hs1 (fun h => h) fun _ _ h => h)
        have HR1 := Lib.hid (RowL.step HR.out hs1 fun h => h)
        have HP1 := Lib.hid (HP.out.step hs1 fun h => h)
        have H1q := Lib.hid (H1r.out.step hs1 fun h => h)
        have f5 := H1q.out.frozen 5
        have HS1 := Lib.hid hst1
        clear hs1 hw1 hst1 c5 c5n c3n d0 d1 d2 d3 HMD HR HP HST H1r H2r
        cases z with
        | false =>
          have hn0 : ¬ k = 0 := by simpa using HZ.out
          go_wp2_with fail
          go_ret
          have hS := HMD1.out.owe hi false
          refine ⟨_, rfl, o1, (HS1.out.mono fun x h => .inr h).trans (hS.1.mono fun x h => .inl (by rw [h]; exact Own.at0 i)), hS.2, ?_⟩
          rw [HQ.out, if_neg (fun h => hn0 h.1)]
          exact ⟨ps, by rw [HPL.out]; exact HR1.out.step hS.1 (by unfold Own at hl; omega), HP1.out.step hS.1 (by omega)⟩
        | true =>
          have hn0 : k = 0 := by simpa using HZ.out
          cases ow with
          | false =>
            go_wp2_with fail
            go_ret
            have hS := HMD1.out.owe hi false
            refine ⟨_, rfl, o1, (HS1.out.mono fun x h => .inr h).trans (hS.1.mono fun x h => .inl (by rw [h]; exact Own.at0 i)), hS.2, ?_⟩
            rw [HQ.out, if_neg (fun h => by rw [HOW.out] at h; exact absurd h.2 (by decide))]
            exact ⟨ps, by rw [HPL.out]; exact HR1.out.step hS.1 (by unfold Own at hl; omega), HP1.out.step hS.1 (by omega)⟩
          | true =>
            go_wp2_with (at_builtin; refine wpList_append_row (w₀ := w1) (o := o1) (l := l) rfl _ _ 30 rfl elemRP rfl HR1.out ((Below.refl _ w1).alloc (Nat.le_refl _) _) (some ⟨w1.heap.size, 0, none⟩) 1 1 [.int .i64 0, .int .i64 G, .slice none 0 0] rfl (row_new (cs := [.int .i64 0, .int .i64 G, .slice none 0 0]) (by simp) (by omega)) (by simp [Value.oneCell']) (by omega) (by omega) ?_)
            intro v' w2 hrow2 hs2
            obtain ⟨a4, c4, rfl⟩ := hrow2.form
            have hE2 := HMD1.out.step hs2 (fun e => hl0 e.symm) (fun x hx e => hl (by rw [← e]; exact hx))
            have f52 := (H1q.out.step hs2 (by unfold Own at hl; omega)).frozen 5
            have c52 : w2.cell? ⟨b, 5, none⟩ = some (.bool true) := by have := (H1q.out.step hs2 (by unfold Own at hl; omega)).cell (j := 5) rfl; rw [HOW.out] at this; exact this
            have HE2 := Lib.hid hE2
            have HR2 := Lib.hid hrow2
            have HS2 := Lib.hid hs2
            clear hE2 hrow2 hs2 e5 e3 f5
            go_wp2_with fail
            go_ret
            have hS := HE2.out.owe hi false
            refine ⟨_, rfl, _, ((HS1.out.trans HS2.out).mono fun x h => .inr h).trans (hS.1.mono fun x h => .inl (by rw [h]; exact Own.at0 i)), hS.2, ?_⟩
            rw [HQ.out, if_pos ⟨hn0, HOW.out⟩]
            have hr2 := HR2.out.step hS.1 (by unfold Own at hl; omega)
            have hps : ps = [] := List.eq_nil_of_length_eq_zero (by have := HP1.out.1; rw [HPL.out, hn0] at this; exact this)
            subst hps
            have hk1 : k + 1 = ([⟨0, G, []⟩] : List Pkt).length := by rw [hn0]; rfl
            refine ⟨[(0, (G : Int), .slice none 0 0)], by first | exact hr2 | (rw [← hk1]; exact hr2), rfl, fun j p q h1 h2 => ?_⟩
            cases j with
            | zero =>
              simp at h1 h2
              subst h1
              subst h2
              exact ⟨rfl, rfl, none, 0, rfl, Dat.nil byteV _ _ _⟩
            | succ j => simp at h1
end Go.Proofs.Ytmonpnikdheokaa
