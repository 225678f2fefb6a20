/-
  The end of a channel in memory; contracts of New, Send, Waiting and valid.
-/
import Derived.Test.YtaonhmdifinadaaChanA
import Derived.Test.YtaonhmdifinadaaEnd
namespace Go.Proofs.Ytaonhmdifinadaa
open Go Go.Proofs
open Go.RowKit
set_option linter.unusedVariables false

/-- A message value: a slice of bytes whose block bears label l. -/
def Msg (w : World) (o : Nat → Nat) (l : Nat) (v : Value) (m : List UInt8) : Prop := ∃ a c, v = .slice a m.length c ∧ Dat w o l a c (m.map byteV)
theorem Msg.step {L : Nat → Prop} {w w' : World} {o o' : Nat → Nat} {l : Nat} {v : Value} {m : List UInt8} (h : Msg w o l v m) (hs : Step L w o w' o') (h0 : ¬ L l) : Msg w' o' l v m := by
  obtain ⟨a, c, rfl, hd⟩ := h
  exact ⟨a, c, rfl, hd.step hs h0⟩
theorem Msg.one {w : World} {o : Nat → Nat} {l : Nat} {v : Value} {m : List UInt8} (h : Msg w o l v m) : v.oneCell' = true := by
  obtain ⟨a, c, rfl, _⟩ := h
  rfl
/-- Message values, one by one. -/
def Msgs (w : World) (o : Nat → Nat) (vs : List Value) (ms : List (List UInt8)) : Prop := vs.length = ms.length ∧ ∀ (j : Nat) v m, vs[j]? = some v → ms[j]? = some m → Msg w o 0 v m
theorem Msgs.step {L : Nat → Prop} {w w' : World} {o o' : Nat → Nat} {vs : List Value} {ms : List (List UInt8)} (h : Msgs w o vs ms) (hs : Step L w o w' o') (h0 : ¬ L 0) : Msgs w' o' vs ms :=
  ⟨h.1, fun j v m h1 h2 => (h.2 j v m h1 h2).step hs h0⟩
theorem Msgs.nil (w : World) (o : Nat → Nat) : Msgs w o [] [] := ⟨rfl, fun j v m h => by simp at h⟩
theorem Msgs.snoc {w : World} {o : Nat → Nat} {vs : List Value} {ms : List (List UInt8)} {v : Value} {m : List UInt8} (h : Msgs w o vs ms) (hv : Msg w o 0 v m) : Msgs w o (vs ++ [v]) (ms ++ [m]) := by
  refine ⟨by simp [h.1], fun j u x h1 h2 => ?_⟩
  by_cases hj : j < vs.length
  · rw [List.getElem?_append_left hj] at h1
    rw [List.getElem?_append_left (by rw [← h.1]; exact hj)] at h2
    exact h.2 j u x h1 h2
  · rw [List.getElem?_append_right (by omega)] at h1
    rw [List.getElem?_append_right (by rw [← h.1]; omega), ← h.1] at h2
    obtain ⟨k, hk⟩ : ∃ k, j - vs.length = k := ⟨_, rfl⟩
    rw [hk] at h1 h2
    cases k with
    | zero => simp at h1 h2; subst h1; subst h2; exact hv
    | succ k => simp at h1
theorem Msgs.drop {w : World} {o : Nat → Nat} {vs : List Value} {ms : List (List UInt8)} (h : Msgs w o vs ms) (k : Nat) : Msgs w o (vs.drop k) (ms.drop k) :=
  ⟨by simp [h.1], fun j v m h1 h2 => h.2 (k + j) v m (by simpa using h1) (by simpa using h2)⟩
theorem Msgs.one {w : World} {o : Nat → Nat} {vs : List Value} {ms : List (List UInt8)} (h : Msgs w o vs ms) : ∀ v ∈ vs, v.oneCell' = true := by
  intro v hv
  obtain ⟨j, hj, rfl⟩ := List.getElem_of_mem hv
  exact (h.2 j _ (ms[j]'(by rw [← h.1]; exact hj)) (List.getElem?_eq_getElem hj) (List.getElem?_eq_getElem _)).one
theorem Msgs.at {w : World} {o : Nat → Nat} {vs : List Value} {ms : List (List UInt8)} (h : Msgs w o vs ms) {j : Nat} (hj : j < ms.length) : ∃ a c, vs[j]? = some (.slice a ms[j].length c) ∧ Dat w o 0 a c (ms[j].map byteV) := by
  have hv : j < vs.length := by rw [h.1]; exact hj
  obtain ⟨a, c, he, hd⟩ := h.2 j vs[j] ms[j] (List.getElem?_eq_getElem hv) (List.getElem?_eq_getElem hj)
  exact ⟨a, c, by rw [List.getElem?_eq_getElem hv, he], hd⟩

/-- Entries of a map: the same keys, in the same order, and the messages. -/
inductive HeldAt (w : World) (o : Nat → Nat) : List (Int × Value) → List (Int × List UInt8) → Prop
  | nil : HeldAt w o [] []
  | cons {k : Int} {v : Value} {m : List UInt8} {es : List (Int × Value)} {hs : List (Int × List UInt8)} : Msg w o 0 v m → HeldAt w o es hs → HeldAt w o ((k, v) :: es) ((k, m) :: hs)
theorem HeldAt.step {L : Nat → Prop} {w w' : World} {o o' : Nat → Nat} {es : List (Int × Value)} {hs : List (Int × List UInt8)} (h : HeldAt w o es hs) (st : Step L w o w' o') (h0 : ¬ L 0) : HeldAt w' o' es hs := by
  induction h with
  | nil => exact .nil
  | cons hm _ ih => exact .cons (hm.step st h0) ih
theorem look_cons {α : Type} (k j : Int) (v : α) (es : List (Int × α)) : look ((k, v) :: es) j = if k = j then some v else look es j := by
  by_cases h : k = j
  · simp [look, h]
  · simp [look, h]
theorem drp_cons {α : Type} (k j : Int) (v : α) (es : List (Int × α)) : drp ((k, v) :: es) j = if k = j then drp es j else (k, v) :: drp es j := by
  by_cases h : k = j
  · simp [drp, h]
  · simp [drp, h]
theorem HeldAt.look {w : World} {o : Nat → Nat} {es : List (Int × Value)} {hs : List (Int × List UInt8)} (h : HeldAt w o es hs) (j : Int) :
    (look es j = none ∧ look hs j = none) ∨ ∃ v m, look es j = some v ∧ look hs j = some m ∧ Msg w o 0 v m := by
  induction h with
  | nil => exact .inl ⟨rfl, rfl⟩
  | @cons k v m es hs hm _ ih =>
    rw [look_cons, look_cons]
    by_cases hk : k = j
    · rw [if_pos hk, if_pos hk]
      exact .inr ⟨v, m, rfl, rfl, hm⟩
    · rw [if_neg hk, if_neg hk]
      exact ih
theorem HeldAt.put {w : World} {o : Nat → Nat} {es : List (Int × Value)} {hs : List (Int × List UInt8)} (h : HeldAt w o es hs) (k : Int) {v : Value} {m : List UInt8} (hv : Msg w o 0 v m) : HeldAt w o (put es k v) (put hs k m) := by
  unfold Go.Proofs.Ytaonhmdifinadaa.put
  induction h with
  | nil => exact .cons hv .nil
  | cons hm _ ih => exact .cons hm ih
theorem HeldAt.drp {w : World} {o : Nat → Nat} {es : List (Int × Value)} {hs : List (Int × List UInt8)} (h : HeldAt w o es hs) (j : Int) : HeldAt w o (drp es j) (drp hs j) := by
  induction h with
  | nil => exact .nil
  | @cons k v m es hs hm _ ih =>
    rw [drp_cons, drp_cons]
    by_cases hk : k = j
    · rw [if_pos hk, if_pos hk]; exact ih
    · rw [if_neg hk, if_neg hk]; exact .cons hm ih
theorem HeldAt.length {w : World} {o : Nat → Nat} {es : List (Int × Value)} {hs : List (Int × List UInt8)} (h : HeldAt w o es hs) : es.length = hs.length := by
  induction h with
  | nil => rfl
  | cons _ _ ih => simp [ih]

/-- An end of a channel: object i, its struct in block b. -/
def EndAt (w : World) (o : Nat → Nat) (i b : Nat) (E : EndS) : Prop :=
  ∃ wv vs mb es, Blk w o (10 * i) b [.int .i64 E.window, wv, .int .i64 E.acked, .int .i64 E.got, .map (some mb), .bool E.owing] ∧
    RowL w o (10 * i + 1) 78 1 wv vs.length vs ∧ Msgs w o vs E.waiting ∧ MapL w o (10 * i + 2) mb es ∧ HeldAt w o es E.held
theorem EndAt.step {L : Nat → Prop} {w w' : World} {o o' : Nat → Nat} {i b : Nat} {E : EndS} (h : EndAt w o i b E) (hs : Step L w o w' o') (h0 : ¬ L 0) (hi : ∀ l, Own i l → ¬ L l) : EndAt w' o' i b E := by
  obtain ⟨wv, vs, mb, es, h1, h2, h3, h5, h6⟩ := h
  exact ⟨wv, vs, mb, es, h1.step hs (hi _ (Own.at0 i)), h2.step hs (hi _ (Own.at1 i)), h3.step hs h0, h5.step hs (hi _ (Own.at2 i)), h6.step hs h0⟩

theorem valid_any (q k : Int) (a : Option Addr) (c : Nat) (m : List UInt8) (w : World) (hl : m.length ≤ 9223372036854775807) :
    Calls Try.prog 94 #[.agg #[.int .i64 q, .int .i64 k, .slice a m.length c]] w fun e w' => e = .returned (.bool (pvalid ⟨q, k, m⟩)) ∧ Below w.heap.size w w' := by
  obtain ⟨n, hn⟩ : ∃ n, m.length = n := ⟨_, rfl⟩
  have e : pvalid ⟨q, k, m⟩ = (decide (0 ≤ q) && (decide (0 ≤ k) && (decide (n ≤ 65536) && (decide (0 < q) || decide (n = 0))))) := by rw [← hn]; rfl
  have E := Lib.hid e
  clear e
  rw [hn]
  rw [hn] at hl
  clear hn
  go_enter Try.func94, Try.ntmps94
  go_wp2
  all_goals
    go_ret
    refine ⟨ret_bool ?_, (Below.refl _ _).alloc (Nat.le_refl _) _⟩
    rw [E.out, Bool.eq_iff_iff]
    simp
    omega

theorem new_no (n : Int) (w : World) (h : n < 1 ∨ 16 < n) :
    Calls Try.prog 55 #[.int .i64 n] w fun e w' => e = .returned (.tuple #[.pointer none, .int .i64 1]) ∧ w = w' := by
  rcases h with h | h
  · go_enter Try.func55, Try.ntmps55
    go_wp2
    go_ret2
    exact ⟨rfl, rfl⟩
  · have h' : ¬ n < 1 := by omega
    go_enter Try.func55, Try.ntmps55
    go_wp2
    go_ret2
    exact ⟨rfl, rfl⟩
theorem new_yes (n i : Nat) (w : World) (o : Nat → Nat) (h1 : 1 ≤ n) (h2 : n ≤ 16) (hi : 1 ≤ i) :
    Calls Try.prog 55 #[.int .i64 n] w fun e w' => ∃ b, e = .returned (.tuple #[.pointer (some ⟨b, 0, none⟩), .int .i64 0]) ∧ ∃ o', Step (Own i) w o w' o' ∧ EndAt w' o' i b (newE n) := by
  have h1' : (1 : Int) ≤ n := by omega
  have h2' : (n : Int) ≤ 16 := by omega
  have hmm := @run_makeMap Try.prog
  go_enter Try.func55, Try.ntmps55
  go_wp2
  go_ret2
  refine ⟨_, rfl, fun k => if k < w.heap.size then o k else if k = w.heap.size then 10 * i + 2 else 10 * i, ?_, ?_⟩
  · exact Step.below (((Below.refl _ w).alloc (Nat.le_refl _) _).alloc (by simp) _) fun k hk => by simp [hk]
  · refine ⟨.slice none 0 0, [], w.heap.size, [], ⟨169, ?_, by simp; omega⟩, RowL.nil _ _ _ _ _, Msgs.nil _ _, ⟨⟨#[], 0, ?_, rfl, by simp⟩, by simp⟩, .nil⟩
    · have := heap_alloc_new (w.alloc (.map #[] 0)) (.cells #[.int .i64 n, .slice none 0 0, .int .i64 0, .int .i64 0, .map (some w.heap.size), .bool false] 169)
      rw [World.size_alloc] at this
      exact this
    · exact (heap_alloc_old _ _ (by simp)).trans (heap_alloc_new w _)
theorem waiting_any (i b : Nat) (E : EndS) (w : World) (o : Nat → Nat) (hE : EndAt w o i b E) :
    Calls Try.prog 59 #[.pointer (some ⟨b, 0, none⟩)] w fun e w' => e = .returned (.int .i64 E.waiting.length) ∧ w = w' := by
  obtain ⟨wv, vs, mb, es, h1, h2, h3, h5, h6⟩ := hE
  obtain ⟨a, c, rfl, _, hs⟩ := ownsRow_slice h2.1
  have c1 := h1.cell (j := 1) rfl
  have hl := h3.1
  clear h1 h2 h3 h5 h6 hs
  go_enter Try.func59, Try.ntmps59
  go_wp2
  go_ret
  exact ⟨ret_int (by omega), rfl⟩

set_option maxRecDepth 100000 in
set_option maxHeartbeats 1000000 in
theorem send_any (i b : Nat) (E : EndS) (a : Option Addr) (c : Nat) (m : List UInt8) (w : World) (o : Nat → Nat) (hi : 1 ≤ i) (hE : EndAt w o i b E) (hm : SliceAt w a c (m.map byteV)) (hlw : E.waiting.length ≤ 1000000) :
    Calls Try.prog 56 #[.pointer (some ⟨b, 0, none⟩), .slice a m.length c] w fun e w' => e = .returned (.int .i64 (sendErr E m)) ∧ ∃ o', Step (Own i) w o w' o' ∧ EndAt w' o' i b (sendE E m) := by
  have hE0 := hE
  obtain ⟨wv, vs, mb, es, h1, h2, h3, h5, h6⟩ := hE
  obtain ⟨wa, wc, rfl, _, hs⟩ := ownsRow_slice h2.1
  have c1 := h1.cell (j := 1) rfl
  have f1 := h1.frozen 1
  have hl := h3.1
  have hml := hm.len
  simp only [List.length_map] at hml
  by_cases ha : 65536 < m.length
  · have ha' : (65536 : Int) < m.length := by omega
    clear h1 h2 h3 h5 h6 hs hm
    go_enter Try.func56, Try.ntmps56
    go_wp2
    go_ret
    rw [show sendErr E m = 4 from if_pos (.inl ha), show sendE E m = E from if_pos (.inl ha)]
    exact ⟨rfl, o, Step.refl _ _ _, hE0⟩
  · have ha' : ¬ (65536 : Int) < m.length := by omega
    by_cases hn : 1000 ≤ E.waiting.length
    · have hn' : (1000 : Int) ≤ vs.length := by omega
      clear h1 h2 h3 h5 h6 hs hm
      go_enter Try.func56, Try.ntmps56
      go_wp2
      go_ret
      rw [show sendErr E m = 4 from if_pos (.inr hn), show sendE E m = E from if_pos (.inr hn)]
      exact ⟨rfl, o, Step.refl _ _ _, hE0⟩
    · have hn' : ¬ (1000 : Int) ≤ vs.length := by omega
      have hvl : vs.length ≤ 1000 := by omega
      have H1 := Lib.hid h1
      have H2 := Lib.hid h2
      have H3 := Lib.hid h3
      have H5 := Lib.hid h5
      have H6 := Lib.hid h6
      have HM := Lib.hid hm
      clear h1 h2 h3 h5 h6 hs hm hl
      go_enter Try.func56, Try.ntmps56
      go_wp2_with fail
      have c1d : w.drew.cell? ⟨b, 1, none⟩ = some (.slice wa vs.length wc) := c1
      go_region_law (first
               | (go_simp; go_at_call 87; (with_reducible refine (clone_any a c m _ (HM.out.below (Below.drew (Below.refl _ w))) (by omega)).mono ?_); rintro e w1 ⟨v, rfl, hown1, hb1⟩
                  have hs1 : Step (fun _ => False) w o w1 (newLab w o 0) := Step.below ((Below.drew (Below.refl _ w)).trans hb1) fun k hk => newLab_old _ _ _ hk
                  obtain ⟨a1, c1, rfl, hd1⟩ := Dat.ofRow (l := 0) (o := o) (f := byteV) hown1
                  have H21 := H2.out.step hs1 (fun h => h)
                  have H11 := H1.out.step hs1 (fun h => h)
                  have k2 := H11.cell (j := 1) rfl
                  have k3 := H11.frozen 1
                  have H11a := fun ob => H11.step ((Step.refl (fun _ => False) w1 (newLab w o 0)).alloc ob) (fun h => h)
                  have k4 := fun ob => (H11a ob).cell (j := 1) rfl
                  have k5 := fun ob => (H11a ob).frozen 1
                  clear H11a)
               | (refine step_append_row (by rfl) (.tmp 20) (.tmp 23) 96 (by rfl) elemM (by rfl) H21 ((Below.refl _ w1).alloc (Nat.le_refl _) _) (some ⟨w1.heap.size, 0, none⟩) 1 1 [.slice a1 m.length c1] (by rfl) (row_new (cs := [.slice a1 m.length c1]) (by simp) (by omega)) (by simp [Value.oneCell']) (by omega) (by omega) ?_; intro v' w2 hrow2 hs2
                  obtain ⟨a2, c2, rfl⟩ := hrow2.form
                  have H12 := H11.step hs2 (by omega)
                  have k2 := H12.cell (j := 1) rfl
                  have k3 := H12.frozen 1))
      all_goals
        go_wp2
        go_ret
        rw [show sendErr E m = 0 from if_neg (by omega), show sendE E m = { E with waiting := E.waiting ++ [m] } from if_neg (by omega)]
        have hs3 : Step (· = 10 * i) w2 (newLab w1 (newLab w o 0) (10 * i + 1)) (w2.setCell ⟨b, 1, none⟩ (.slice a2 (vs.length + 1) c2)) (newLab w1 (newLab w o 0) (10 * i + 1)) := (Step.refl _ _ _).set (p := ⟨b, 1, none⟩) H12.lab _
        have hS : Step (Own i) w1 (newLab w o 0) (w2.setCell ⟨b, 1, none⟩ (.slice a2 (vs.length + 1) c2)) (newLab w1 (newLab w o 0) (10 * i + 1)) := (hs2.mono fun l hl => by subst hl; exact Own.at1 i).trans (hs3.mono fun l hl => by subst hl; exact Own.at0 i)
        refine ⟨rfl, _, (hs1.mono fun _ h => h.elim).trans hS, _, vs ++ [.slice a1 m.length c1], mb, es, H12.set 1 _, ?_, ?_, ?_, ?_⟩
        · have := hrow2.step hs3 (by omega)
          simpa using this
        · exact ((H3.out.step hs1 (fun h => h)).step hS (Own.not0 hi)).snoc (Msg.step ⟨_, _, rfl, hd1⟩ hS (Own.not0 hi))
        · exact ((H5.out.step hs1 (fun h => h)).step hs2 (by omega)).step hs3 (by omega)
        · exact (H6.out.step hs1 (fun h => h)).step hS (Own.not0 hi)
end Go.Proofs.Ytaonhmdifinadaa
