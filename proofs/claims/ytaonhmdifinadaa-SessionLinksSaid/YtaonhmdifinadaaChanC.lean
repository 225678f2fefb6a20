/-
  Packets in memory; the contract of Out.
-/
import Derived.Test.YtaonhmdifinadaaChanB
import Derived.IntWalk
namespace Go.Proofs.Ytaonhmdifinadaa
open Go Go.Proofs
open Go.RowKit
set_option linter.unusedVariables false

/-- The cells of a list of packets: number, acknowledgement, message value. -/
def pcells (ps : List (Int × Int × Value)) : List Value := ps.flatMap fun p => [.int .i64 p.1, .int .i64 p.2.1, p.2.2]
theorem pcells_snoc (ps : List (Int × Int × Value)) (p : Int × Int × Value) : pcells (ps ++ [p]) = pcells ps ++ [.int .i64 p.1, .int .i64 p.2.1, p.2.2] := by simp [pcells]
theorem pcells_length : ∀ ps : List (Int × Int × Value), (pcells ps).length = ps.length * 3
  | [] => rfl
  | p :: ps => by
    have := pcells_length ps
    simp only [pcells, List.flatMap_cons, List.length_append, List.length_cons, List.length_nil] at *
    omega
theorem pcells_get : ∀ (ps : List (Int × Int × Value)) (j : Nat) (p : Int × Int × Value), ps[j]? = some p → (pcells ps)[j * 3]? = some (.int .i64 p.1) ∧ (pcells ps)[j * 3 + 1]? = some (.int .i64 p.2.1) ∧ (pcells ps)[j * 3 + 2]? = some p.2.2
  | [], j, p, h => by simp at h
  | q :: ps, 0, p, h => by
    simp at h
    subst h
    simp [pcells]
  | q :: ps, j + 1, p, h => by
    have := pcells_get ps j p (by simpa using h)
    simp only [pcells, List.flatMap_cons, List.cons_append, List.nil_append] at *
    rw [show (j + 1) * 3 = j * 3 + 1 + 1 + 1 by omega, show j * 3 + 1 + 1 + 1 + 2 = j * 3 + 2 + 1 + 1 + 1 by omega]
    simpa only [List.getElem?_cons_succ] using this
/-- A message in a packet: its block may be written. -/
def PMsg (w : World) (o : Nat → Nat) (l : Nat) (v : Value) (m : List UInt8) : Prop := ∃ a c, v = .slice a m.length c ∧ Dat w o l a c (m.map byteV) ∧ (0 < m.length → ∀ b off, a = some ⟨b, off, none⟩ → ∀ j, w.frozen? ⟨b, j, none⟩ = false)
theorem frozen_of_block {w w' : World} {b j : Nat} (h : w'.heap[b]? = w.heap[b]?) : w'.frozen? ⟨b, j, none⟩ = w.frozen? ⟨b, j, none⟩ := by simp [World.frozen?, h]
theorem PMsg.step {L : Nat → Prop} {w w' : World} {o o' : Nat → Nat} {l : Nat} {v : Value} {m : List UInt8} (h : PMsg w o l v m) (hs : Step L w o w' o') (h0 : ¬ L l) : PMsg w' o' l v m := by
  obtain ⟨a, c, rfl, hd, hf⟩ := h
  refine ⟨a, c, rfl, hd.step hs h0, fun hp b off ha j => ?_⟩
  have hp' : 0 < (m.map byteV).length := by simpa using hp
  rw [frozen_of_block (hs.block b (hd.1.lt hp' b off ha) (by rw [hd.2 hp' b off ha]; exact h0))]
  exact hf hp b off ha j
theorem PMsg.one {w : World} {o : Nat → Nat} {l : Nat} {v : Value} {m : List UInt8} (h : PMsg w o l v m) : v.oneCell' = true := by
  obtain ⟨a, c, rfl, _⟩ := h
  rfl
/-- The packets qs as values ps: the j-th message bears label f j. -/
def PktsAt (w : World) (o : Nat → Nat) (f : Nat → Nat) (ps : List (Int × Int × Value)) (qs : List Pkt) : Prop :=
  ps.length = qs.length ∧ ∀ (j : Nat) p q, ps[j]? = some p → qs[j]? = some q → p.1 = q.seq ∧ p.2.1 = q.ack ∧ PMsg w o (f j) p.2.2 q.b
theorem PktsAt.step {L : Nat → Prop} {w w' : World} {o o' f : Nat → Nat} {ps : List (Int × Int × Value)} {qs : List Pkt} (h : PktsAt w o f ps qs) (hs : Step L w o w' o') (h0 : ∀ j, j < qs.length → ¬ L (f j)) : PktsAt w' o' f ps qs :=
  ⟨h.1, fun j p q h1 h2 => ⟨(h.2 j p q h1 h2).1, (h.2 j p q h1 h2).2.1, (h.2 j p q h1 h2).2.2.step hs (h0 j (List.getElem?_eq_some_iff.1 h2).1)⟩⟩
theorem PktsAt.nil (w : World) (o f : Nat → Nat) : PktsAt w o f [] [] := ⟨rfl, fun j p q h => by simp at h⟩
theorem PktsAt.snoc {w : World} {o f : Nat → Nat} {ps : List (Int × Int × Value)} {qs : List Pkt} (h : PktsAt w o f ps qs) {x y : Int} {v : Value} {m : List UInt8} (hv : PMsg w o (f ps.length) v m) : PktsAt w o f (ps ++ [(x, y, v)]) (qs ++ [⟨x, y, m⟩]) := by
  refine ⟨by simp [h.1], fun j p q h1 h2 => ?_⟩
  by_cases hj : j < ps.length
  · rw [List.getElem?_append_left hj] at h1
    rw [List.getElem?_append_left (by rw [← h.1]; exact hj)] at h2
    exact h.2 j p q h1 h2
  · rw [List.getElem?_append_right (by omega)] at h1
    rw [List.getElem?_append_right (by rw [← h.1]; omega), ← h.1] at h2
    obtain ⟨k, hk⟩ : ∃ k, j - ps.length = k := ⟨_, rfl⟩
    rw [hk] at h1 h2
    cases k with
    | zero =>
      have : j = ps.length := by omega
      subst this
      simp at h1 h2; subst h1; subst h2; exact ⟨rfl, rfl, hv⟩
    | succ k => simp at h1
theorem PktsAt.one {w : World} {o f : Nat → Nat} {ps : List (Int × Int × Value)} {qs : List Pkt} (h : PktsAt w o f ps qs) : ∀ v ∈ pcells ps, v.oneCell' = true := by
  intro v hv
  simp only [pcells, List.mem_flatMap] at hv
  obtain ⟨p, hp, hv⟩ := hv
  obtain ⟨j, hj, rfl⟩ := List.getElem_of_mem hp
  have := (h.2 j _ (qs[j]'(by rw [← h.1]; exact hj)) (List.getElem?_eq_getElem hj) (List.getElem?_eq_getElem _)).2.2.one
  simp only [List.mem_cons, List.not_mem_nil, or_false] at hv
  rcases hv with rfl | rfl | rfl
  · rfl
  · rfl
  · exact this
/-- A slice of packets that object l owns. -/
theorem own_thaw {w : World} {base : Nat} {e : TypeId} {b off n c m : Nat} {xs : List Value} (h : w.ownsRow base e 1 (.slice (some ⟨b, off, none⟩) n c) m xs) (hp : 0 < m) (j : Nat) : w.frozen? ⟨b, j, none⟩ = false := by
  rcases h.2 with ⟨h', _⟩ | ⟨g, cap, cur, he, hb, hh, rest⟩
  · simp at h'
  · simp only [Value.slice.injEq, Option.some.injEq, Addr.mk.injEq, and_true] at he
    obtain ⟨⟨rfl, rfl⟩, _, _⟩ := he
    simp [World.frozen?, hh]
def PRow (w : World) (o f : Nat → Nat) (l : Nat) (v : Value) (qs : List Pkt) : Prop := ∃ ps, RowL w o l 114 3 v qs.length (pcells ps) ∧ PktsAt w o f ps qs
theorem PRow.step {L : Nat → Prop} {w w' : World} {o o' f : Nat → Nat} {l : Nat} {v : Value} {qs : List Pkt} (h : PRow w o f l v qs) (hs : Step L w o w' o') (hl : ¬ L l) (h0 : ∀ j, j < qs.length → ¬ L (f j)) : PRow w' o' f l v qs := by
  obtain ⟨ps, h1, h2⟩ := h
  exact ⟨ps, h1.step hs hl, h2.step hs h0⟩
theorem elemP : ElemT Try.prog 110 114 (.agg #[.int .i64 0, .int .i64 0, .slice none 0 0]) 3 40 := ⟨Try.underlying110, info_parts (by kernel_rfl), rfl, by decide⟩

theorem EndAt.set {w : World} {o : Nat → Nat} {i b : Nat} {cs : List Value} (h : Blk w o (10 * i) b cs) (j : Nat) (u : Value) : Step (· = 10 * i) w o (w.setCell ⟨b, j, none⟩ u) o := (Step.refl _ _ _).set (p := ⟨b, j, none⟩) h.lab _
theorem EndAt.owe {w : World} {o : Nat → Nat} {i b : Nat} {E : EndS} (h : EndAt w o i b E) (hi : 1 ≤ i) (x : Bool) : Step (· = 10 * i) w o (w.setCell ⟨b, 5, none⟩ (.bool x)) o ∧ EndAt (w.setCell ⟨b, 5, none⟩ (.bool x)) o i b { E with owing := x } := by
  obtain ⟨wv, vs, mb, es, h1, h2, h3, h5, h6⟩ := h
  have hs := EndAt.set h1 5 (.bool x)
  exact ⟨hs, wv, vs, mb, es, h1.set 5 _, h2.step hs (by omega), h3.step hs (by omega), h5.step hs (by omega), h6.step hs (by omega)⟩
theorem EndAt.got {w : World} {o : Nat → Nat} {i b : Nat} {E : EndS} (h : EndAt w o i b E) (hi : 1 ≤ i) (n : Nat) : Step (· = 10 * i) w o (w.setCell ⟨b, 3, none⟩ (.int .i64 n)) o ∧ EndAt (w.setCell ⟨b, 3, none⟩ (.int .i64 n)) o i b { E with got := n } := by
  obtain ⟨wv, vs, mb, es, h1, h2, h3, h5, h6⟩ := h
  have hs := EndAt.set h1 3 (.int .i64 n)
  exact ⟨hs, wv, vs, mb, es, h1.set 3 _, h2.step hs (by omega), h3.step hs (by omega), h5.step hs (by omega), h6.step hs (by omega)⟩

set_option maxRecDepth 100000 in
set_option maxHeartbeats 2000000 in
theorem out_any (i b : Nat) (E : EndS) (w : World) (o : Nat → Nat) (l : Nat) (f : Nat → Nat) (hi : 1 ≤ i) (hE : EndAt w o i b E) (hl : ¬ Own i l) (hf : ∀ j, ¬ Own i (f j)) (hfl : ∀ j, f j ≠ l)
    (hw1 : 1 ≤ E.window) (hw2 : E.window ≤ 16) (hlw : E.waiting.length ≤ 1000000) (hac : E.acked ≤ 1000000000) (hgo : E.got ≤ 1000000000) (hl0 : l ≠ 0) (hwm : ∀ m ∈ E.waiting, m.length ≤ 70368744177664) :
    Calls Try.prog 57 #[.pointer (some ⟨b, 0, none⟩)] w fun e w' => ∃ v, e = .returned v ∧ ∃ o', Step (fun x => Own i x ∨ x = l) w o w' o' ∧ EndAt w' o' i b (outE E) ∧ PRow w' o' f l v (outP E) := by
  have hE0 := hE
  obtain ⟨wv, vs, mb, es, h1, h2, h3, h5, h6⟩ := hE
  obtain ⟨wa, wc, rfl, _, hs⟩ := ownsRow_slice h2.1
  have hvl := h3.1
  have hwc := hs.le
  have c0 := h1.cell (j := 0) rfl
  have c1 := h1.cell (j := 1) rfl
  have H1 := Lib.hid h1
  have H2 := Lib.hid h2
  have H3 := Lib.hid h3
  have H5 := Lib.hid h5
  have H6 := Lib.hid h6
  have HS := Lib.hid hs
  clear h1 h2 h3 h5 h6 hs
  have hcase : ∃ n : Nat, n ≤ vs.length ∧ n ≤ E.window ∧ (E.waiting.take E.window) = E.waiting.take n ∧ ((n = E.window ∧ n < vs.length) ∨ (n = vs.length ∧ n < E.window) ∨ (n = vs.length ∧ n = E.window)) := by
    rcases Nat.lt_or_ge E.window vs.length with h | h
    · exact ⟨E.window, by omega, Nat.le_refl _, rfl, .inl ⟨rfl, h⟩⟩
    · exact ⟨vs.length, Nat.le_refl _, h, by rw [List.take_of_length_le (by omega), List.take_of_length_le (by omega)], by omega⟩
  obtain ⟨n, hn1, hn2, htk, hcase⟩ := hcase
  have HTK := Lib.hid (show ∃ z : EndS, z = E ∧ z.waiting.take z.window = z.waiting.take n from ⟨_, rfl, htk⟩)
  have HVL := Lib.hid hvl
  have HNL := Lib.hid (show ∃ z : List Value, z = vs ∧ n ≤ z.length from ⟨vs, rfl, hn1⟩)
  have HNW := Lib.hid (show n ≤ E.waiting.length by omega)
  clear htk hvl
  have hq3 : n ≤ wc := by omega
  rcases hcase with ⟨hcase, hlt⟩ | ⟨hcase, hlt⟩ | ⟨hcase, hc2⟩
  focus
    generalize E.window = x at *
    subst hcase
    have hq1 : (n : Int) < vs.length := by omega
    clear hn2 hn1
    go_enter Try.func57, Try.ntmps57
    go_wp2
    go_quiet (fail)
    go_wp2
  rotate_left
  focus
    generalize vs.length = x at *
    subst hcase
    have hq1 : (n : Int) < E.window := by omega
    clear hn1 hn2
    go_enter Try.func57, Try.ntmps57
    go_wp2
    go_quiet (fail)
    go_wp2
  rotate_left
  focus
    generalize vs.length = x at *
    subst hcase
    generalize E.window = x at *
    subst hc2
    clear hn1
    go_enter Try.func57, Try.ntmps57
    go_wp2
    go_quiet (fail)
    go_wp2
  rotate_left
  all_goals
    go_loopw [3, 22] (fun out iv wr => ∃ (k : Nat) (v : Value) (o' : Nat → Nat), k ≤ n ∧ iv = .int .i64 k ∧ out = v ∧ Step (· = l) w o wr o' ∧ PRow wr o' f l v (pktsFrom E.got E.acked (E.waiting.take k)))
      (fun _ iv wr => n - (intOf iv).toNat)
    case atStart => exact ⟨0, _, o, Nat.zero_le _, rfl, rfl, Step.same (Below.drewN _), ⟨[], RowL.nil _ _ _ _ _, PktsAt.nil _ _ _⟩⟩
    case round =>
      obtain ⟨k, v, o1, hk, rfl, rfl, hst, hrow⟩ := hrel
      by_cases hlt : k < n
      · have hkl : k < E.waiting.length := Nat.lt_of_lt_of_le hlt HNW.out
        have hkv : k < vs.length := by obtain ⟨z, hz, h⟩ := HNL.out; subst hz; omega
        obtain ⟨a, c, hv, hd⟩ := H3.out.at hkl
        have hs := (H2.out.step hst (fun e => hl (by rw [← e]; exact Own.at1 i))).slice
        obtain ⟨g, off, rfl⟩ := hs.addr (by omega)
        have hcell := hs.cell hv
        have hdr := hd.step hst (fun e => hl0 e.symm)
        have hmax := hdr.1.len
        have h1r := H1.out.step hst (fun e => hl (by rw [← e]; exact Own.at0 i))
        have c2 := h1r.cell (j := 2) rfl
        have c3 := h1r.cell (j := 3) rfl
        have c2d : wr.drew.cell? ⟨b, 2, none⟩ = some (.int .i64 E.acked) := c2
        have c3d : wr.drew.cell? ⟨b, 3, none⟩ = some (.int .i64 E.got) := c3
        have hdl : E.waiting[k].length ≤ 70368744177664 := hwm _ (List.getElem_mem _)
        obtain ⟨m, hm⟩ : ∃ m, E.waiting[k] = m := ⟨_, rfl⟩
        have HMM := Lib.hid hm
        rw [hm] at hd hdr hdl hcell
        obtain ⟨ps, hr, hp⟩ := hrow
        rw [pktsFrom_length] at hr
        obtain ⟨q, hq⟩ : ∃ q, (E.waiting.take k).length = q := ⟨_, rfl⟩
        have hqk : q = k := by rw [← hq]; simp; omega
        rw [hq, hqk] at hr
        have HR := Lib.hid hr
        have HP := Lib.hid hp
        have HD := Lib.hid hdr
        have H1R := Lib.hid h1r
        have HST := Lib.hid hst
        clear hv hd hs hq hqk hr hp hdr hm h1r hst hmax
        go_wp2
        have wr1 := IntWalk.i64_in ((E.acked : Int) + k) (by omega)
        have wr2 := IntWalk.i64_in ((E.acked : Int) + k + 1) (by omega)
        go_region_held3 (fun W => W.cell? ⟨b, 2, none⟩ = some (.int .i64 E.acked) ∧ W.cell? ⟨b, 3, none⟩ = some (.int .i64 E.got)) (constructor <;> first | assumption | exact k4 _ | exact k5 _ | go_keep)
          (first
           | (go_at_call 87; (with_reducible refine (clone_any a c m _ (HD.out.slice.below (Below.drew (Below.refl _ wr))) (by omega)).mono ?_); rintro e w1 ⟨v1, rfl, hown1, hb1⟩
              obtain ⟨a1, c1, rfl, hd1⟩ := Dat.ofRow (l := f k) (o := o1) (f := byteV) hown1
              have hs1 : Step (fun _ => False) wr o1 w1 (newLab wr o1 (f k)) := Step.below ((Below.drew (Below.refl _ wr)).trans hb1) fun k hk => newLab_old _ _ _ hk
              have H11 := H1R.out.step hs1 (fun h => h)
              have H21 := HR.out.step hs1 (fun h => h)
              have k2 := H11.cell (j := 2) rfl
              have k3 := H11.cell (j := 3) rfl
              have H11a := fun ob => H11.step ((Step.refl (fun _ => False) w1 (newLab wr o1 (f k))).alloc ob) (fun h => h)
              have k4 := fun ob => (H11a ob).cell (j := 2) rfl
              have k5 := fun ob => (H11a ob).cell (j := 3) rfl
              clear H11a)
           | (refine step_append_row (by rfl) (.tmp 27) (.tmp 42) 110 (by rfl) elemP (by rfl) H21 ((Below.refl _ w1).alloc (Nat.le_refl _) _) (some ⟨w1.heap.size, 0, none⟩) 1 1 [.int .i64 (E.acked + k + 1), .int .i64 E.got, .slice a1 m.length c1] (by rfl) (row_new (cs := [.int .i64 (E.acked + k + 1), .int .i64 E.got, .slice a1 m.length c1]) (by simp) (by omega)) (by simp [Value.oneCell']) (by omega) (by omega) ?_; intro v' w2 hrow2 hs2
              have H12 := H11.step hs2 (fun e => hl (by rw [← e]; exact Own.at0 i))
              have k2 := H12.cell (j := 2) rfl
              have k3 := H12.cell (j := 3) rfl))
        clear wr1 wr2
        go_wp2
        go_roundw
        case rel =>
          have hst2 : Step (· = l) w o w2 (newLab w1 (newLab wr o1 (f k)) l) := (HST.out.trans (hs1.mono fun _ h => h.elim)).trans hs2
          refine ⟨k + 1, _, _, by omega, by go_num, rfl, hst2, ps ++ [(((E.acked : Int) + k + 1, (E.got : Int), Value.slice a1 m.length c1) : Int × Int × Value)], ?_, ?_⟩
          · rw [pktsFrom_length, pcells_snoc]
            have : (E.waiting.take (k + 1)).length = k + 1 := by rw [List.length_take]; have := HNW.out; omega
            rw [this]
            exact hrow2
          · have e1 : E.waiting.take (k + 1) = E.waiting.take k ++ [m] := by rw [List.take_succ_eq_append_getElem hkl, HMM.out]
            have e2 : (E.waiting.take k).length = k := by rw [List.length_take]; omega
            have e3 := HP.out.1
            rw [pktsFrom_length, e2] at e3
            rw [e1, pktsFrom_snoc, e2]
            have hp2 := (HP.out.step hs1 (fun _ _ h => h)).step hs2 (fun j _ => hfl j)
            have := hp2.snoc (x := E.acked + k + 1) (y := E.got) (v := .slice a1 m.length c1) (m := m) (by rw [e3]; exact PMsg.step ⟨_, _, rfl, hd1, fun hp b off ha j => by subst ha; exact own_thaw hown1 (by simpa using hp) j⟩ hs2 (hfl k))
            simpa using this
        case measure => simp [intOf]; omega
      · obtain rfl : k = n := by omega
        have hE1 := hE0.step hst (fun e => hl0 e.symm) (fun x hx e => hl (by rw [← e]; exact hx))
        have h1r := H1.out.step hst (fun e => hl (by rw [← e]; exact Own.at0 i))
        have c3 := h1r.cell (j := 3) rfl
        have c5 := h1r.cell (j := 5) rfl
        have f5 := h1r.frozen 5
        have hlen : (pktsFrom E.got E.acked (E.waiting.take k)).length = k := by rw [pktsFrom_length, List.length_take]; have := HNW.out; omega
        obtain ⟨ps, hr, hp⟩ := hrow
        rw [hlen] at hr
        obtain ⟨a3, c3', rfl⟩ := hr.form
        have HR := Lib.hid hr
        have HP := Lib.hid hp
        have HL := Lib.hid hlen
        have HE1 := Lib.hid hE1
        have HST := Lib.hid hst
        have H1R := Lib.hid h1r
        clear hr hp hlen hE1 hst h1r hE0
        have hq : outP E = if k = 0 ∧ E.owing = true then [⟨0, E.got, []⟩] else pktsFrom E.got E.acked (E.waiting.take k) := by
          obtain ⟨z, rfl, hz⟩ := HTK.out
          unfold outP
          rw [hz, List.length_take, show min k z.waiting.length = k from by have := HNW.out; omega]
        have HQ := Lib.hid hq
        clear hq
        by_cases hk0 : k = 0
        · have hps : ps = [] := List.eq_nil_of_length_eq_zero (by have := HP.out.1; rw [HL.out, hk0] at this; exact this)
          subst hps
          have hk0' : ((k : Int) == 0) = true := by simpa using hk0
          have HK := Lib.hid hk0
          clear hk0
          cases ho : E.owing with
          | false =>
            have HO := Lib.hid ho
            rw [ho] at c5
            clear ho
            go_wp2
            go_ret
            have hS := HE1.out.owe hi false
            refine ⟨_, rfl, o1, (HST.out.mono fun x h => .inr h).trans (hS.1.mono fun x h => .inl (by rw [h]; exact Own.at0 i)), hS.2, ?_⟩
            rw [HQ.out, if_neg (fun h => by rw [HO.out] at h; exact absurd h.2 (by decide))]
            exact ⟨[], by rw [HL.out]; exact HR.out.step hS.1 (fun e => hl (by rw [e]; exact Own.at0 i)), HP.out.step hS.1 (fun j _ e => hf j (by rw [e]; exact Own.at0 i))⟩
          | true =>
            have HO := Lib.hid ho
            rw [ho] at c5
            clear ho
            go_wp2_with (at_builtin; refine wpList_append_row rfl _ _ 110 rfl elemP rfl HR.out ((Below.refl _ wr).alloc (Nat.le_refl _) _) (some ⟨wr.heap.size, 0, none⟩) 1 1 [.int .i64 0, .int .i64 E.got, .slice none 0 0] rfl (row_new (cs := [.int .i64 0, .int .i64 E.got, .slice none 0 0]) (by simp) (by omega)) (by simp [Value.oneCell']) (by omega) (by omega) ?_)
            intro v' w2 hrow2 hs2
            obtain ⟨a4, c4, rfl⟩ := hrow2.form
            have hE2 := HE1.out.step hs2 (fun e => hl0 e.symm) (fun x hx e => hl (by rw [← e]; exact hx))
            have f52 := (H1R.out.step hs2 (fun e => hl (by rw [← e]; exact Own.at0 i))).frozen 5
            have c52 := (H1R.out.step hs2 (fun e => hl (by rw [← e]; exact Own.at0 i))).cell (j := 5) rfl
            have HE2 := Lib.hid hE2
            have HR2 := Lib.hid hrow2
            have HS2 := Lib.hid hs2
            clear hE2 hrow2 hs2
            go_wp2
            go_ret
            have hS := HE2.out.owe hi false
            refine ⟨_, rfl, _, ((HST.out.trans HS2.out).mono fun x h => .inr h).trans (hS.1.mono fun x h => .inl (by rw [h]; exact Own.at0 i)), hS.2, ?_⟩
            rw [HQ.out, if_pos ⟨HK.out, HO.out⟩]
            have HR2 := HR2.out
            have hk1 : k + 1 = ([⟨0, E.got, []⟩] : List Pkt).length := by rw [HK.out]; rfl
            refine ⟨[(0, E.got, .slice none 0 0)], by rw [← hk1]; exact HR2.step hS.1 (fun e => hl (by rw [e]; exact Own.at0 i)), rfl, fun j p q h1 h2 => ?_⟩
            cases j with
            | zero =>
              simp at h1 h2
              subst h1
              subst h2
              exact ⟨rfl, rfl, none, 0, rfl, Dat.nil byteV _ _ _, fun h => absurd h (by simp)⟩
            | succ j => simp at h1
        · have hk0' : ((k : Int) == 0) = false := by simpa using hk0
          go_wp2
          go_ret
          have hS := HE1.out.owe hi false
          refine ⟨_, rfl, o1, (HST.out.mono fun x h => .inr h).trans (hS.1.mono fun x h => .inl (by rw [h]; exact Own.at0 i)), hS.2, ?_⟩
          rw [HQ.out, if_neg (fun h => hk0 h.1)]
          exact ⟨ps, by rw [HL.out]; exact HR.out.step hS.1 (fun e => hl (by rw [e]; exact Own.at0 i)), HP.out.step hS.1 (fun j _ e => hf j (by rw [e]; exact Own.at0 i))⟩
end Go.Proofs.Ytaonhmdifinadaa
