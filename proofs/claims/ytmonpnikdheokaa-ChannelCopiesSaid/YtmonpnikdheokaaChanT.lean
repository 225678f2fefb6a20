/-
  The law ChannelCopies.
-/
import Derived.Test.YtmonpnikdheokaaChanP
import Derived.Test.YtmonpnikdheokaaChanS
import Derived.Deep.DeepCutAuto
import Derived.StillTailTactics
import Derived.IntWalk
namespace Go.Proofs.Ytmonpnikdheokaa
open Go Go.Proofs
open Go.RowKit
set_option linter.unusedVariables false
set_option linter.unusedSimpArgs false

theorem Dat.one {w : World} {o : Nat → Nat} {l : Nat} {a : Option Addr} {c : Nat} {x : UInt8} (h : Dat w o l a c ([x].map byteV)) : ∃ b off, a = some ⟨b, off, none⟩ ∧ w.cell? ⟨b, off, none⟩ = some (byteV x) ∧ o b = l := by
  obtain ⟨b, off, rfl, hc⟩ := h.1.2.2.2 (by simp)
  exact ⟨b, off, rfl, hc 0 _ rfl, h.2 (by simp) b off rfl⟩
/-- A row of packets whose messages from number i on stand. -/
def PFrom (w : World) (o f : Nat → Nat) (l : Nat) (v : Value) (qs : List Pkt) (i : Nat) : Prop :=
  ∃ ps, RowL w o l 44 3 v qs.length (pcells ps) ∧ ps.length = qs.length ∧ ∀ (j : Nat) p q, i ≤ j → ps[j]? = some p → qs[j]? = some q → p.1 = q.seq ∧ p.2.1 = q.ack ∧ PMsg w o (f j) p.2.2 q.b
theorem PFrom.of {w : World} {o f : Nat → Nat} {l : Nat} {v : Value} {qs : List Pkt} (h : PRow w o f l v qs) : PFrom w o f l v qs 0 := by
  obtain ⟨ps, h1, h2⟩ := h
  exact ⟨ps, h1, h2.1, fun j p q _ => h2.2 j p q⟩
theorem PFrom.step {L : Nat → Prop} {w w' : World} {o o' f : Nat → Nat} {l : Nat} {v : Value} {qs : List Pkt} {i i' : Nat} (h : PFrom w o f l v qs i) (hs : Step L w o w' o') (hl : ¬ L l) (hi : i ≤ i') (h0 : ∀ j, i' ≤ j → ¬ L (f j)) : PFrom w' o' f l v qs i' := by
  obtain ⟨ps, h1, h2, h3⟩ := h
  exact ⟨ps, h1.step hs hl, h2, fun j p q hj e1 e2 => ⟨(h3 j p q (by omega) e1 e2).1, (h3 j p q (by omega) e1 e2).2.1, (h3 j p q (by omega) e1 e2).2.2.step hs (h0 j hj)⟩⟩
theorem PFrom.at {w : World} {o f : Nat → Nat} {l n c i : Nat} {a : Option Addr} {qs : List Pkt} (h : PFrom w o f l (.slice a n c) qs i) {j : Nat} (hj : i ≤ j) {q : Pkt} (hq : qs[j]? = some q) :
    ∃ g ma mc, a = some ⟨g, 0, none⟩ ∧ n = qs.length ∧ n ≤ c ∧ w.cell? ⟨g, j * 3, none⟩ = some (.int .i64 q.seq) ∧ w.cell? ⟨g, j * 3 + 1, none⟩ = some (.int .i64 q.ack) ∧ w.cell? ⟨g, j * 3 + 2, none⟩ = some (.slice ma q.b.length mc) ∧ Dat w o (f j) ma mc (q.b.map byteV) ∧
      (0 < q.b.length → ∀ b off, ma = some ⟨b, off, none⟩ → ∀ k, w.frozen? ⟨b, k, none⟩ = false) := by
  obtain ⟨ps, h1, h2, h3⟩ := h
  obtain ⟨a', c', he, h4, h5, h6, h7⟩ := h1.cells
  simp only [Value.slice.injEq] at he
  obtain ⟨rfl, rfl, rfl⟩ := he
  have hjl := (List.getElem?_eq_some_iff.1 hq).1
  obtain ⟨g, rfl, _, hlt, hc, _⟩ := h7 (by omega)
  have hpj : ps[j]? = some (ps[j]'(by rw [h2]; exact hjl)) := List.getElem?_eq_getElem _
  obtain ⟨e1, e2, e3⟩ := pcells_get ps j _ hpj
  obtain ⟨f1, f2, ma, mc, f3, f4, f5⟩ := h3 j _ q hj hpj hq
  refine ⟨g, ma, mc, rfl, rfl, h4, ?_, ?_, ?_, f4, f5⟩
  · rw [hc _ _ e1, f1]
  · rw [hc _ _ e2, f2]
  · rw [hc _ _ e3, f3]
theorem prL_min (W n : Nat) : prL W n 0 false = min W (n - 0) := by
  unfold prL
  by_cases h : min W (n - 0) = 0
  · rw [if_pos h, h]; rfl
  · rw [if_neg h]
theorem copies_L2 (f : Nat → Value) {k : Nat} (hk : k < 2) : [f 0, f 1][k]? = some (f k) := by
  have hk : k = 0 ∨ k = 1 := by omega
  rcases hk with rfl | rfl <;> rfl
/-- What the law's world holds: the ends, their list, the byte. -/
structure CW3 (w wr : World) (o : Nat → Nat) (b : Nat → Nat) (A B : EndS) (eb gb : Nat) : Prop where
  two : Two w wr o b (pr A B)
  es : Blk wr o 0 eb [.pointer (some ⟨b 0, 0, none⟩), .pointer (some ⟨b 1, 0, none⟩)]
  byt : ∃ x, Blk wr o 40 gb [.int .u8 x]
theorem CW3.step {L : Nat → Prop} {w wr w' : World} {o o' : Nat → Nat} {b : Nat → Nat} {A B : EndS} {eb gb : Nat} (h : CW3 w wr o b A B eb gb) (hs : Step L wr o w' o') (h0 : ∀ l, l < 30 → ¬ L l) (h4 : ¬ L 40) : CW3 w w' o' b A B eb gb := by
  obtain ⟨x, hx⟩ := h.byt
  exact ⟨h.two.step hs h0, h.es.step hs (h0 0 (by omega)), x, hx.step hs h4⟩
theorem CW3.next {L : Nat → Prop} {w wr w' : World} {o o' : Nat → Nat} {b : Nat → Nat} {A B A' B' : EndS} {eb gb : Nat} (h : CW3 w wr o b A B eb gb) (hs : Step L wr o w' o') (h0 : ¬ L 0) (h4 : ¬ L 40) (ht : Two w w' o' b (pr A' B')) : CW3 w w' o' b A' B' eb gb := by
  obtain ⟨x, hx⟩ := h.byt
  exact ⟨ht, h.es.step hs h0, x, hx.step hs h4⟩
theorem blk_one {w : World} {o : Nat → Nat} {l g i : Nat} (h : Blk w o l g [.int .u8 (i : Int)]) (hi : i < 256) : SliceAt w (some ⟨g, 0, none⟩) 1 ([UInt8.ofNat i].map byteV) := by
  refine ⟨by simp, by decide, fun h => by simp at h, fun _ => ⟨g, 0, rfl, fun j v hj => ?_⟩⟩
  have e1 : (UInt8.ofNat i).toNat = i := by rw [UInt8.toNat_ofNat']; omega
  cases j with
  | zero =>
    simp only [List.map_cons, List.map_nil, byteV, e1, List.getElem?_cons_zero, Option.some.injEq] at hj
    subst hj
    exact h.cell rfl
  | succ j => simp at hj

set_option maxRecDepth 100000 in
set_option maxHeartbeats 8000000 in
theorem channelCopies_walk (window many cut : Int) (w : World) (h0 : -9223372036854775808 ≤ window ∧ window ≤ 9223372036854775807) (h1 : -9223372036854775808 ≤ many ∧ many ≤ 9223372036854775807) (h2 : -9223372036854775808 ≤ cut ∧ cut ≤ 9223372036854775807) :
    Calls Try.prog 7 #[.int .i64 window, .int .i64 many, .int .i64 cut] w fun e w' => e = .returned (.bool true) ∧ Below w.heap.size w w' := by
  have a1 := aroundI_lo many 12 (by omega)
  have a2 := aroundI_hi many 12 (by omega)
  obtain ⟨N, hN⟩ : ∃ N : Nat, aroundI many 12 = N := ⟨(aroundI many 12).toNat, by omega⟩
  have hN12 : N < 12 := by omega
  have HN := Lib.hid hN
  obtain ⟨k, hk⟩ : ∃ k : Nat, 1 ≤ N → aroundI cut N = k ∧ k < N := by
    by_cases h : 1 ≤ N
    · have c1 := aroundI_lo cut N (by omega)
      have c2 := aroundI_hi cut N (by omega)
      exact ⟨(aroundI cut N).toNat, fun _ => ⟨by omega, by omega⟩⟩
    · exact ⟨0, fun h' => absurd h' h⟩
  have HK := Lib.hid hk
  obtain ⟨W0, hW0⟩ : ∃ x, winN window = x := ⟨_, rfl⟩
  obtain ⟨W1, hW1⟩ : ∃ x, winN (window.tdiv 16) = x := ⟨_, rfl⟩
  have w1 : 1 ≤ W0 := by rw [← hW0]; exact winN_lo _
  have w2 : W0 ≤ 16 := by rw [← hW0]; exact winN_hi _
  have HW0 := Lib.hid hW0
  have HW1 := Lib.hid hW1
  clear hN hk hW0 hW1 a1 a2
  have qn := fun (wx : World) (ad : Addr) => Lib.run_eql_slice_nil (P := Try.prog) wx 23 33 (some ad) 2 2 0 0 Try.underlying23
  go_enter Try.func7, Try.ntmps7
  go_wp2_with fail
  refine (ends_any window w h0.1 h0.2).mono ?_
  rw [HW0.out, HW1.out]
  rintro e w3 ⟨eb, b1, b2, o1, rfl, hT1, hE1⟩
  obtain ⟨b, rfl, rfl⟩ : ∃ b : Nat → Nat, b1 = b 0 ∧ b2 = b 1 := ⟨pr b1 b2, rfl, rfl⟩
  have HT1 := Lib.hid (hT1.congb (b' := b) fun k hk => by
    have hk : k = 0 ∨ k = 1 := by omega
    rcases hk with rfl | rfl <;> rfl)
  have HE1 := Lib.hid hE1
  clear hT1 hE1 HW0 HW1
  go_wp2_with fail
  refine (around_any many 12 _ (by omega) (by omega) h1.1 h1.2).mono ?_
  rw [HN.out]
  rintro e w4 ⟨rfl, rfl⟩
  obtain ⟨w4, hw4⟩ : ∃ x, x = w3.alloc (.cells #[.int .u8 0] 5) := ⟨_, rfl⟩
  obtain ⟨o4, ho4⟩ : ∃ x, newLab w3 o1 40 = x := ⟨_, rfl⟩
  have hs4 : Step (fun _ => False) w3 o1 w4 o4 := by rw [hw4, ← ho4]; exact Step.below ((Below.refl _ _).alloc (Nat.le_refl _) _) fun k hk => newLab_old _ _ _ hk
  obtain ⟨gb, hgb⟩ : ∃ g, w3.heap.size = g := ⟨_, rfl⟩
  have HC4 : Hid (CW3 w w4 o4 b (prE W0 0 0 0 false) (prE W1 0 0 0 false) eb gb) := by
    refine ⟨HT1.out.step hs4 (fun _ _ h => h), HE1.out.step hs4 (fun h => h), 0, ?_⟩
    rw [hw4, ← ho4, ← hgb]
    exact ⟨_, heap_alloc_new _ _, newLab_new _ _ _ (Nat.le_refl _)⟩
  have HW4 := Lib.hid hw4
  have HGB := Lib.hid hgb
  clear hw4 ho4 hs4 hgb HT1 HE1
  go_wp2_with fail
  rw [← HW4.out, HGB.out]
  clear HW4 HGB
  go_loopw [10, 11] (fun cu iv wr => ∃ (i : Nat) (o : Nat → Nat) (cv : Value), i ≤ N ∧ iv = .int .i64 i ∧ cu = cv ∧ Hid (CW3 w wr o b (prE W0 i 0 0 false) (prE W1 0 0 0 false) eb gb) ∧ ((i ≤ k ∧ cv = .pointer none) ∨ (k < i ∧ ∃ b3, cv = .pointer (some ⟨b3, 0, none⟩) ∧ Hid (EndAt wr o 3 b3 (prE W0 i 0 0 false))))) (fun _ iv _ => N - (intOf iv).toNat)
  case atStart => exact ⟨0, o4, _, by omega, rfl, rfl, HC4.out, .inl ⟨by omega, rfl⟩⟩
  case round =>
    clear HC4
    obtain ⟨i, o, cv, hi, rfl, hcu, HC, hcv⟩ := hrel
    have hcu2 := hcu.symm
    clear hcu
    subst hcu2
    by_cases hiN : i < N
    · have hk := HK.out (by omega)
      have ka := around_any cut N wr (by omega) (by omega) h2.1 h2.2
      rw [hk.1] at ka
      have KA := Lib.hid ka
      have hkN := hk.2
      clear hk ka
      have e1 := prE_send (W := W0) (show i < 1000 by omega)
      have E1 := Lib.hid e1
      have FT := Lib.hid (prE_fit (W := W0) (n := i) (a := 0) (g := 0) (b := false) w1 w2 (by omega) (by omega) (by omega))
      clear e1
      rcases hcv with ⟨hik, rfl⟩ | ⟨hki, b3, rfl, HE3⟩
      · by_cases hik2 : i = k
        · -- the copy is made now
          subst hik2
          have e2 : ((i : Int) == (i : Int)) = true := by simp
          go_wp2_with fail
          refine KA.out.mono ?_
          rintro e w5 ⟨rfl, rfl⟩
          clear KA
          have c0 := HC.out.es.cell (j := 0) rfl
          go_wp2_with fail
          refine (copy_any 1 3 (b 0) (prE W0 i 0 0 false) wr o (by omega) (by omega) (HC.out.two.ends 0 (by omega)) rfl (by rw [prE_wait]; omega)).mono ?_
          rintro e wa ⟨b3, rfl, oa, hs, hE3⟩
          have HCa := Lib.hid (HC.out.step hs (fun l hl h => by unfold Own at h; omega) (by unfold Own; omega))
          have HE3 := Lib.hid hE3
          clear hs hE3 HC c0 e2
          obtain ⟨x, hx⟩ := HCa.out.byt
          have xc := hx.cell (j := 0) rfl
          have xf := hx.frozen 0
          have hx2 := hx.set 0 (.int .u8 (i : Int))
          have hs2 : Step (· = 40) wa oa (wa.setCell ⟨gb, 0, none⟩ (.int .u8 (i : Int))) oa := (Step.refl _ _ _).set (p := ⟨gb, 0, none⟩) hx.lab _
          obtain ⟨w6, hw6⟩ : ∃ x, x = wa.setCell ⟨gb, 0, none⟩ (.int .u8 (i : Int)) := ⟨_, rfl⟩
          rw [← hw6] at hx2 hs2
          have HC6 : Hid (CW3 w w6 oa b (prE W0 i 0 0 false) (prE W1 0 0 0 false) eb gb) := ⟨HCa.out.two.step hs2 (fun l hl h => by omega), HCa.out.es.step hs2 (by omega), _, hx2⟩
          have HS6 := Lib.hid (blk_one hx2 (by omega))
          have HW6 := Lib.hid hw6
          have HE6 := Lib.hid (HE3.out.step hs2 (by omega) fun l hl => by unfold Own at hl; omega)
          have d0 := HC6.out.es.cell (j := 0) rfl
          clear hx hx2 hs2 hw6 HCa HE3
          go_upto_region 13 with fail
          rw [← HW6.out]
          clear xc xf HW6
          go_wp2_with fail
          refine (send_t HC6.out.two (k := 0) (n := 1000) (by omega) FT.out HS6.out).mono ?_
          rintro e w7 ⟨rfl, o7, hs7, hT7⟩
          rw [show sendE (pr (prE W0 i 0 0 false) (prE W1 0 0 0 false) 0) [UInt8.ofNat i] = prE W0 (i + 1) 0 0 false from E1.out.2] at hT7
          have HC7 := Lib.hid (HC6.out.next hs7 (by omega) (by omega) hT7.pr0)
          obtain ⟨x7, hx7⟩ := HC7.out.byt
          have HE7 := Lib.hid (HE6.out.step hs7 (by omega) fun l hl => by unfold Own at hl; omega)
          have HS7 : Hid (SliceAt w7 (some ⟨gb, 0, none⟩) 1 ([UInt8.ofNat i].map byteV)) := (Dat.step (o := oa) (l := 40) ⟨HS6.out, fun _ b off e => by cases e; exact HC6.out.byt.elim fun _ h => h.lab⟩ hs7 (by omega)).1
          clear hs7 hT7 d0 HC6 HE6 HS6 hx7
          go_wp2_with fail
          refine (send_c 3 b3 1000 (prE W0 i 0 0 false) (some ⟨gb, 0, none⟩) 1 [UInt8.ofNat i] w7 o7 (by omega) HE7.out FT.out HS7.out).mono ?_
          rintro e w8 ⟨rfl, o8, hs8, hE8⟩
          rw [E1.out.2] at hE8
          have HC8 := Lib.hid (HC7.out.step hs8 (fun l hl h => by unfold Own at h; omega) (by unfold Own; omega))
          have HE8 := Lib.hid hE8
          clear hs8 hE8 HC7 HE7 HS7 E1 FT
          go_wp2_with fail
          go_roundw
          case rel => exact ⟨i + 1, o8, _, by omega, by go_num, rfl, HC8.out, .inr ⟨by omega, b3, rfl, HE8.out⟩⟩
          case measure => simp [intOf]; omega
        · have hlt : i < k := by omega
          have e2 : ((i : Int) == (k : Int)) = false := beq_eq_false_iff_ne.2 (by omega)
          go_wp2_with fail
          refine KA.out.mono ?_
          rintro e w5 ⟨rfl, rfl⟩
          clear KA
          obtain ⟨x, hx⟩ := HC.out.byt
          have xc := hx.cell (j := 0) rfl
          have xf := hx.frozen 0
          have hx2 := hx.set 0 (.int .u8 (i : Int))
          have hs2 : Step (· = 40) wr o (wr.setCell ⟨gb, 0, none⟩ (.int .u8 (i : Int))) o := (Step.refl _ _ _).set (p := ⟨gb, 0, none⟩) hx.lab _
          obtain ⟨w6, hw6⟩ : ∃ x, x = wr.setCell ⟨gb, 0, none⟩ (.int .u8 (i : Int)) := ⟨_, rfl⟩
          rw [← hw6] at hx2 hs2
          have HC6 : Hid (CW3 w w6 o b (prE W0 i 0 0 false) (prE W1 0 0 0 false) eb gb) := ⟨HC.out.two.step hs2 (fun l hl h => by omega), HC.out.es.step hs2 (by omega), _, hx2⟩
          have HS6 := Lib.hid (blk_one hx2 (by omega))
          have HW6 := Lib.hid hw6
          have d0 := HC6.out.es.cell (j := 0) rfl
          clear hx hx2 hs2 hw6 HC
          go_upto_region 13 with fail
          rw [← HW6.out]
          clear xc xf HW6
          go_wp2_with fail
          refine (send_t HC6.out.two (k := 0) (n := 1000) (by omega) FT.out HS6.out).mono ?_
          rintro e w7 ⟨rfl, o7, hs7, hT7⟩
          rw [show sendE (pr (prE W0 i 0 0 false) (prE W1 0 0 0 false) 0) [UInt8.ofNat i] = prE W0 (i + 1) 0 0 false from E1.out.2] at hT7
          have HC7 := Lib.hid (HC6.out.next hs7 (by omega) (by omega) hT7.pr0)
          obtain ⟨x7, hx7⟩ := HC7.out.byt
          clear hs7 hT7 d0 HC6 HS6 hx7 E1 FT
          go_wp2_with fail
          go_roundw
          case rel => exact ⟨i + 1, o7, _, by omega, by go_num, rfl, HC7.out, .inl ⟨by omega, rfl⟩⟩
          case measure => simp [intOf]; omega
      · have e2 : ((i : Int) == (k : Int)) = false := beq_eq_false_iff_ne.2 (by omega)
        go_wp2_with fail
        refine KA.out.mono ?_
        rintro e w5 ⟨rfl, rfl⟩
        clear KA
        obtain ⟨x, hx⟩ := HC.out.byt
        have xc := hx.cell (j := 0) rfl
        have xf := hx.frozen 0
        have hx2 := hx.set 0 (.int .u8 (i : Int))
        have hs2 : Step (· = 40) wr o (wr.setCell ⟨gb, 0, none⟩ (.int .u8 (i : Int))) o := (Step.refl _ _ _).set (p := ⟨gb, 0, none⟩) hx.lab _
        obtain ⟨w6, hw6⟩ : ∃ x, x = wr.setCell ⟨gb, 0, none⟩ (.int .u8 (i : Int)) := ⟨_, rfl⟩
        rw [← hw6] at hx2 hs2
        have HC6 : Hid (CW3 w w6 o b (prE W0 i 0 0 false) (prE W1 0 0 0 false) eb gb) := ⟨HC.out.two.step hs2 (fun l hl h => by omega), HC.out.es.step hs2 (by omega), _, hx2⟩
        have HS6 := Lib.hid (blk_one hx2 (by omega))
        have HW6 := Lib.hid hw6
        have HE6 := Lib.hid (HE3.out.step hs2 (by omega) fun l hl => by unfold Own at hl; omega)
        have d0 := HC6.out.es.cell (j := 0) rfl
        clear hx hx2 hs2 hw6 HC HE3
        go_upto_region 13 with fail
        rw [← HW6.out]
        clear xc xf HW6
        go_wp2_with fail
        refine (send_t HC6.out.two (k := 0) (n := 1000) (by omega) FT.out HS6.out).mono ?_
        rintro e w7 ⟨rfl, o7, hs7, hT7⟩
        rw [show sendE (pr (prE W0 i 0 0 false) (prE W1 0 0 0 false) 0) [UInt8.ofNat i] = prE W0 (i + 1) 0 0 false from E1.out.2] at hT7
        have HC7 := Lib.hid (HC6.out.next hs7 (by omega) (by omega) hT7.pr0)
        obtain ⟨x7, hx7⟩ := HC7.out.byt
        have HE7 := Lib.hid (HE6.out.step hs7 (by omega) fun l hl => by unfold Own at hl; omega)
        have HS7 : Hid (SliceAt w7 (some ⟨gb, 0, none⟩) 1 ([UInt8.ofNat i].map byteV)) := (Dat.step (o := o) (l := 40) ⟨HS6.out, fun _ b off e => by cases e; exact HC6.out.byt.elim fun _ h => h.lab⟩ hs7 (by omega)).1
        clear hs7 hT7 d0 HC6 HE6 HS6 hx7
        go_wp2_with fail
        refine (send_c 3 b3 1000 (prE W0 i 0 0 false) (some ⟨gb, 0, none⟩) 1 [UInt8.ofNat i] w7 o7 (by omega) HE7.out FT.out HS7.out).mono ?_
        rintro e w8 ⟨rfl, o8, hs8, hE8⟩
        rw [E1.out.2] at hE8
        have HC8 := Lib.hid (HC7.out.step hs8 (fun l hl h => by unfold Own at h; omega) (by unfold Own; omega))
        have HE8 := Lib.hid hE8
        clear hs8 hE8 HC7 HE7 HS7 E1 FT
        go_wp2_with fail
        go_roundw
        case rel => exact ⟨i + 1, o8, _, by omega, by go_num, rfl, HC8.out, .inr ⟨by omega, b3, rfl, HE8.out⟩⟩
        case measure => simp [intOf]; omega
    · obtain rfl : i = N := by omega
      have HCV : Hid ((i = 0 ∧ cv = .pointer none) ∨ ∃ b3, cv = .pointer (some ⟨b3, 0, none⟩) ∧ Hid (EndAt wr o 3 b3 (prE W0 i 0 0 false))) := by
        rcases hcv with ⟨h1, h2⟩ | ⟨_, h⟩
        · refine .inl ⟨?_, h2⟩
          by_cases h : 1 ≤ i
          · have := (HK.out h).2; omega
          · omega
        · exact .inr h
      clear hcv hi hiN HK HN h2
      have d0 := HC.out.es.cell (j := 0) rfl
      have FT := Lib.hid (prE_fit (W := W0) (n := i) (a := 0) (g := 0) (b := false) w1 w2 (by omega) (by omega) (by omega))
      have FT2 := Lib.hid (prE_fit (W := W0) (n := i) (a := i) (g := 0) (b := false) w1 w2 (by omega) (by omega) (by omega))
      go_wp2_with fail
      refine (out_t HC.out.two (k := 0) (n := 1000) 41 (fun j => 50 + j) (by omega) FT.out (by omega) (by omega) (fun j => .inr (by omega)) (fun j => by omega)).mono ?_
      rintro e w5 ⟨v, rfl, o5, hs5, hT5, hPr⟩
      have HC5 := Lib.hid (HC.out.next hs5 (by omega) (by omega) hT5.pr0)
      have HCV5 : Hid ((i = 0 ∧ cv = .pointer none) ∨ ∃ b3, cv = .pointer (some ⟨b3, 0, none⟩) ∧ Hid (EndAt w5 o5 3 b3 (prE W0 i 0 0 false))) := by
        rcases HCV.out with h | ⟨b3, h1, h2⟩
        · exact .inl h
        · exact .inr ⟨b3, h1, h2.out.step hs5 (by omega) fun l hl => by unfold Own at hl; omega⟩
      rw [show pr (prE W0 i 0 0 false) (prE W1 0 0 0 false) 0 = prE W0 i 0 0 false from rfl] at hPr
      obtain ⟨qs, hqs⟩ : ∃ qs, outP (prE W0 i 0 0 false) = qs := ⟨_, rfl⟩
      rw [hqs] at hPr
      have hqL : qs.length = prL W0 i 0 false := by rw [← hqs]; exact prE_len _ _ _ _ _
      obtain ⟨L, hL⟩ : ∃ L, prL W0 i 0 false = L := ⟨_, rfl⟩
      have hLm : L = min W0 (i - 0) := by rw [← hL]; exact prL_min _ _
      have hLi : L ≤ i := by omega
      have HQ : Hid (∀ j, j < L → qs[j]? = some ⟨(j : Int) + 1, 0, [UInt8.ofNat j]⟩) := fun j hj => by
        have := prE_pkt (W := W0) (n := i) (a := 0) (g := 0) (b := false) (i := j) (by omega) (by omega)
        rw [hqs, Nat.zero_add] at this
        exact this
      obtain ⟨pa, pc, rfl, hp1, hp2, -⟩ := hPr.cells
      rw [hqL, hL] at hp1 hPr ⊢
      have HPF := Lib.hid (PFrom.of hPr)
      have HQS := Lib.hid hqs
      have HQL := Lib.hid (hqL.trans hL)
      clear hs5 hT5 hPr hqs hqL hL hLm d0 HC HCV
      go_wp2_with fail
      go_loopw [13] (fun s wr => ∃ (j : Nat) (o : Nat → Nat), j ≤ L ∧ s = .int .i64 j ∧ Hid (CW3 w wr o b (prE W0 i 0 0 false) (prE W1 0 0 0 false) eb gb) ∧ Hid (PFrom wr o (fun j => 50 + j) 41 (.slice pa L pc) qs j) ∧ Hid ((i = 0 ∧ cv = .pointer none) ∨ ∃ b3, cv = .pointer (some ⟨b3, 0, none⟩) ∧ Hid (EndAt wr o 3 b3 (prE W0 i 0 0 false)))) (fun s _ => L - (intOf s).toNat)
      case atStart => exact ⟨0, o5, by omega, rfl, HC5.out, HPF.out, HCV5.out⟩
      case round =>
        clear HC5 HPF HCV5
        obtain ⟨j, o, hj, rfl, HC, HPF, HCV⟩ := hrel
        by_cases hjL : j < L
        · obtain ⟨g, ma, mc, rfl, -, hnc, -, -, e2, hd, hth⟩ := HPF.out.at (Nat.le_refl j) (HQ.out j hjL)
          obtain ⟨mb, off, rfl, hmc, hml⟩ := Dat.one hd
          have mf := hth (by simp) mb off rfl off
          have e1 : (UInt8.ofNat j).toNat = j := by rw [UInt8.toNat_ofNat']; omega
          unfold byteV at hmc
          rw [e1] at hmc
          simp only [List.length_cons, List.length_nil, Nat.zero_add] at e2
          have z1 : (j : Int) < (L : Int) := by omega
          have z2 : (0 : Int) ≤ (j : Int) := by omega
          obtain ⟨w6, hw6⟩ : ∃ x, x = wr.setCell ⟨mb, off, none⟩ (.int .u8 99) := ⟨_, rfl⟩
          have hs6 : Step (· = 50 + j) wr o w6 o := by rw [hw6]; exact (Step.refl _ _ _).set (p := ⟨mb, off, none⟩) hml _
          have HC6 := Lib.hid (HC.out.step hs6 (fun l hl h => by omega) (by omega))
          have HPF6 := Lib.hid (HPF.out.step hs6 (i' := j + 1) (by omega) (by omega) (fun j' hj' h => by omega))
          have HCV6 : Hid ((i = 0 ∧ cv = .pointer none) ∨ ∃ b3, cv = .pointer (some ⟨b3, 0, none⟩) ∧ Hid (EndAt w6 o 3 b3 (prE W0 i 0 0 false))) := by
            rcases HCV.out with h | ⟨b3, h1, h2⟩
            · exact .inl h
            · exact .inr ⟨b3, h1, h2.out.step hs6 (by omega) fun l hl => by unfold Own at hl; omega⟩
          have HW6 := Lib.hid hw6
          clear hd hth hml e1 hs6 hw6 HC HPF HCV
          go_wp2_with fail
          rw [← HW6.out]
          go_roundw
          case rel => exact ⟨j + 1, o, by omega, by go_num, HC6.out, HPF6.out, HCV6.out⟩
          case measure => simp [intOf]; omega
        · obtain rfl : j = L := by omega
          clear hj hjL HPF
          rcases HCV.out with ⟨rfl, rfl⟩ | ⟨b3, rfl, HE3⟩
          · clear HCV
            go_wp2_with fail
            refine (lives_any wr).mono ?_
            rintro e w7 ⟨rfl, hb7⟩
            go_wp2_with fail
            go_ret
            exact ⟨rfl, Below.step HC.out.two.below hb7⟩
          · clear HCV
            have d0 := HC.out.es.cell (j := 0) rfl
            have AK := Lib.hid (prE_in0 (W := W0) (n := i) (a := 0) (g := 0) (s := i) (b := false) (by omega) (by omega))
            go_wp2_with fail
            refine (in_t HC.out.two (k := 0) (n := 1000) ⟨0, i, []⟩ 0 42 (by omega) FT.out (by omega) (Dat.nil byteV _ _ _) (.inl rfl) (by omega) (by omega)).mono ?_
            rintro e w6 ⟨v, rfl, o6, hs6, hT6, -⟩
            rw [show inE (pr (prE W0 i 0 0 false) (prE W1 0 0 0 false) 0) ⟨0, i, []⟩ = prE W0 i i 0 false from AK.out.1] at hT6
            have HC6 := Lib.hid (HC.out.next hs6 (by omega) (by omega) hT6.pr0)
            have HE6 := Lib.hid (HE3.out.step hs6 (by omega) fun l hl => by unfold Own at hl; omega)
            clear hs6 hT6 d0 AK HC HE3
            go_wp2_with fail
            refine (out_c 3 b3 1000 (prE W0 i 0 0 false) w6 o6 43 (fun _ => 44) (by omega) HE6.out FT.out (by omega) (by unfold Own; omega) (fun _ => by unfold Own; omega) (fun _ => by omega) (by omega)).mono ?_
            rintro e w7 ⟨v, rfl, o7, hs7, hE7, hPr⟩
            rw [prE_outE] at hE7
            rw [HQS.out] at hPr
            have HC7 := Lib.hid (HC6.out.step hs7 (fun l hl h => by unfold Own at h; omega) (by unfold Own; omega))
            have HE7 := Lib.hid hE7
            have hqL : qs.length = j := HQL.out
            obtain ⟨qa, qc, rfl, hq1, hq2, -⟩ := hPr.cells
            rw [hqL] at hq1 hPr ⊢
            have HPR := Lib.hid hPr
            clear hs7 hE7 hPr hqL HC6 HE6
            go_wp2_with fail
            go_loopw [15] (fun s wr => ∃ (m : Nat) (o : Nat → Nat), m ≤ j ∧ s = .int .i64 m ∧ Hid (CW3 w wr o b (prE W0 i i 0 false) (prE W1 0 0 0 false) eb gb) ∧ Hid (PRow wr o (fun _ => 44) 43 (.slice qa j qc) qs) ∧ Hid (EndAt wr o 3 b3 (prE W0 i 0 0 false))) (fun s _ => j - (intOf s).toNat)
            case atStart => exact ⟨0, o7, by omega, rfl, HC7.out, HPR.out, HE7.out⟩
            case round =>
              clear HC7 HPR HE7
              obtain ⟨m, o, hm, rfl, HC, HPR, HE⟩ := hrel
              by_cases hmL : m < j
              · obtain ⟨g, ma, mc, rfl, -, -, e0, -, e2, hd⟩ := HPR.out.at (HQ.out m hmL)
                obtain ⟨mb, off, rfl, hmc, hml⟩ := Dat.one hd
                have e1 : (UInt8.ofNat m).toNat = m := by rw [UInt8.toNat_ofNat']; omega
                unfold byteV at hmc
                rw [e1] at hmc
                simp only [List.length_cons, List.length_nil, Nat.zero_add] at e2
                have z1 : (m : Int) < (j : Int) := by omega
                have z2 : (0 : Int) ≤ (m : Int) := by omega
                clear hd hml e1
                go_wp2_with fail
                go_roundw
                case rel => exact ⟨m + 1, o, by omega, by go_num, HC.out, HPR.out, HE.out⟩
                case measure => simp [intOf]; omega
              · obtain rfl : m = j := by omega
                have d0 := HC.out.es.cell (j := 0) rfl
                have k1 := waiting_any 3 b3 (prE W0 i 0 0 false) wr o HE.out
                rw [prE_wait, Nat.sub_zero] at k1
                have k2 := waiting_t HC.out.two (k := 0) (by omega)
                rw [show (pr (prE W0 i i 0 false) (prE W1 0 0 0 false) 0).waiting.length = 0 from by rw [show pr (prE W0 i i 0 false) (prE W1 0 0 0 false) 0 = prE W0 i i 0 false from rfl, prE_wait, Nat.sub_self]] at k2
                have K1 := Lib.hid k1
                have K2 := Lib.hid k2
                clear k1 k2 hm hmL HPR HE
                go_wp2_with fail
                refine K1.out.mono ?_
                rintro e w8 ⟨rfl, rfl⟩
                go_wp2_with fail
                refine K2.out.mono ?_
                rintro e w8 ⟨rfl, rfl⟩
                go_wp2_with fail
                refine (lives_any wr).mono ?_
                rintro e w8 ⟨rfl, hb8⟩
                go_wp2_with fail
                go_ret
                exact ⟨rfl, Below.step HC.out.two.below hb8⟩
end Go.Proofs.Ytmonpnikdheokaa
