/-
  The walk of the law EditMap.
-/
import Derived.Test.YtpncjgcdiomloaaEdQ
namespace Go.Proofs.Ytpncjgcdiomloaa
open Go Go.Proofs
open Go.RowKit
set_option linter.unusedVariables false
set_option linter.unusedSimpArgs false

/-- A block that holds a row of edits. -/
def BlkEds (w : World) (g cap : Nat) (es : List Ed) : Prop := ∃ cur : Array Value, w.heap[g]? = some (.cells cur 39 (0, 0)) ∧ cur.toList.take (es.length * 3) = edCs es ∧ es.length ≤ cap ∧ cap ≤ 9223372036854775807 ∧ es.length * 3 ≤ cur.size
theorem OwnEds.blk {w : World} {base : Nat} {a : Option Addr} {n cap : Nat} {es : List Ed} (h : OwnEds w base (.slice a n cap) es) (hp : 0 < es.length) : ∃ g, a = some ⟨g, 0, none⟩ ∧ base ≤ g ∧ BlkEds w g cap es := by
  rcases h.2 with ⟨_, hz⟩ | ⟨g, cap', cur, hv, hg, hgg, hc, hm, hs, ht⟩
  · omega
  · simp only [Value.slice.injEq] at hv
    obtain ⟨rfl, _, rfl⟩ := hv
    exact ⟨g, rfl, hg, cur, hgg, ht, hc, by simpa [maxLen] using hm, by rw [hs]; omega⟩
section
variable {w w' : World} {g cap : Nat} {es : List Ed}
theorem BlkEds.at (h : BlkEds w g cap es) : EdsAt w (some ⟨g, 0, none⟩) cap es := by
  obtain ⟨cur, hg, ht, hc, hm, hs⟩ := h
  refine ⟨edCs_len es, hc, hm, by simp, fun hp => ⟨g, 0, rfl, fun i v hi => ?_⟩⟩
  rw [Nat.zero_add, cell_of_row w g i cur _ (0, 0) hg]
  have hlt := (List.getElem?_eq_some_iff.1 hi).1
  rw [edCs_len] at hlt
  have e2 : (cur.toList.take (es.length * 3))[i]? = some v := by rw [ht]; exact hi
  rw [List.getElem?_take, if_pos hlt] at e2
  simpa using e2
theorem BlkEds.lt (h : BlkEds w g cap es) : g < w.heap.size := by obtain ⟨cur, hg, _⟩ := h; exact lt_of_block hg
theorem BlkEds.frozen (h : BlkEds w g cap es) (j : Nat) : w.frozen? ⟨g, j, none⟩ = false := by
  obtain ⟨cur, hg, _⟩ := h
  simp [World.frozen?, hg]
theorem BlkEds.below (h : BlkEds w g cap es) (hb : Below w.heap.size w w') : BlkEds w' g cap es := by
  have hlt := h.lt
  obtain ⟨cur, hg, rest⟩ := h
  exact ⟨cur, by rw [hb.block g hlt]; exact hg, rest⟩
theorem BlkEds.set {es' : List Ed} (h : BlkEds w g cap es) {q : Nat} {v : Value} (hq : q < es.length * 3) (hl : es'.length = es.length) (he : (edCs es).set q v = edCs es') : BlkEds (w.setCell ⟨g, q, none⟩ v) g cap es' := by
  have hlt := h.lt
  obtain ⟨cur, hg, ht, hc, hm, hs⟩ := h
  have hh : w.heap[g] = .cells cur 39 (0, 0) := by simpa [Array.getElem?_eq_getElem hlt] using hg
  refine ⟨cur.setIfInBounds q v, ?_, ?_, by omega, hm, by rw [Array.size_setIfInBounds]; omega⟩
  · show (w.heap.modify g _)[g]? = _
    rw [Array.getElem?_eq_getElem (by simpa using hlt), Array.getElem_modify_self, hh]
    simp
  · rw [hl, Array.toList_setIfInBounds, List.take_set, ht, he]
end
theorem edCs_set : ∀ {es : List Ed} {k : Nat} {e : Ed}, es[k]? = some e →
    (∀ f, (edCs es).set (k * 3) (.int .i64 f) = edCs (es.set k ⟨f, e.t, e.x⟩)) ∧ (∀ t, (edCs es).set (k * 3 + 1) (.int .i64 t) = edCs (es.set k ⟨e.f, t, e.x⟩))
  | [], k, e, h => by simp at h
  | x :: es, 0, e, h => by simp at h; subst h; exact ⟨fun f => rfl, fun t => rfl⟩
  | x :: es, k + 1, e, h => by
    obtain ⟨h1, h2⟩ := edCs_set (es := es) (k := k) (by simpa using h)
    have e1 : ∀ (y : Ed) (l : List Ed), edCs (y :: l) = .int .i64 y.f :: .int .i64 y.t :: .string (strB y.x) :: edCs l := fun _ _ => rfl
    refine ⟨fun f => ?_, fun t => ?_⟩
    · rw [List.set_cons_succ, e1, e1, show (k + 1) * 3 = k * 3 + 1 + 1 + 1 by omega, List.set_cons_succ, List.set_cons_succ, List.set_cons_succ, h1]
    · rw [List.set_cons_succ, e1, e1, show (k + 1) * 3 + 1 = k * 3 + 1 + 1 + 1 + 1 by omega, List.set_cons_succ, List.set_cons_succ, List.set_cons_succ, h2]
def EdV (e : Ed) : Prop := -9223372036854775808 ≤ e.f ∧ e.f ≤ 9223372036854775807 ∧ -9223372036854775808 ≤ e.t ∧ e.t ≤ 9223372036854775807 ∧ e.x.length ≤ 8
def bigI : Int := 1099511627776
def bdI (n : Int) : Int := aroundI n (2 * bigI + 1) - bigI
theorem bdI_b (n : Int) : -4398046511104 ≤ bdI n ∧ bdI n ≤ 4398046511104 := by
  have h1 := aroundI_lo n (2 * bigI + 1) (by decide)
  have h2 := aroundI_hi n (2 * bigI + 1) (by decide)
  unfold bdI
  unfold bigI at *
  omega
theorem bd_any (n : Int) (w : World) (h3 : -9223372036854775808 ≤ n) (h4 : n ≤ 9223372036854775807) :
    Calls Try.prog 23 #[.int .i64 n, .int .i64 1099511627776] w fun e w' => e = .returned (.int .i64 (bdI n)) ∧ w = w' := bound_any n 1099511627776 w (by decide) (by decide) h3 h4
/-- After rounds, the first k have bounds. -/
def Bnd (k : Nat) (es : List Ed) : Prop := (∀ e ∈ es, EdV e) ∧ ∀ i e, i < k → es[i]? = some e → EdM e

set_option maxRecDepth 100000 in
set_option maxHeartbeats 8000000 in
theorem editMap_walk (s : ByteArray) (a2 : Option Addr) (c2 : Nat) (xs : List Int) (a : Option Addr) (c : Nat) (es : List Ed) (ofs : Int) (after : Bool) (w : World) (hs : s.size ≤ 9223372036854775807) (hn : SliceAt w a2 c2 (xs.map intV)) (hnb : ∀ n ∈ xs, -9223372036854775808 ≤ n ∧ n ≤ 9223372036854775807) (hx : EdsAt w a c es) (hw : ∀ e ∈ es, EdW e) (ho : -9223372036854775808 ≤ ofs ∧ ofs ≤ 9223372036854775807) :
    Calls Try.prog 5 #[.string s, .slice a2 xs.length c2, .slice a es.length c, .int .i64 ofs, .bool after] w fun e w' => e = .returned (.bool true) ∧ Below w.heap.size w w' := by
  have K1 := Lib.hid (short_any s 40 w hs (by decide))
  have K2 := Lib.hid fun W (hW : Below w.heap.size w W) => fewEd_any a c es 6 W (hx.below hW) (by decide) fun e he => (hw e he).2.2.2.2
  have hfs := size_extract0 s 40
  have K3 := Lib.hid (raw_any (s.extract 0 40) a2 c2 xs w (by omega) hn hnb)
  have KA := Lib.hid fun W => around_any ofs 48 W (by decide) (by decide) ho.1 ho.2
  have KB := Lib.hid fun W => bd_any ofs W ho.1 ho.2
  have b1 := aroundI_lo ofs 48 (by decide)
  have b2 := aroundI_hi ofs 48 (by decide)
  have b3 := bdI_b ofs
  have hfv : ∀ e ∈ fewL es 6, EdV e := by
    intro e he
    have h8 := few_x e he
    unfold fewL at he
    obtain ⟨x, hx1, rfl⟩ := List.mem_map.1 he
    have h9 := hw x (List.mem_of_mem_take hx1)
    exact ⟨h9.1, h9.2.1, h9.2.2.1, h9.2.2.2.1, h8⟩
  have HFV := Lib.hid hfv
  have hfl := few_len es 6
  generalize fewL es 6 = fs at *
  generalize aroundI ofs 48 = ra at *
  generalize bdI ofs = far at *
  generalize s.extract 0 40 = t at *
  clear hx hw hn hnb ho hfv
  go_enter Try.func5, Try.ntmps5
  go_wp2_with fail
  refine K1.out.mono ?_
  rintro e w1 ⟨rfl, rfl⟩
  go_wp2_with fail
  refine K3.out.mono ?_
  rintro e w1 ⟨bx, dx, gs, rfl, hg, hat, hb1⟩
  have hgm : ∀ e ∈ gs, EdM e := by
    intro e he
    have h7 := hg.2.2 e he
    have : ∀ (l : List Ed) (q : Nat), Snd t.size q l → ∀ e ∈ l, 0 ≤ e.f ∧ e.f ≤ t.size ∧ 0 ≤ e.t ∧ e.t ≤ t.size := by
      intro l
      induction l with
      | nil => intro q _ e he; simp at he
      | cons x l ih =>
        intro q hq e he
        obtain ⟨g1, g2, g3, g4⟩ := hq
        rcases List.mem_cons.1 he with rfl | he
        · omega
        · exact ih _ g4 e he
    have := this gs 0 hg.1 e he
    unfold EdM
    omega
  have HAT := Lib.hid hat
  have HGM := Lib.hid hgm
  clear hat hgm hg K3 K1
  go_wp2_with fail
  refine (K2.out w1 hb1).mono ?_
  rintro e w2 ⟨v2, rfl, ho2, hb2⟩
  obtain ⟨a13, c13, rfl, hat2⟩ := ho2.at
  have hmx := hat2.max
  have hcap := hat2.le
  have HO2 := Lib.hid ho2
  have HA2 := Lib.hid hat2
  clear ho2 hat2 K2
  go_wp2_with fail
  refine (KA.out w2).mono ?_
  rintro e w3 ⟨rfl, rfl⟩
  go_wp2_with (go_at_call 23; (with_reducible refine (KB.out _).mono ?_); rintro e w3 ⟨rfl, rfl⟩)
  go_loopw [16] (fun iv wr => ∃ (k : Nat) (cur : List Ed), k ≤ fs.length ∧ iv = .int .i64 k ∧ Hid (cur.length = fs.length) ∧ Hid (Bnd k cur) ∧ Hid (EdsAt wr a13 c13 cur ∧ (0 < fs.length → ∃ g, a13 = some ⟨g, 0, none⟩ ∧ w1.heap.size ≤ g ∧ BlkEds wr g c13 cur)) ∧ Below w1.heap.size w1 wr) (fun iv _ => fs.length - (intOf iv).toNat)
  case atStart => exact ⟨0, fs, by omega, rfl, rfl, ⟨HFV.out, fun i e h => by omega⟩, ⟨HA2.out, fun h => HO2.out.blk h⟩, hb2⟩
  case round =>
    obtain ⟨k, cur, hk, rfl, hcl, hbd, hrow, hB⟩ := hrel
    by_cases hlt : k < fs.length
    · obtain ⟨g, rfl, hgb, hblk⟩ := hrow.out.2 (by omega)
      have hclk : k < cur.length := by rw [hcl.out]; exact hlt
      obtain ⟨e, he⟩ : ∃ e, cur[k]? = some e := ⟨cur[k], List.getElem?_eq_getElem hclk⟩
      have hev := hbd.out.1 e (List.mem_of_getElem? he)
      obtain ⟨c0, c1, c2⟩ := hblk.at.cells he
      obtain ⟨s0, s1⟩ := edCs_set he
      have hblk1 := hblk.set (q := k * 3) (by omega) (by simp) (s0 (bdI e.f))
      have he1 : (cur.set k ⟨bdI e.f, e.t, e.x⟩)[k]? = some ⟨bdI e.f, e.t, e.x⟩ := by rw [List.getElem?_set_self hclk]
      obtain ⟨d0, d1, d2⟩ := hblk1.at.cells he1
      obtain ⟨_, s2⟩ := edCs_set he1
      have hblk2 := hblk1.set (q := k * 3 + 1) (by simp; omega) (by simp) (s2 (bdI e.t))
      have q0 := hblk.frozen (k * 3)
      have q1 := hblk1.frozen (k * 3 + 1)
      rw [Nat.zero_add] at c0 c1 c2 d0 d1 d2
      have hbf := bdI_b e.f
      have hbt := bdI_b e.t
      have hfin : Bnd (k + 1) ((cur.set k ⟨bdI e.f, e.t, e.x⟩).set k ⟨bdI e.f, bdI e.t, e.x⟩) := by
        rw [List.set_set]
        have hnew : EdV ⟨bdI e.f, bdI e.t, e.x⟩ := ⟨by show (-9223372036854775808 : Int) ≤ bdI e.f; omega, by show bdI e.f ≤ (9223372036854775807 : Int); omega, by show (-9223372036854775808 : Int) ≤ bdI e.t; omega, by show bdI e.t ≤ (9223372036854775807 : Int); omega, hev.2.2.2.2⟩
        refine ⟨fun x hx => ?_, fun i x hi hx => ?_⟩
        · rcases List.mem_or_eq_of_mem_set hx with h | rfl
          · exact hbd.out.1 x h
          · exact hnew
        · by_cases hik : i = k
          · subst hik
            rw [List.getElem?_set_self hclk, Option.some.injEq] at hx
            subst hx
            exact ⟨hbf.1, hbf.2, hbt.1, hbt.2, by have := hev.2.2.2.2; show e.x.length ≤ 1000000; omega⟩
          · rw [List.getElem?_set_ne (fun h => hik h.symm)] at hx
            exact hbd.out.2 i x (by omega) hx
      have KF := Lib.hid fun W => bd_any e.f W hev.1 hev.2.1
      have KT := Lib.hid fun W => bd_any e.t W hev.2.2.1 hev.2.2.2.1
      have HB2 := Lib.hid hblk2
      have HFIN := Lib.hid hfin
      have hbel := (hB.setCell (p := ⟨g, k * 3, none⟩) hgb (.int .i64 (bdI e.f))).setCell (p := ⟨g, k * 3 + 1, none⟩) hgb (.int .i64 (bdI e.t))
      have HBEL := Lib.hid hbel
      have l1 : k < c13 := by omega
      generalize bdI e.f = nf at *
      generalize bdI e.t = nt at *
      generalize e.f = ef at *
      generalize e.t = et at *
      clear hblk hblk1 hblk2 s0 s1 s2 he he1 hev hfin hbel hrow hbd c2 d0 d2
      go_wp2_with (first | (go_at_call 23; (with_reducible refine (KF.out _).mono ?_); rintro e w3 ⟨rfl, rfl⟩) | (go_at_call 23; (with_reducible refine (KT.out _).mono ?_); rintro e w3 ⟨rfl, rfl⟩))
      go_roundw
      case rel => exact ⟨k + 1, _, by omega, by go_num, Lib.hid (by rw [List.length_set, List.length_set]; exact hcl.out), HFIN.out, ⟨HB2.out.at, fun _ => ⟨g, rfl, hgb, HB2.out⟩⟩, HBEL.out⟩
      case measure => simp [intOf]; omega
    · have hk2 : k = fs.length := by omega
      have hcm : ∀ e ∈ cur, EdM e := by
        intro e he
        obtain ⟨i, hi⟩ := List.getElem?_of_mem he
        have := (List.getElem?_eq_some_iff.1 hi).1
        rw [hcl.out] at this
        exact hbd.out.2 i e (by omega) hi
      have HROW := Lib.hid hrow.out.1
      have hcl2 := hcl.out
      have KX := Lib.hid fun W (hW : Below wr.heap.size wr W) o (h : -4398046511104 ≤ o ∧ o ≤ 4398046511104) => Map_any bx dx gs o after W ((HAT.out.below hB).below hW) h HGM.out
      have KY := Lib.hid fun W (hW : Below wr.heap.size wr W) o (h : -4398046511104 ≤ o ∧ o ≤ 4398046511104) => rMap_any bx dx gs o after W ((HAT.out.below hB).below hW) h HGM.out
      have kx := fun W (hW : Below wr.heap.size wr W) o (h : -4398046511104 ≤ o ∧ o ≤ 4398046511104) => Map_any a13 c13 cur o after W (HROW.out.below hW) h hcm
      have ky := fun W (hW : Below wr.heap.size wr W) o (h : -4398046511104 ≤ o ∧ o ≤ 4398046511104) => rMap_any a13 c13 cur o after W (HROW.out.below hW) h hcm
      rw [hcl2] at kx ky
      have KX2 := Lib.hid kx
      have KY2 := Lib.hid ky
      clear kx ky hcl2 hcm hrow hbd hcl HAT HGM HA2 HO2 HFV HROW
      have hB01 := Below.step hb1 hB
      have z1 : mapX gs (ra - 2) after = mapX gs (ra - 2) after := rfl
      clear z1
      go_wp2_with fail
      refine (KX.out wr (Below.refl _ _) (ra - 2) (by omega)).mono ?_
      rintro e w3 ⟨rfl, h3⟩
      go_wp2_with fail
      refine (KY.out w3 h3 (ra - 2) (by omega)).mono ?_
      rintro e w4 ⟨rfl, h4⟩
      have h4 := Below.step h3 h4
      generalize mapX gs (ra - 2) after = m1
      have n1 : (m1 != m1) = false := by simp
      go_wp2_with fail
      refine (KX.out w4 h4 far b3).mono ?_
      rintro e w5 ⟨rfl, h5⟩
      have h5 := Below.step h4 h5
      go_wp2_with fail
      refine (KY.out w5 h5 far b3).mono ?_
      rintro e w6 ⟨rfl, h6⟩
      have h6 := Below.step h5 h6
      generalize mapX gs far after = m2
      have n2 : (m2 != m2) = false := by simp
      go_wp2_with fail
      refine (KX2.out w6 h6 far b3).mono ?_
      rintro e w7 ⟨rfl, h7⟩
      have h7 := Below.step h6 h7
      go_wp2_with fail
      refine (KY2.out w7 h7 far b3).mono ?_
      rintro e w8 ⟨rfl, h8⟩
      have h8 := Below.step h7 h8
      generalize mapX cur far after = m3
      have n3 : (m3 == m3) = true := by simp
      go_wp2_with fail
      refine (KX2.out w8 h8 (ra - 2) (by omega)).mono ?_
      rintro e w9 ⟨rfl, h9⟩
      have h9 := Below.step h8 h9
      go_wp2_with fail
      refine (KY2.out w9 h9 (ra - 2) (by omega)).mono ?_
      rintro e w10 ⟨rfl, h10⟩
      have h10 := Below.step h9 h10
      generalize mapX cur (ra - 2) after = m4
      have n4 : (m4 == m4) = true := by simp
      go_wp2_with fail
      refine (lives_any w10).mono ?_
      rintro e w11 ⟨rfl, h11⟩
      go_wp2_with fail
      go_ret
      exact ⟨rfl, Below.step hB01 (Below.step h10 h11)⟩
end Go.Proofs.Ytpncjgcdiomloaa
