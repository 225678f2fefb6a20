/-
  The law WireOwn.
-/
import Derived.Test.YtplhclmmmfpgeaaWireG
namespace Go.Proofs.Ytplhclmmmfpgeaa
open Go Go.Proofs
open Go.RowKit
set_option linter.unusedVariables false
set_option linter.unusedSimpArgs false

/-- A store into a row. -/
theorem RowL.set {w : World} {o : Nat → Nat} {l g n c : Nat} {e : TypeId} {xs : List Value} (h : RowL w o l e 1 (.slice (some ⟨g, 0, none⟩) n c) n xs) {j : Nat} (hj : j < n) (u : Value) :
    RowL (w.setCell ⟨g, j, none⟩ u) o l e 1 (.slice (some ⟨g, 0, none⟩) n c) n (xs.set j u) ∧ Step (· = l) w o (w.setCell ⟨g, j, none⟩ u) o := by
  obtain ⟨hxl, hnc, hcm, hog, cur, hcur, hcs, hcg⟩ := h.cellsOf
  have hlt := lt_of_block hcur
  have hb : (w.setCell ⟨g, j, none⟩ u).heap[g]? = some (.cells (cur.setIfInBounds j u) e (0, 0)) := by
    have hh : w.heap[g] = .cells cur e (0, 0) := by simpa [Array.getElem?_eq_getElem hlt] using hcur
    show (w.heap.modify g _)[g]? = _
    rw [Array.getElem?_eq_getElem (by simpa using hlt), Array.getElem_modify_self, hh]
    simp
  refine ⟨⟨⟨by simp [hxl], .inr ⟨g, c, cur.setIfInBounds j u, rfl, Nat.zero_le _, hb, hnc, by simpa [maxLen] using hcm, by simp [hcs], ?_⟩⟩, h.2⟩, (Step.refl _ _ _).set (p := ⟨g, j, none⟩) hog u⟩
  apply List.ext_getElem?
  intro i
  rw [Nat.mul_one, List.getElem?_take, List.getElem?_set]
  by_cases hi : i < n
  · rw [if_pos hi, Array.getElem?_toList, Array.getElem?_setIfInBounds]
    by_cases hij : j = i
    · subst hij
      rw [if_pos rfl, if_pos rfl, if_pos (by omega), if_pos (by omega)]
    · rw [if_neg hij, if_neg hij]
      exact hcg i hi
  · rw [if_neg hi]
    by_cases hij : j = i
    · omega
    · rw [if_neg hij, List.getElem?_eq_none (by omega)]
/-- A row, with whatever its cells hold. -/
def Some1 (w : World) (o : Nat → Nat) (l : Nat) (e : TypeId) (a : Option Addr) (n c : Nat) : Prop := ∃ xs, RowL w o l e 1 (.slice a n c) n xs
theorem Some1.step {L : Nat → Prop} {w w' : World} {o o' : Nat → Nat} {l : Nat} {e : TypeId} {a : Option Addr} {n c : Nat} (h : Some1 w o l e a n c) (hs : Step L w o w' o') (hl : ¬ L l) : Some1 w' o' l e a n c := by
  obtain ⟨xs, h⟩ := h
  exact ⟨xs, h.step hs hl⟩
theorem Some1.at {w : World} {o : Nat → Nat} {l : Nat} {e : TypeId} {a : Option Addr} {n c : Nat} (h : Some1 w o l e a n c) {j : Nat} (hj : j < n) (u : Value) :
    ∃ g v, a = some ⟨g, 0, none⟩ ∧ n ≤ c ∧ c ≤ 9223372036854775807 ∧ w.cell? ⟨g, j, none⟩ = some v ∧ w.frozen? ⟨g, j, none⟩ = false ∧ Some1 (w.setCell ⟨g, j, none⟩ u) o l e a n c ∧ Step (· = l) w o (w.setCell ⟨g, j, none⟩ u) o := by
  obtain ⟨xs, h⟩ := h
  obtain ⟨a', c', he, hnc, hcm, hxl, hg⟩ := h.cells
  simp only [Value.slice.injEq, true_and] at he
  obtain ⟨rfl, rfl⟩ := he
  obtain ⟨g, rfl, _, _, hc, hf⟩ := hg (by omega)
  have h2 := h.set hj u
  exact ⟨g, xs[j]'(by omega), rfl, hnc, hcm, hc j _ (List.getElem?_eq_getElem _), hf j, ⟨_, h2.1⟩, h2.2⟩
theorem same_l (a a' : Option Addr) (c c' n : Nat) (xs : List UInt8) (w : World) (hn : xs.length = n) (hx : SliceAt w a c (xs.map byteV)) (hy : SliceAt w a' c' (xs.map byteV)) :
    Calls Try.prog 30 #[.slice a n c, .slice a' n c'] w fun e w' => e = .returned (.bool true) ∧ Below w.heap.size w w' := by
  subst hn
  refine (sameBytes_any a a' c c' xs xs w hx hy).mono ?_
  rintro e w' ⟨rfl, hb⟩
  exact ⟨by simp, hb⟩
theorem read_l (i : Nat) (a : Option Addr) (c n : Nat) (bs : List UInt8) (w : World) (o : Nat → Nat) (hi : 1 ≤ i) (hn : bs.length = n) (hx : SliceAt w a c (bs.map byteV)) (hl : n ≤ 70368744177664) :
    Calls Try.prog 21 #[.slice a n c] w fun e w' => ∃ b, e = .returned (.pointer (some ⟨b, 0, none⟩)) ∧ ∃ o', Step (Own i) w o w' o' ∧ RdAt w' o' i b ⟨bs, 0⟩ := by
  subst hn
  exact read_any i a c bs w o hi hx hl
/-- Memory of the law up to the third fill. -/
structure WO (w wr : World) (o : Nat → Nat) (b1 : Nat) (bs : List UInt8) (oa : Option Addr) (on oc : Nat) (na : Option Addr) (nn nc : Nat) (fa : Option Addr) (fc : Nat) (aa : Option Addr) (bn ac : Nat) : Prop where
  since : Step (fun x => x ≠ 0) w (fun _ => 0) wr o
  wr1 : WrAt wr o 1 b1 bs
  own : Some1 wr o 50 5 oa on oc
  nums : Some1 wr o 51 3 na nn nc
  first : Some1 wr o 52 5 fa bn fc
  again : RowL wr o 53 5 1 (.slice aa bn ac) bn (bs.map byteV)
section
variable {w wr w' : World} {o : Nat → Nat} {b1 : Nat} {bs : List UInt8} {oa : Option Addr} {on oc : Nat} {na : Option Addr} {nn nc : Nat} {fa : Option Addr} {fc : Nat} {aa : Option Addr} {bn ac : Nat}
theorem WO.set0 (h : WO w wr o b1 bs oa on oc na nn nc fa fc aa bn ac) (hs : Step (· = 50) wr o w' o) (h' : Some1 w' o 50 5 oa on oc) : WO w w' o b1 bs oa on oc na nn nc fa fc aa bn ac :=
  ⟨h.since.trans (hs.mono fun l h => by omega), h.wr1.step hs (fun l hl => by unfold Own at hl; omega), h', h.nums.step hs (by omega), h.first.step hs (by omega), h.again.step hs (by omega)⟩
theorem WO.set1 (h : WO w wr o b1 bs oa on oc na nn nc fa fc aa bn ac) (hs : Step (· = 51) wr o w' o) (h' : Some1 w' o 51 3 na nn nc) : WO w w' o b1 bs oa on oc na nn nc fa fc aa bn ac :=
  ⟨h.since.trans (hs.mono fun l h => by omega), h.wr1.step hs (fun l hl => by unfold Own at hl; omega), h.own.step hs (by omega), h', h.first.step hs (by omega), h.again.step hs (by omega)⟩
theorem WO.set2 (h : WO w wr o b1 bs oa on oc na nn nc fa fc aa bn ac) (hs : Step (· = 52) wr o w' o) (h' : Some1 w' o 52 5 fa bn fc) : WO w w' o b1 bs oa on oc na nn nc fa fc aa bn ac :=
  ⟨h.since.trans (hs.mono fun l h => by omega), h.wr1.step hs (fun l hl => by unfold Own at hl; omega), h.own.step hs (by omega), h.nums.step hs (by omega), h', h.again.step hs (by omega)⟩
end
theorem Dat.row0 {w w' : World} {o : Nat → Nat} {l : Nat} {e : TypeId} {v : Value} {n : Nat} {xs : List Value} (h : w'.ownsRow w.heap.size e 1 v n xs) : ∃ a c, v = .slice a n c ∧ RowL w' (newLab w o l) l e 1 (.slice a n c) n xs := by
  have h2 := RowL.new (o := o) (i := l) h
  obtain ⟨a, c, rfl⟩ := h2.form
  exact ⟨a, c, rfl, h2⟩

/-- Memory of the law while its data are overwritten. -/
structure WD (w wr : World) (o : Nat → Nat) (rb : Nat) (R : RdS) (lab : Nat) (da : Option Addr) (dn dc : Nat) : Prop where
  since : Step (fun x => x ≠ 0) w (fun _ => 0) wr o
  rd : RdAt wr o 2 rb R
  data : Some1 wr o lab 5 da dn dc
theorem WD.set {w wr w' : World} {o : Nat → Nat} {rb : Nat} {R : RdS} {lab : Nat} {da : Option Addr} {dn dc : Nat} (h : WD w wr o rb R lab da dn dc) (hl : 30 ≤ lab) (hs : Step (· = lab) wr o w' o) (h' : Some1 w' o lab 5 da dn dc) : WD w w' o rb R lab da dn dc :=
  ⟨h.since.trans (hs.mono fun l h => by omega), h.rd.step hs (by omega) (fun l hl => by unfold Own at hl; omega), h'⟩

set_option maxRecDepth 100000 in
set_option maxHeartbeats 8000000 in
theorem wireOwn_walk (a : Option Addr) (cap : Nat) (xs : List UInt8) (a1 : Option Addr) (cap1 : Nat) (l : List Int) (w : World) (hx : SliceAt w a cap (xs.map byteV)) (hy : SliceAt w a1 cap1 (l.map intV)) (hb : ∀ n ∈ l, -9223372036854775808 ≤ n ∧ n ≤ 9223372036854775807) :
    Calls Try.prog 5 #[.slice a xs.length cap, .slice a1 l.length cap1] w fun e w' => e = .returned (.bool true) ∧ Below w.heap.size w w' := by
  have HY := Lib.hid hy
  have HX := Lib.hid hx
  obtain ⟨B, hB⟩ : ∃ B, xs.take 30 = B := ⟨_, rfl⟩
  obtain ⟨L, hL⟩ : ∃ L, l.take 10 = L := ⟨_, rfl⟩
  have hB30 : B.length ≤ 30 := by rw [← hB, List.length_take]; omega
  have hL10 : L.length ≤ 10 := by rw [← hL, List.length_take]; omega
  have hLb : ∀ n ∈ L, -9223372036854775808 ≤ n ∧ n ≤ 9223372036854775807 := fun n hn => hb n (by rw [← hL] at hn; exact List.mem_of_mem_take hn)
  have HLB := Lib.hid hLb
  have HBB := Lib.hid hB
  have HLL := Lib.hid hL
  obtain ⟨bs, hbs⟩ : ∃ bs, encR B ++ encIs L = bs := ⟨_, rfl⟩
  have hbl : bs.length ≤ 300 := by
    have h1 := encU_len10 (n := B.length) (by omega)
    have h2 := encU_len10 (n := L.length) (by omega)
    have h3 := encIs_len L hLb
    rw [← hbs]
    unfold encR encIs
    simp only [List.length_append]
    omega
  have HBS := Lib.hid hbs
  clear hx hy hb hB hL hLb hbs
  go_enter Try.func5, Try.ntmps5
  go_wp2_with fail
  refine (few_any a cap xs 30 w HX.out (by omega)).mono ?_
  rw [HBB.out]
  rintro e w1 ⟨v, rfl, hown1, hb1⟩
  obtain ⟨oa, oc, rfl, hr1⟩ := Dat.row0 (o := fun _ => 0) (l := 50) hown1
  have s1 : Step (fun _ => False) w (fun _ => 0) w1 (newLab w (fun _ => 0) 50) := Step.below hb1 fun k hk => newLab_old _ _ _ hk
  obtain ⟨o1, ho1⟩ : ∃ o1, newLab w (fun _ => 0) 50 = o1 := ⟨_, rfl⟩
  rw [ho1] at hr1 s1
  have R1 := Lib.hid hr1
  have S1 := Lib.hid s1
  have HY1 := Lib.hid (HY.out.below hb1)
  clear hr1 s1 hb1 hown1 ho1 HX
  go_wp2_with fail
  refine (ints_any a1 cap1 l 10 w1 HY1.out (by omega)).mono ?_
  rw [HLL.out]
  rintro e w2 ⟨v, rfl, hown2, hb2⟩
  obtain ⟨na, nc, rfl, hr2⟩ := Dat.row0 (o := o1) (l := 51) hown2
  have s2 : Step (fun _ => False) w1 o1 w2 (newLab w1 o1 51) := Step.below hb2 fun k hk => newLab_old _ _ _ hk
  obtain ⟨o2, ho2⟩ : ∃ o2, newLab w1 o1 51 = o2 := ⟨_, rfl⟩
  rw [ho2] at hr2 s2
  have R1 := Lib.hid (R1.out.step s2 (fun h => h))
  have R2 := Lib.hid hr2
  have S2 := Lib.hid (S1.out.trans s2)
  clear hr2 s2 hb2 hown2 ho2 HY1 S1
  have s3 := step_new w2 o2 (10 * 1) (.cells #[.slice none 0 0] 26)
  have R1' := Lib.hid (R1.out.step s3 (fun h => h))
  have R2' := Lib.hid (R2.out.step s3 (fun h => h))
  have S3 := Lib.hid (S2.out.trans s3)
  clear s3 R1 R2 S2
  go_wp2_with fail
  refine (raw_any 1 w2.heap.size oa oc B [] _ (newLab w2 o2 (10 * 1)) (by omega) (wr_new w2 _ 1 _) (by simp) R1'.out.slice (by omega)).mono ?_
  rintro e w4 ⟨rfl, o4, hs4, hw4⟩
  obtain ⟨b1, hb1⟩ : ∃ b1, b1 = w2.heap.size := ⟨_, rfl⟩
  rw [← hb1] at hw4 ⊢
  have HB1 := Lib.hid hb1
  have R1 := Lib.hid (R1'.out.step hs4 (by unfold Own; omega))
  have R2 := Lib.hid (R2'.out.step hs4 (by unfold Own; omega))
  have S4 := Lib.hid ((S3.out.mono (L' := fun x => x ≠ 0) fun _ h => h.elim).trans (hs4.mono fun l h => by unfold Own at h; omega))
  have W4 := Lib.hid hw4
  have hlen4 : (([] : List UInt8) ++ encR B).length ≤ 100 := by
    have h1 := encU_len10 (n := B.length) (by omega)
    unfold encR; simp only [List.nil_append, List.length_append]; omega
  have L4 := Lib.hid hlen4
  clear hs4 hw4 hb1 R1' R2' S3 hlen4
  go_wp2_with fail
  refine (wints_any 1 b1 na nc L _ w4 o4 (by omega) W4.out (by have := L4.out; omega) R2.out.slice (fun h b' off he => by subst he; rw [R2.out.2 b' rfl]; unfold Own; omega) HLB.out (by omega)).mono ?_
  rintro e w5 ⟨rfl, o5, hs5, hw5⟩
  have R15 := Lib.hid (R1.out.step hs5 (by unfold Own; omega))
  have R25 := Lib.hid (R2.out.step hs5 (by unfold Own; omega))
  have S5 := Lib.hid (S4.out.trans (hs5.mono fun l h => by unfold Own at h; omega))
  have W5 : Hid (WrAt w5 o5 1 b1 bs) := by unfold Hid; rw [← HBS.out]; simpa using hw5
  clear hs5 hw5 R1 R2 S4 W4 L4
  go_wp2_with fail
  refine (done_any 1 b1 _ w5 o5 W5.out (by omega)).mono ?_
  rintro e w6 ⟨v, rfl, hown6, hb6⟩
  obtain ⟨bn, hbn⟩ : ∃ bn, bs.length = bn := ⟨_, rfl⟩
  rw [hbn] at hown6 hbl
  have HBN := Lib.hid hbn
  obtain ⟨fa, fc, rfl, hr6⟩ := Dat.row0 (o := o5) (l := 52) hown6
  have s6 : Step (fun _ => False) w5 o5 w6 (newLab w5 o5 52) := Step.below hb6 fun k hk => newLab_old _ _ _ hk
  obtain ⟨o6, ho6⟩ : ∃ o6, newLab w5 o5 52 = o6 := ⟨_, rfl⟩
  rw [ho6] at hr6 s6
  have R16 := Lib.hid (R15.out.step s6 (fun h => h))
  have R26 := Lib.hid (R25.out.step s6 (fun h => h))
  have S6 := Lib.hid (S5.out.trans (s6.mono fun l h => h.elim))
  have W6 := Lib.hid (W5.out.step s6 fun _ _ h => h)
  have F6 := Lib.hid hr6
  clear s6 hr6 hown6 hb6 hbn ho6 R15 R25 S5 W5
  have hown : (w6.alloc (.cells #[] 5)).ownsRow w6.heap.size 5 1 (.slice (some ⟨w6.heap.size, 0, none⟩) 0 0) 0 [] := World.ownsRow_lit w6 #[] 0 (Nat.le_refl _) (by decide) rfl
  have hsrc : RowAt (w6.alloc (.cells #[] 5)) fa bn fc 1 (bs.map byteV) := by
    have := (F6.out.slice.below ((Below.refl w6.heap.size w6).alloc (Nat.le_refl _) (.cells #[] 5))).rowMap
    rwa [HBN.out] at this
  obtain ⟨vs, hvs⟩ : ∃ vs, bs.map byteV = vs := ⟨_, rfl⟩
  have h1c : ∀ u ∈ vs, u.oneCell' = true := by rw [← hvs]; exact oneCell_map (fun _ => rfl) bs
  rw [hvs] at hsrc F6
  have HVS := Lib.hid hvs
  have HSRC := Lib.hid hsrc
  have H1C := Lib.hid h1c
  have HOWN := Lib.hid hown
  clear hvs hsrc h1c hown
  go_wp2_with (at_builtin; refine wpList_append_src _ rfl (.tmp 27) (.tmp 28) 24 rfl elemB w6.heap.size _ 0 _ rfl HOWN.out fa bn fc vs rfl HSRC.out H1C.out (by omega) (by omega) (by simp) ?_)
  intro v7 w7 hown7 hb7 _
  have hB7 : Below w6.heap.size w6 w7 := ((Below.refl _ w6).alloc (Nat.le_refl _) _).trans hb7
  try rw [Nat.zero_add, List.nil_append] at hown7
  obtain ⟨aa, ac, rfl, hr7⟩ := Dat.row0 (o := o6) (l := 53) hown7
  have s7 : Step (fun _ => False) w6 o6 w7 (newLab w6 o6 53) := Step.below hB7 fun k hk => newLab_old _ _ _ hk
  obtain ⟨o7, ho7⟩ : ∃ o7, newLab w6 o6 53 = o7 := ⟨_, rfl⟩
  rw [ho7] at hr7 s7
  rw [← HVS.out] at hr7
  have HP : Hid (WO w w7 o7 b1 bs oa B.length oc na L.length nc fa fc aa bn ac) := by
    refine ⟨S6.out.trans (s7.mono fun l h => h.elim), W6.out.step s7 (fun _ _ h => h), ⟨_, R16.out.step s7 (fun h => h)⟩, ⟨_, R26.out.step s7 (fun h => h)⟩, ⟨_, F6.out.step s7 (fun h => h)⟩, hr7⟩
  clear hr7 s7 hown7 hb7 hB7 ho7 R16 R26 S6 W6 F6 HSRC H1C HOWN HVS
  obtain ⟨on, hon⟩ : ∃ on, B.length = on := ⟨_, rfl⟩
  obtain ⟨nn, hnn⟩ : ∃ nn, L.length = nn := ⟨_, rfl⟩
  rw [hon, hnn] at HP
  rw [hon] at hB30 ⊢
  rw [hnn] at hL10 ⊢
  have HON := Lib.hid hon
  have HNN := Lib.hid hnn
  clear hon hnn
  go_wp2_with fail
  go_loopw [10] (fun iv wr => ∃ k : Nat, k ≤ on ∧ iv = .int .i64 k ∧ Hid (WO w wr o7 b1 bs oa on oc na nn nc fa fc aa bn ac)) (fun iv _ => on - (intOf iv).toNat)
  case atStart => exact ⟨0, by omega, rfl, HP.out⟩
  case round =>
    clear HP
    obtain ⟨k, hk, rfl, HP⟩ := hrel
    by_cases hkn : k < on
    · obtain ⟨g, v, hga, hnc, hcm, c1, f1, h50, hst⟩ := HP.out.own.at hkn (.int .u8 7)
      have HP2 := Lib.hid (HP.out.set0 hst h50)
      subst hga
      clear h50 hst
      go_wp2_with fail
      go_roundw
      case rel => first | exact ⟨k + 1, by omega, by go_num, HP2.out⟩ | ((repeat apply Exists.intro); refine ⟨?_, rfl⟩; exact ⟨k + 1, by omega, by go_num, HP2.out⟩)
      case measure => simp [intOf]; omega
    · obtain rfl : on = k := by omega
      go_wp2_with fail
      go_loopw [11] (fun iv wr => ∃ k : Nat, k ≤ nn ∧ iv = .int .i64 k ∧ Hid (WO w wr o7 b1 bs oa on oc na nn nc fa fc aa bn ac)) (fun iv _ => nn - (intOf iv).toNat)
      case atStart => exact ⟨0, by omega, rfl, HP.out⟩
      case round =>
        clear HP
        obtain ⟨k, hk, rfl, HP⟩ := hrel
        by_cases hkn : k < nn
        · obtain ⟨g, v, hga, hnc, hcm, c1, f1, h50, hst⟩ := HP.out.nums.at hkn (.int .i64 7)
          have HP2 := Lib.hid (HP.out.set1 hst h50)
          subst hga
          clear h50 hst
          go_wp2_with fail
          go_roundw
          case rel => first | exact ⟨k + 1, by omega, by go_num, HP2.out⟩ | ((repeat apply Exists.intro); refine ⟨?_, rfl⟩; exact ⟨k + 1, by omega, by go_num, HP2.out⟩)
          case measure => simp [intOf]; omega
        · obtain rfl : nn = k := by omega
          go_wp2_with fail
          go_loopw [12] (fun iv wr => ∃ k : Nat, k ≤ bn ∧ iv = .int .i64 k ∧ Hid (WO w wr o7 b1 bs oa on oc na nn nc fa fc aa bn ac)) (fun iv _ => bn - (intOf iv).toNat)
          case atStart => exact ⟨0, by omega, rfl, HP.out⟩
          case round =>
            clear HP
            obtain ⟨k, hk, rfl, HP⟩ := hrel
            by_cases hkn : k < bn
            · obtain ⟨g, v, hga, hnc, hcm, c1, f1, h50, hst⟩ := HP.out.first.at hkn (.int .u8 9)
              have HP2 := Lib.hid (HP.out.set2 hst h50)
              subst hga
              clear h50 hst
              go_wp2_with fail
              go_roundw
              case rel => first | exact ⟨k + 1, by omega, by go_num, HP2.out⟩ | ((repeat apply Exists.intro); refine ⟨?_, rfl⟩; exact ⟨k + 1, by omega, by go_num, HP2.out⟩)
              case measure => simp [intOf]; omega
            · obtain rfl : bn = k := by omega
              go_wp2_with fail
              refine (done_any 1 b1 _ wr o7 HP.out.wr1 (by have := HBN.out; omega)).mono ?_
              rintro e w8 ⟨v, rfl, hown8, hb8⟩
              obtain ⟨ta, tc, rfl, ht8⟩ := ownsRow_sliceMap hown8
              have s8 : Step (fun _ => False) wr o7 w8 o7 := Step.same hb8
              have A8 := Lib.hid (HP.out.again.step s8 (fun h => h))
              have S8 := Lib.hid (HP.out.since.trans (s8.mono fun l h => h.elim))
              have T8 := Lib.hid ht8
              clear hown8 hb8 ht8 s8 HP
              rw [HBN.out]
              go_wp2_with fail
              refine (same_l ta aa tc ac bn bs w8 HBN.out T8.out A8.out.slice).mono ?_
              rintro e w9 ⟨rfl, hb9⟩
              have s9 : Step (fun _ => False) w8 o7 w9 o7 := Step.same hb9
              have A9 := Lib.hid (A8.out.step s9 (fun h => h))
              have S9 := Lib.hid (S8.out.trans (s9.mono fun l h => h.elim))
              clear hb9 s9 A8 S8 T8
              have hown : (w9.alloc (.cells #[] 5)).ownsRow w9.heap.size 5 1 (.slice (some ⟨w9.heap.size, 0, none⟩) 0 0) 0 [] := World.ownsRow_lit w9 #[] 0 (Nat.le_refl _) (by decide) rfl
              have hsrc : RowAt (w9.alloc (.cells #[] 5)) aa bn ac 1 (bs.map byteV) := by
                have := (A9.out.slice.below ((Below.refl w9.heap.size w9).alloc (Nat.le_refl _) (.cells #[] 5))).rowMap
                rwa [HBN.out] at this
              obtain ⟨vs, hvs⟩ : ∃ vs, bs.map byteV = vs := ⟨_, rfl⟩
              have h1c : ∀ u ∈ vs, u.oneCell' = true := by rw [← hvs]; exact oneCell_map (fun _ => rfl) bs
              rw [hvs] at hsrc
              have HVS := Lib.hid hvs
              have HSRC := Lib.hid hsrc
              have H1C := Lib.hid h1c
              have HOWN := Lib.hid hown
              clear hvs hsrc h1c hown
              go_wp2_with (at_builtin; refine wpList_append_src _ rfl (.tmp 61) (.tmp 62) 24 rfl elemB w9.heap.size _ 0 _ rfl HOWN.out aa bn ac vs rfl HSRC.out H1C.out (by omega) (by omega) (by simp) ?_)
              intro v10 w10 hown10 hb10 _
              have hB10 : Below w9.heap.size w9 w10 := ((Below.refl _ w9).alloc (Nat.le_refl _) _).trans hb10
              try rw [Nat.zero_add, List.nil_append] at hown10
              obtain ⟨da, dc, rfl, hr10⟩ := Dat.row0 (o := o7) (l := 54) hown10
              have s10 : Step (fun _ => False) w9 o7 w10 (newLab w9 o7 54) := Step.below hB10 fun k hk => newLab_old _ _ _ hk
              obtain ⟨o10, ho10⟩ : ∃ o10, newLab w9 o7 54 = o10 := ⟨_, rfl⟩
              rw [ho10] at hr10 s10
              rw [← HVS.out] at hr10
              have S10 := Lib.hid (S9.out.trans (s10.mono fun l h => h.elim))
              have D10 := Lib.hid hr10
              clear hr10 s10 hown10 hb10 hB10 ho10 HSRC H1C HOWN HVS S9 A9
              go_wp2_with fail
              refine (read_l 2 da dc bn bs w10 o10 (by omega) HBN.out D10.out.slice (by omega)).mono ?_
              rintro e w11 ⟨rb, rfl, o11, hs11, hr11⟩
              have HP : Hid (WD w w11 o11 rb ⟨bs, 0⟩ 54 da bn dc) := ⟨S10.out.trans (hs11.mono fun l h => by unfold Own at h; omega), hr11, ⟨_, D10.out.step hs11 (by unfold Own; omega)⟩⟩
              clear hs11 hr11 D10 S10
              go_wp2_with fail
              go_loopw [15] (fun iv wr => ∃ k : Nat, k ≤ bn ∧ iv = .int .i64 k ∧ Hid (WD w wr o11 rb ⟨bs, 0⟩ 54 da bn dc)) (fun iv _ => bn - (intOf iv).toNat)
              case atStart => exact ⟨0, by omega, rfl, HP.out⟩
              case round =>
                clear HP
                obtain ⟨k, hk, rfl, HP⟩ := hrel
                by_cases hkn : k < bn
                · obtain ⟨g, v, hga, hnc, hcm, c1, f1, h50, hst⟩ := HP.out.data.at hkn (.int .u8 255)
                  have HP2 := Lib.hid (HP.out.set (by omega) hst h50)
                  subst hga
                  clear h50 hst
                  go_wp2_with fail
                  go_roundw
                  case rel => first | exact ⟨k + 1, by omega, by go_num, HP2.out⟩ | ((repeat apply Exists.intro); refine ⟨?_, rfl⟩; exact ⟨k + 1, by omega, by go_num, HP2.out⟩)
                  case measure => simp [intOf]; omega
                · obtain rfl : bn = k := by omega
                  go_wp2_with fail
                  refine (rraw_any 2 rb 55 _ wr o11 (by omega) HP.out.rd (by have := HBN.out; simp only; omega) (by unfold Own; omega) (by omega)).mono ?_
                  rw [show rawR ⟨bs, 0⟩ = (B, ⟨encIs L, 0⟩) from by rw [← HBS.out]; exact rawR_enc (by have := HON.out; omega) _]
                  rintro e w12 ⟨v, rfl, o12, hs12, hr12, hv12⟩
                  obtain ⟨xa, xc, rfl⟩ := hv12.form
                  have HP2 : Hid (WD w w12 o12 rb ⟨encIs L, 0⟩ 55 xa B.length xc) := ⟨HP.out.since.trans (hs12.mono fun l h => by unfold rdL Own at h; omega), hr12, ⟨_, hv12⟩⟩
                  clear hs12 hr12 hv12 HP
                  simp only [HON.out] at HP2 ⊢
                  have HP := HP2
                  clear HP2
                  go_wp2_with fail
                  go_loopw [17] (fun iv wr => ∃ k : Nat, k ≤ on ∧ iv = .int .i64 k ∧ Hid (WD w wr o12 rb ⟨encIs L, 0⟩ 55 xa on xc)) (fun iv _ => on - (intOf iv).toNat)
                  case atStart => exact ⟨0, by omega, rfl, HP.out⟩
                  case round =>
                    clear HP
                    obtain ⟨k, hk, rfl, HP⟩ := hrel
                    by_cases hkn : k < on
                    · obtain ⟨g, v, hga, hnc, hcm, c1, f1, h50, hst⟩ := HP.out.data.at hkn (.int .u8 1)
                      have HP2 := Lib.hid (HP.out.set (by omega) hst h50)
                      subst hga
                      clear h50 hst
                      go_wp2_with fail
                      go_roundw
                      case rel => first | exact ⟨k + 1, by omega, by go_num, HP2.out⟩ | ((repeat apply Exists.intro); refine ⟨?_, rfl⟩; exact ⟨k + 1, by omega, by go_num, HP2.out⟩)
                      case measure => simp [intOf]; omega
                    · obtain rfl : on = k := by omega
                      have hel : (encIs L).length ≤ 300 := by
                        have h2 := encU_len10 (n := L.length) (by have := HNN.out; omega)
                        have h3 := encIs_len L HLB.out
                        have := HNN.out
                        unfold encIs
                        simp only [List.length_append]
                        omega
                      have HEL := Lib.hid hel
                      clear hel
                      go_wp2_with fail
                      refine (rints_any 2 rb 56 _ wr o12 (by omega) HP.out.rd (by have := HEL.out; simp only; omega) (by unfold Own; omega) (by omega)).mono ?_
                      rw [show intsR ⟨encIs L, 0⟩ = (L, ⟨[], 0⟩) from by have := intsR_enc (l := L) (by have := HNN.out; omega) HLB.out []; rwa [List.append_nil] at this]
                      rintro e w13 ⟨v, rfl, o13, hs13, hr13, hv13⟩
                      obtain ⟨ia, ic, rfl⟩ := hv13.form
                      have S13 := Lib.hid (HP.out.since.trans (hs13.mono fun l h => by unfold rdL Own at h; omega))
                      have R13 := Lib.hid hr13
                      have V13 := Lib.hid hv13
                      clear hs13 hr13 hv13 HP
                      go_wp2_with fail
                      refine (ints_any a1 cap1 l 10 w13 (HY.out.below (S13.out.toBelow (Nat.le_refl _) fun k _ h => h rfl)) (by omega)).mono ?_
                      rw [HLL.out]
                      rintro e w14 ⟨v, rfl, hown14, hb14⟩
                      obtain ⟨ja, jc, rfl, hj14⟩ := ownsRow_sliceMap hown14
                      have s14 : Step (fun _ => False) w13 o13 w14 o13 := Step.same hb14
                      have S14 := Lib.hid (S13.out.trans (s14.mono fun l h => h.elim))
                      have R14 := Lib.hid (R13.out.step s14 (fun h => h) (fun _ _ h => h))
                      have V14 := Lib.hid (V13.out.step s14 (fun h => h))
                      have J14 := Lib.hid hj14
                      clear s14 hb14 hown14 hj14 S13 R13 V13
                      go_wp2_with fail
                      refine (sameInts_any ia ja ic jc L L w14 V14.out.slice J14.out).mono ?_
                      rw [show decide (L = L) = true from by simp]
                      rintro e w15 ⟨rfl, hb15⟩
                      have s15 : Step (fun _ => False) w14 o13 w15 o13 := Step.same hb15
                      have S15 := Lib.hid (S14.out.trans (s15.mono fun l h => h.elim))
                      have R15 := Lib.hid (R14.out.step s15 (fun h => h) (fun _ _ h => h))
                      clear s15 hb15 S14 R14 V14 J14
                      go_wp2_with fail
                      refine (rend_any 2 rb _ w15 _ R15.out).mono ?_
                      rw [exr5]
                      rintro e w16 ⟨rfl, rfl⟩
                      go_wp2_with fail
                      refine (lives_any w15).mono ?_
                      rintro e w17 ⟨rfl, hb17⟩
                      go_wp2_with fail
                      go_ret
                      exact ⟨rfl, (S15.out.toBelow (Nat.le_refl _) fun k _ h => h rfl).trans (hb17.mono S15.out.size)⟩
end Go.Proofs.Ytplhclmmmfpgeaa
