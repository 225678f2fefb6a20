/-
  The end of the reference: In.
-/
import Derived.Test.YtmonpnikdheokaaRunD
import Derived.StillTailTactics
import Derived.Deep.DeepCutAuto
import Derived.Deep.CutBlock
import Derived.Deep.RegionLaw
namespace Go.Proofs.Ytmonpnikdheokaa
open Go Go.Proofs
open Go.RowKit
set_option linter.unusedVariables false
set_option linter.unusedSimpArgs false

theorem look_idx {α : Type} : ∀ {es : List (Int × α)} {j : Int}, (look es j = none ∧ es.findIdx? (fun p => p.1 == j) = none) ∨ ∃ n v, es.findIdx? (fun p => p.1 == j) = some n ∧ es[n]? = some (j, v) ∧ look es j = some v
  | [], j => .inl ⟨rfl, rfl⟩
  | (k, v) :: es, j => by
    rw [look_cons]
    by_cases h : k = j
    · subst h
      rw [if_pos rfl]
      exact .inr ⟨0, v, by simp [List.findIdx?_cons], rfl, rfl⟩
    · rw [if_neg h]
      have hb : (k == j) = false := beq_eq_false_iff_ne.2 h
      rcases look_idx (es := es) (j := j) with ⟨h1, h2⟩ | ⟨n, u, h1, h2, h3⟩
      · exact .inl ⟨h1, by rw [List.findIdx?_cons, h2]; simp [hb]⟩
      · exact .inr ⟨n + 1, u, by rw [List.findIdx?_cons, h1]; simp [hb], by simpa using h2, h3⟩
theorem erase_drp {α : Type} : ∀ (es : List (Int × α)) {n : Nat} {j : Int} {v : α}, (es.map (·.1)).Nodup → es[n]? = some (j, v) → es.eraseIdx n = drp es j
  | [], n, j, v, _, h => by simp at h
  | (a, u) :: es, 0, j, v, hn, h => by
    simp only [List.getElem?_cons_zero, Option.some.injEq, Prod.mk.injEq] at h
    obtain ⟨rfl, rfl⟩ := h
    simp only [List.map_cons, List.nodup_cons] at hn
    simp only [List.eraseIdx_cons_zero, drp, List.filter_cons, bne_self_eq_false, Bool.false_eq_true, if_false]
    symm
    refine List.filter_eq_self.2 fun p hp => ?_
    simp only [bne_iff_ne]
    exact fun e => hn.1 (by rw [← e]; exact List.mem_map.2 ⟨p, hp, rfl⟩)
  | (a, u) :: es, n + 1, j, v, hn, h => by
    simp only [List.getElem?_cons_succ] at h
    simp only [List.map_cons, List.nodup_cons] at hn
    have hak : (a != j) = true := by
      simp only [bne_iff_ne]
      intro e
      exact hn.1 (by rw [e]; exact List.mem_map.2 ⟨(j, v), List.mem_of_getElem? h, rfl⟩)
    simp only [List.eraseIdx_cons_succ, drp, List.filter_cons, hak, if_true]
    rw [erase_drp es hn.2 h]
    rfl
theorem HeldAt.keys {w : World} {o : Nat → Nat} {es : List (Int × Value)} {hs : List (Int × List UInt8)} (h : HeldAt w o es hs) : es.map (·.1) = hs.map (·.1) := by
  induction h with
  | nil => rfl
  | cons _ _ ih => simp [ih]
theorem HeldAt.one {w : World} {o : Nat → Nat} {es : List (Int × Value)} {hs : List (Int × List UInt8)} (h : HeldAt w o es hs) : ∀ p ∈ es, ∀ u ∈ hfc p, u.oneCell' = true := by
  induction h with
  | nil => intro p hp; cases hp
  | @cons k v m es hs hm _ ih =>
    intro p hp u hu
    rcases List.mem_cons.1 hp with rfl | hp
    · simp only [hfc, List.mem_cons, List.not_mem_nil, or_false] at hu
      rcases hu with rfl | rfl
      · rfl
      · exact hm.one
    · exact ih p hp u hu
theorem drp_keys {α : Type} (es : List (Int × α)) (j : Int) (h : (es.map (·.1)).Nodup) : ((drp es j).map (·.1)).Nodup := List.Nodup.sublist (List.Sublist.map _ List.filter_sublist) h
theorem put_keys {α : Type} (es : List (Int × α)) (j : Int) (v : α) (h : (es.map (·.1)).Nodup) (hn : look es j = none) : ((put es j v).map (·.1)).Nodup := by
  unfold put
  rw [List.map_append, List.nodup_append]
  refine ⟨h, by simp, ?_⟩
  intro a ha b hb
  obtain ⟨p, hp, rfl⟩ := List.mem_map.1 ha
  simp at hb
  subst hb
  intro e
  have : ∀ {l : List (Int × α)}, p ∈ l → look l p.1 ≠ none := by
    intro l hl
    induction l with
    | nil => cases hl
    | cons x l ih =>
      obtain ⟨xk, xv⟩ := x
      rw [look_cons]
      rcases List.mem_cons.1 hl with rfl | hl
      · rw [if_pos rfl]; simp
      · split
        · simp
        · exact ih hl
  exact this hp (by rw [e]; exact hn)

theorem MdAt.ack {w : World} {o : Nat → Nat} {i b : Nat} {E : EndS} {S : List (List UInt8)} (h : MdAt w o i b E S) (hi : 1 ≤ i) (n : Nat) : Step (· = 10 * i) w o (w.setCell ⟨b, 2, none⟩ (.int .i64 n)) o ∧ MdAt (w.setCell ⟨b, 2, none⟩ (.int .i64 n)) o i b { E with acked := n } S := by
  obtain ⟨sv, vs, hv, es, lh, hlh, h1, h2, h3, h5, h6⟩ := h
  have hs := EndAt.set h1 2 (.int .i64 n)
  exact ⟨hs, sv, vs, hv, es, lh, hlh, h1.set 2 (.int .i64 n), h2.step hs (by omega), h3.step hs (by omega), RecL.step h5 hs (by omega), h6.step hs (by omega)⟩
theorem MdAt.gots {w : World} {o : Nat → Nat} {i b : Nat} {E : EndS} {S : List (List UInt8)} (h : MdAt w o i b E S) (hi : 1 ≤ i) (n : Nat) : Step (· = 10 * i) w o (w.setCell ⟨b, 3, none⟩ (.int .i64 n)) o ∧ MdAt (w.setCell ⟨b, 3, none⟩ (.int .i64 n)) o i b { E with got := n } S := by
  obtain ⟨sv, vs, hv, es, lh, hlh, h1, h2, h3, h5, h6⟩ := h
  have hs := EndAt.set h1 3 (.int .i64 n)
  exact ⟨hs, sv, vs, hv, es, lh, hlh, h1.set 3 (.int .i64 n), h2.step hs (by omega), h3.step hs (by omega), RecL.step h5 hs (by omega), h6.step hs (by omega)⟩
theorem ackE_eq (E : EndS) (k : Int) : (ackE E k).window = E.window ∧ (ackE E k).got = E.got ∧ (ackE E k).held = E.held ∧ (ackE E k).owing = E.owing ∧ (((ackE E k).acked : Nat) : Int) = if (E.acked : Int) < k then k else E.acked := by
  unfold ackE
  by_cases h : (E.acked : Int) < k
  · rw [if_pos h, if_pos h]
    exact ⟨rfl, rfl, rfl, rfl, by simp only; omega⟩
  · rw [if_neg h, if_neg h]
    exact ⟨rfl, rfl, rfl, rfl, rfl⟩

theorem elemHd : ElemT Try.prog 48 108 (.agg #[.int .i64 0, .slice none 0 0]) 2 32 := ⟨Try.underlying48, info_parts (by kernel_rfl), rfl, by decide⟩
/-- What In is told of the packet and of the end. -/
structure InOk (E : EndS) : Prop where
  got : E.got ≤ 1000000000
  len : E.held.length ≤ 1000000
  dry : look E.held ((E.got : Int) + 1) = none
  keys : (E.held.map (·.1)).Nodup

set_option maxRecDepth 100000 in
set_option maxHeartbeats 8000000 in
theorem rin_any (i b : Nat) (E : EndS) (S : List (List UInt8)) (q k : Int) (m : List UInt8) (a : Option Addr) (c lr : Nat) (w : World) (o : Nat → Nat) (hi : 1 ≤ i) (hE : MdAt w o i b E S) (hO : MdOk E S) (hI : InOk E)
    (hm : Dat w o 0 a c (m.map byteV)) (hlr : ¬ Own i lr) (hlr0 : lr ≠ 0) :
    Calls Try.prog 22 #[.pointer (some ⟨b, 0, none⟩), .agg #[.int .i64 q, .int .i64 k, .slice a m.length c]] w fun e w' =>
      ∃ v, e = .returned v ∧ ∃ o', Step (fun x => Own i x ∨ x = lr) w o w' o' ∧ MdAt w' o' i b (inE E ⟨q, k, m⟩) S ∧ MRow w' o' lr v (inO E ⟨q, k, m⟩) := by
  obtain ⟨EF, hEF⟩ : ∃ x, inE E ⟨q, k, m⟩ = x := ⟨_, rfl⟩
  obtain ⟨OF, hOF⟩ : ∃ x, inO E ⟨q, k, m⟩ = x := ⟨_, rfl⟩
  rw [hEF, hOF]
  have HEF := Lib.hid hEF
  have HOF := Lib.hid hOF
  clear hEF hOF
  have hml := hm.slice.len
  simp only [List.length_map] at hml
  have hle := hO.le
  have hlen := hO.len
  have hnum := hO.num
  have hgo := hI.got
  have hrf : refuses E ⟨q, k, m⟩ = (!pvalid ⟨q, k, m⟩ || (decide ((S.length : Int) < k) || decide ((E.got : Int) + 16 < q))) := by
    unfold refuses
    simp only [show ((E.acked + E.waiting.length : Nat) : Int) = (S.length : Int) by omega, show ((E.got + 16 : Nat) : Int) = (E.got : Int) + 16 by omega]
  obtain ⟨ok, hok⟩ : ∃ x, pvalid ⟨q, k, m⟩ = x := ⟨_, rfl⟩
  have kv := fun W => rvalidP q k a c m W hml
  rw [hok] at kv hrf
  have hk0 : ok = true → 0 ≤ k ∧ 0 ≤ q := by
    intro h
    rw [h] at hok
    unfold pvalid at hok
    simp at hok
    omega
  obtain ⟨n, hn⟩ : ∃ n, m.length = n := ⟨_, rfl⟩
  rw [hn] at kv ⊢
  obtain ⟨N, hN⟩ : ∃ n, S.length = n := ⟨_, rfl⟩
  obtain ⟨G, hG⟩ : ∃ n, E.got = n := ⟨_, rfl⟩
  obtain ⟨A, hA⟩ : ∃ n, E.acked = n := ⟨_, rfl⟩
  rw [hN, hG] at hrf
  rw [hN] at hle hlen
  rw [hG] at hgo
  rw [hA] at hle
  obtain ⟨w1, hw1⟩ : ∃ x, x = w.alloc (.cells #[.int .i64 q, .int .i64 k, .slice a n c] 40) := ⟨_, rfl⟩
  obtain ⟨o1, ho1⟩ : ∃ x, newLab w o 0 = x := ⟨_, rfl⟩
  have hs1 : Step (fun _ => False) w o w1 o1 := by rw [hw1, ← ho1]; exact Step.below ((Below.refl _ w).alloc (Nat.le_refl _) _) fun k hk => newLab_old _ _ _ hk
  obtain ⟨gp, hgp⟩ : ∃ g, w.heap.size = g := ⟨_, rfl⟩
  have hX1 : Blk w1 o1 0 gp [.int .i64 q, .int .i64 k, .slice a n c] := by rw [hw1, ← ho1, ← hgp]; exact ⟨_, heap_alloc_new _ _, newLab_new _ _ _ (Nat.le_refl _)⟩
  have y0 := hX1.cell (j := 0) rfl
  have y1 := hX1.cell (j := 1) rfl
  have y2 := hX1.cell (j := 2) rfl
  have HM1 := Lib.hid (hm.step hs1 fun h => h)
  have HE1 := Lib.hid (hE.step hs1 (fun h => h) fun _ _ h => h)
  have HS1 := Lib.hid hs1
  have HX1 := Lib.hid hX1
  have HW1 := Lib.hid hw1
  have HGP := Lib.hid hgp
  have HN := Lib.hid hn
  have HNS := Lib.hid hN
  have HG := Lib.hid hG
  have HA := Lib.hid hA
  have HRF := Lib.hid hrf
  have KV := Lib.hid kv
  have HK0 := Lib.hid hk0
  have HNUM := Lib.hid hnum
  rw [hw1] at y0 y1 y2
  clear hw1 ho1 hs1 hX1 hm hE hgp hn hN hG hA hrf kv hk0 hok hnum
  go_enter Try.func22, Try.ntmps22
  go_wp2_with fail
  rw [← HW1.out]
  try rw [HGP.out]
  clear y0 y1 y2 HW1
  refine (KV.out w1).mono ?_
  rintro e w2 ⟨rfl, hb⟩
  have hs : Step (fun _ => False) w1 o1 w2 o1 := Step.same hb
  have HM2 := Lib.hid (HM1.out.step hs fun h => h)
  have HE2 := Lib.hid (HE1.out.step hs (fun h => h) fun _ _ h => h)
  have HX2 := Lib.hid (HX1.out.step hs fun h => h)
  have HS2 := Lib.hid (HS1.out.trans hs)
  clear hb hs HM1 HE1 HX1 HS1 KV
  obtain ⟨sv, vs, hv, es, lh, hlh, h1, h2, h3, h5, h6⟩ := id HE2.out
  obtain ⟨sa, sc, rfl, _, hss⟩ := ownsRow_slice h2.1
  have hvl : vs.length = N := by rw [h3.1]; exact HNS.out
  have d1 : w2.cell? ⟨b, 1, none⟩ = some (.slice sa N sc) := by have := h1.cell (j := 1) rfl; rw [hvl] at this; exact this
  have d2 : w2.cell? ⟨b, 2, none⟩ = some (.int .i64 (A : Int)) := by have := h1.cell (j := 2) rfl; rw [HA.out] at this; exact this
  have d3 : w2.cell? ⟨b, 3, none⟩ = some (.int .i64 (G : Int)) := by have := h1.cell (j := 3) rfl; rw [HG.out] at this; exact this
  have x0 := HX2.out.cell (j := 0) rfl
  have x1 := HX2.out.cell (j := 1) rfl
  have hG16 : IntKind.i64.wrap ((G : Int) + 16) = (G : Int) + 16 := IntWalk.i64_in _ (by omega)
  have H1 := Lib.hid h1
  clear h1 h2 h3 h5 h6 hss hvl
  -- refused
  by_cases hr : refuses E ⟨q, k, m⟩ = true
  · have eE : EF = E := by rw [← HEF.out]; unfold inE; rw [if_pos hr]
    have eO : OF = [] := by rw [← HOF.out]; unfold inO; rw [if_pos hr]
    have hcase : ok = false ∨ (ok = true ∧ decide ((N : Int) < k) = true) ∨ (ok = true ∧ decide ((N : Int) < k) = false ∧ decide ((G : Int) + 16 < q) = true) := by
      rw [HRF.out] at hr
      cases ok <;> simp at hr ⊢
      rcases hr with h | h
      · exact .inl h
      · by_cases h' : (N : Int) < k
        · exact .inl h'
        · exact .inr ⟨by omega, h⟩
    have HQE := Lib.hid eE
    have HQO := Lib.hid eO
    clear hr eE eO HEF HOF
    rcases hcase with rfl | ⟨rfl, hc1⟩ | ⟨rfl, hc1, hc2⟩
    all_goals
      go_wp2_with fail
      go_quiet (fail)
      go_wp2_with fail
      go_ret
      rw [HQE.out, HQO.out]
      exact ⟨_, rfl, o1, (HS2.out.mono fun _ h => h.elim).drewN _, HE2.out.step (Step.same (L := fun _ => False) (Below.drewN _)) (fun h => h) (fun _ _ h => h), MRow.nil _ _ _⟩
  · have hok : ok = true := by
      cases ok with
      | true => rfl
      | false => exact absurd (by rw [HRF.out]; rfl) hr
    subst hok
    have hc1 : decide ((N : Int) < k) = false := by
      cases h : decide ((N : Int) < k) with
      | false => rfl
      | true => exact absurd (by rw [HRF.out, h]; rfl) hr
    have hc2 : decide ((G : Int) + 16 < q) = false := by
      cases h : decide ((G : Int) + 16 < q) with
      | false => rfl
      | true => exact absurd (by rw [HRF.out, h, Bool.or_true, Bool.or_true]) hr
    have hkN : k ≤ N := by simpa using hc1
    have hqG : q ≤ (G : Int) + 16 := by simpa using hc2
    obtain ⟨hk0, hq0⟩ := HK0.out rfl
    have eE : EF = if q = 0 then ackE E k else drainE (holdE (ackE E k) q m) := by rw [← HEF.out]; unfold inE; rw [if_neg hr]
    have eO : OF = if q = 0 then [] else drainO (holdE (ackE E k) q m) := by rw [← HOF.out]; unfold inO; rw [if_neg hr]
    have HQE := Lib.hid eE
    have HQO := Lib.hid eO
    clear hr eE eO HRF HK0 HEF HOF
    go_wp2_with fail
    go_quiet (fail)
    obtain ⟨w3, hw3⟩ : ∃ x, x = w2.drewN nq := ⟨_, rfl⟩
    have hs3 : Step (fun _ => False) w2 o1 w3 o1 := by rw [hw3]; exact Step.same (Below.drewN _)
    rw [← hw3]
    have HM3 := Lib.hid (HM2.out.step hs3 fun h => h)
    have HE3 := Lib.hid (HE2.out.step hs3 (fun h => h) fun _ _ h => h)
    have HX3 := Lib.hid (HX2.out.step hs3 fun h => h)
    have HS3 := Lib.hid (HS2.out.trans hs3)
    have H13 := Lib.hid (H1.out.step hs3 fun h => h)
    have d2' : w3.cell? ⟨b, 2, none⟩ = some (.int .i64 (A : Int)) := by rw [hw3]; exact d2
    have x1' : w3.cell? ⟨gp, 1, none⟩ = some (.int .i64 k) := by rw [hw3]; exact x1
    have f2 := H13.out.frozen 2
    clear hs3 hw3 hc1 hc2 hG16 d1 d2 d3 x0 x1 HM2 HE2 HX2 HS2 H1
    obtain ⟨q1, q2, q3, q4, q5⟩ := ackE_eq E k
    obtain ⟨A', hA'⟩ : ∃ A' : Nat, (ackE E k).acked = A' := ⟨_, rfl⟩
    rw [hA', HA.out] at q5
    have hmax : (if (A : Int) < k then k else (A : Int)) = (A' : Int) := q5.symm
    have d2d : w3.drew.cell? ⟨b, 2, none⟩ = some (.int .i64 (A : Int)) := d2'
    have x1d : w3.drew.cell? ⟨gp, 1, none⟩ = some (.int .i64 k) := x1'
    have f2d : w3.drew.frozen? ⟨b, 2, none⟩ = false := f2
    have HE1 := Lib.hid (show (ackE E k).window = E.window ∧ (ackE E k).got = E.got ∧ (ackE E k).held = E.held ∧ (ackE E k).owing = E.owing ∧ (ackE E k).acked = A' from ⟨q1, q2, q3, q4, hA'⟩)
    clear q1 q2 q3 q4 q5 hA'
    go_wp2_with fail
    refine comb (A := ?_) (fun hfin => ?_) ?_
    rotate_left 1
    · go_region_law (fail)
      all_goals exact hfin 0
    clear d2d x1d f2d d2' x1' f2 hmax
    obtain ⟨w4, hw4⟩ : ∃ x, x = (w3.setCell ⟨b, 2, none⟩ (.int .i64 (A' : Int))).drew := ⟨_, rfl⟩
    obtain ⟨hs4, hE4⟩ := HE3.out.ack hi A'
    have hs4' : Step (· = 10 * i) w3 o1 w4 o1 := by rw [hw4]; exact hs4.drew
    have hE4' : MdAt w4 o1 i b (ackE E k) S := by
      rw [hw4]
      obtain ⟨q1, q2, q3, q4, q5⟩ := HE1.out
      refine MdAt.cong (hE4.step (L := fun _ => False) (Step.refl _ _ _).drew (fun h => h) (fun _ _ h => h)) q1 q5 q2 q3 q4
    have HE4 := Lib.hid hE4'
    have HM4 := Lib.hid (HM3.out.step hs4' (by omega))
    have HX4 := Lib.hid (HX3.out.step hs4' (by omega))
    have HS4 := Lib.hid ((HS3.out.mono (L' := Own i) fun _ h => h.elim).trans (hs4'.mono fun l hl => by subst hl; exact Own.at0 i))
    have HW4 := Lib.hid hw4
    clear hs4 hE4 hs4' hE4' hw4 HE3 HM3 HX3 HS3 H13
    have x0 := HX4.out.cell (j := 0) rfl
    have hx0w := HW4.out
    rw [← hx0w]
    clear hx0w HW4
    by_cases hqz : q = 0
    · have e0 : (q == 0) = true := by simpa using hqz
      go_wp2_with fail
      go_ret
      rw [HQE.out, HQO.out, if_pos hqz, if_pos hqz]
      exact ⟨_, rfl, o1, HS4.out.mono fun _ h => .inl h, HE4.out, MRow.nil _ _ _⟩
    · have e0 : (q == 0) = false := beq_eq_false_iff_ne.2 hqz
      have eE := HQE.out
      have eO := HQO.out
      rw [if_neg hqz] at eE eO
      have HQE1 := Lib.hid eE
      have HQO1 := Lib.hid eO
      clear eE eO HQE HQO
      obtain ⟨sv, vs, hv, es, lh, hlh, h1, h2, h3, h5, h6⟩ := id HE4.out
      have f5 := h1.frozen 5
      have c5 := h1.cell (j := 5) rfl
      clear h1 h2 h3 h5 h6
      go_upto_region 8 with fail
      obtain ⟨w5, hw5⟩ : ∃ x, x = w4.setCell ⟨b, 5, none⟩ (.bool true) := ⟨_, rfl⟩
      obtain ⟨hs5, hE5⟩ := HE4.out.owe hi true
      rw [← hw5] at hs5 hE5 ⊢
      obtain ⟨E5, hE5e⟩ : ∃ E5, { ackE E k with owing := true } = E5 := ⟨_, rfl⟩
      rw [hE5e] at hE5
      have HE5 := Lib.hid hE5
      have HM5 := Lib.hid (HM4.out.step hs5 (by omega))
      have HX5 := Lib.hid (HX4.out.step hs5 (by omega))
      have HS5 := Lib.hid (HS4.out.trans (hs5.mono fun l hl => by subst hl; exact Own.at0 i))
      have HE5e : Hid (holdE (ackE E k) q m = { E5 with held := if (E5.got : Int) < q ∧ look E5.held q = none then put E5.held q m else E5.held } ∧ E5.got = E.got ∧ E5.held = E.held) := by
        obtain ⟨q1, q2, q3, q4, q5⟩ := HE1.out
        rw [← hE5e]
        exact ⟨rfl, q2, q3⟩
      clear hs5 hE5 hE5e hw5 f5 c5 x0 HE4 HM4 HX4 HS4 HE1
      obtain ⟨sv5, vs5, hv5, es5, lh5, hlh5, h1, h2, h3, h5, h6⟩ := id HE5.out
      obtain ⟨ha, hc, rfl, hrec⟩ := h5.at
      have y3 : w5.cell? ⟨b, 3, none⟩ = some (.int .i64 (G : Int)) := by have := h1.cell (j := 3) rfl; rw [HE5e.out.2.1, HG.out] at this; exact this
      have y4 : w5.cell? ⟨b, 4, none⟩ = some (.slice ha es5.length hc) := h1.cell (j := 4) rfl
      have x0 := HX5.out.cell (j := 0) rfl
      have x2 := HX5.out.cell (j := 2) rfl
      have hlook := h6.look q
      have hkeys := h6.keys
      have H1 := Lib.hid h1
      have H2 := Lib.hid h2
      have H3 := Lib.hid h3
      have H5 := Lib.hid h5
      have H6 := Lib.hid h6
      have HREC := Lib.hid hrec
      clear h1 h2 h3 h5 h6 hrec
      have HDRY : Hid (drainE E5 = E5 ∧ drainO E5 = []) := drainE_none (by rw [HE5e.out.2.1, HE5e.out.2.2]; exact hI.dry)
      -- nothing is held now
      have HNONE : Hid (¬ ((E5.got : Int) < q ∧ look E5.held q = none) → EF = E5 ∧ OF = []) := by
        intro h
        rw [HQE1.out, HQO1.out, HE5e.out.1, if_neg h]
        exact HDRY.out
      by_cases hqg : q ≤ (G : Int)
      · have e1 : decide (q ≤ (G : Int)) = true := decide_eq_true hqg
        have hno := HNONE.out (fun h => by rw [HE5e.out.2.1, HG.out] at h; omega)
        have HNO := Lib.hid hno
        clear hno hlook hkeys
        go_quiet (fail)
        go_wp2_with fail
        go_ret
        rw [HNO.out.1, HNO.out.2]
        exact ⟨_, rfl, o1, (HS5.out.mono fun _ h => .inl h).drewN _, HE5.out.step (Step.same (L := fun _ => False) (Below.drewN _)) (fun h => h) (fun _ _ h => h), MRow.nil _ _ _⟩
      · have e1 : decide (q ≤ (G : Int)) = false := decide_eq_false hqg
        have kf := find_any b hc ha es5 q w5.drew y4 (HREC.out.below (Below.drew (Below.refl _ w5)))
        obtain ⟨r, hr⟩ : ∃ r, es5.findIdx? (fun p => p.1 == q) = r := ⟨_, rfl⟩
        rw [hr] at kf
        have kc : Hid (Calls Try.prog 56 #[.pointer (some ⟨b, 0, none⟩), .int .i64 q] w5.drew fun e w'' => e = .returned (.int .i64 (optI r)) ∧ w'' = w5.drew) := kf.mono fun e w' ⟨h1, h2⟩ => ⟨h1, h2.symm⟩
        have HR := Lib.hid hr
        clear kf hr
        refine wp_region_still_lit (by kernel_rfl) (by kernel_rfl) ?_
        repeat still_step
        still_call kc.out
        repeat still_step
        refine wpStill_nil ?_
        change Exit.then _ _ _ _ w5.drew
        obtain ⟨w6, hw6⟩ : ∃ x, x = w5.drew := ⟨_, rfl⟩
        have hs6 : Step (fun _ => False) w5 o1 w6 o1 := by rw [hw6]; exact (Step.refl _ _ _).drew
        rw [← hw6]
        have HE6 := Lib.hid (HE5.out.step hs6 (fun h => h) fun _ _ h => h)
        have HM6 := Lib.hid (HM5.out.step hs6 fun h => h)
        have HX6 := Lib.hid (HX5.out.step hs6 fun h => h)
        have HS6 := Lib.hid (HS5.out.trans (hs6.mono fun _ h => h.elim))
        have G1 := Lib.hid (H1.out.step hs6 fun h => h)
        have G2 := Lib.hid (H2.out.step hs6 fun h => h)
        have G3 := Lib.hid (H3.out.step hs6 fun h => h)
        have G5 := Lib.hid (RecL.step H5.out hs6 fun h => h)
        have G6 := Lib.hid (H6.out.step hs6 fun h => h)
        clear hs6 hw6 kc y3 y4 x0 x2 e1 HE5 HM5 HX5 HS5 H1 H2 H3 H5 H6 HREC
        rcases look_idx (es := es5) (j := q) with ⟨l1, l2⟩ | ⟨nn, u, l1, l2, l3⟩
        · -- it is not there
          have hrn : r = none := by rw [← HR.out]; exact l2
          subst hrn
          have e2 : decide ((0 : Int) ≤ optI none) = false := by decide
          have hl5 : look E5.held q = none := by
            rcases hlook with ⟨_, h⟩ | ⟨v', m', h, _⟩
            · exact h
            · rw [l1] at h; cases h
          obtain ⟨E7, hE7⟩ : ∃ x, { E5 with held := put E5.held q m } = x := ⟨_, rfl⟩
          have HFIN : Hid (EF = drainE E7 ∧ OF = drainO E7) := by
            unfold Hid
            rw [HQE1.out, HQO1.out, HE5e.out.1, if_pos ⟨by rw [HE5e.out.2.1, HG.out]; omega, hl5⟩, hE7]
            exact ⟨rfl, rfl⟩
          have HE7 : Hid (E7.got = G ∧ E7.held.length ≤ 1000001 ∧ (E7.held.map (·.1)).Nodup) := by
            unfold Hid
            rw [← hE7]
            refine ⟨by simp only; rw [HE5e.out.2.1]; exact HG.out, ?_, ?_⟩
            · have := hI.len
              simp only [put, List.length_append, List.length_singleton, HE5e.out.2.2]
              omega
            · exact put_keys _ _ _ (by rw [HE5e.out.2.2]; exact hI.keys) hl5
          have hel : es5.length ≤ 1000000 := by
            have := congrArg List.length hkeys
            simp only [List.length_map] at this
            rw [this, HE5e.out.2.2]
            exact hI.len
          have HE7e := Lib.hid hE7
          clear l1 l2 hl5 hlook hkeys hE7 HNONE HDRY HQE1 HQO1 HR
          go_upto_region 10 with fail
          go_cut [] (fun wx => ∃ o7, Hid (MdAt wx o7 i b E7 S) ∧ Hid (Step (Own i) w o wx o7))
          case first =>
            have y4 : w6.cell? ⟨b, 4, none⟩ = some (.slice ha es5.length hc) := G1.out.cell (j := 4) rfl
            have y4f := G1.out.frozen 4
            have x0 := HX6.out.cell (j := 0) rfl
            have x2 := HX6.out.cell (j := 2) rfl
            have y4d : w6.drew.cell? ⟨b, 4, none⟩ = some (.slice ha es5.length hc) := y4
            have x0d : w6.drew.cell? ⟨gp, 0, none⟩ = some (.int .i64 q) := x0
            have x2d : w6.drew.cell? ⟨gp, 2, none⟩ = some (.slice a n c) := x2
            have k6a := fun ob => G1.out.step ((Step.refl (fun _ => False) w6 o1).alloc ob) (fun h => h)
            have y4a := fun ob => (k6a ob).cell (j := 4) rfl
            have y4af := fun ob => (k6a ob).frozen 4
            clear k6a
            go_region_law (first
              | (refine step_append_row (w₀ := w6) (o := o1) (l := lh5) (by rfl) (.tmp 67) (.tmp 73) 48 (by rfl) elemHd (by rfl) G5.out ((Below.drew (Below.refl _ w6)).alloc (Nat.le_refl _) _) (some ⟨w6.heap.size, 0, none⟩) 1 1 [.int .i64 q, .slice a n c] (by rfl) (row_new (w := w6.drew) (cs := [.int .i64 q, .slice a n c]) (by simp) (by omega)) (by simp [Value.oneCell']) (by omega) (by omega) ?_; intro v' w7 hrow7 hs7
                 obtain ⟨a7, c7, rfl⟩ := hrow7.form
                 have k17 := G1.out.step hs7 (by omega)
                 have k4 := k17.cell (j := 4) rfl
                 have k4f := k17.frozen 4
                 have kx := HX6.out.step hs7 (by omega)
                 have kx0 := kx.cell (j := 0) rfl
                 have kx2 := kx.cell (j := 2) rfl))
            all_goals
              have HR7 := Lib.hid hrow7
              have HS7 := Lib.hid hs7
              have HK7 := Lib.hid k17
              clear hrow7 hs7 k17 k4 k4f kx kx0 kx2
              go_wp2_with fail
              go_meet
              have hs8 := EndAt.set HK7.out 4 (.slice a7 (es5.length + 1) c7)
              have hall : Step (Own i) w6 o1 (w7.setCell ⟨b, 4, none⟩ (.slice a7 (es5.length + 1) c7)) (newLab w6 o1 lh5) := (HS7.out.mono fun l hl => by subst hl; unfold Own; omega).trans (hs8.mono fun l hl => by subst hl; exact Own.at0 i)
              have hmd : MdAt (w7.setCell ⟨b, 4, none⟩ (.slice a7 (es5.length + 1) c7)) (newLab w6 o1 lh5) i b E7 S := by
                rw [← HE7e.out]
                refine ⟨sv5, vs5, .slice a7 (es5.length + 1) c7, es5 ++ [(q, .slice a n c)], lh5, hlh5, HK7.out.set 4 _, ?_, G3.out.step hall (Own.not0 hi), ?_, ?_⟩
                · exact (G2.out.step HS7.out (by omega)).step hs8 (by omega)
                · exact RecL.step (RecL.snoc (f := hfc) (z := 2) (x := ((q, Value.slice a n c) : Int × Value)) HR7.out) hs8 (by omega)
                · exact HeldAt.put (G6.out.step hall (Own.not0 hi)) q ⟨a, c, by rw [HN.out], HM6.out.step hall (Own.not0 hi)⟩
              first
                | exact ⟨_, hmd, HS6.out.trans hall⟩
                | exact ⟨_, hmd.step (L := fun _ => False) (Step.refl _ _ _).drew (fun h => h) (fun _ _ h => h), (HS6.out.trans hall).drew⟩
          case rest =>
            obtain ⟨o7, HE7a, HS7⟩ := hcut
            obtain ⟨w7, hw7⟩ : ∃ x, x = wc := ⟨_, rfl⟩
            subst hw7
            clear HM6 HX6 HS6 G1 G2 G3 G5 G6 HE6 HE7e HE5e e2
            go_wp2_with fail
            go_loopg [6] E7.held.length (fun g s6 wr => ∃ (o8 : Nat → Nat) (E8 : EndS) (acc : List (List UInt8)) (v : Value), s6 = v ∧ g = E8.held.length ∧ Hid (MdAt wr o8 i b E8 S) ∧ Hid (MRow wr o8 lr v acc) ∧ Hid (Step (fun x => Own i x ∨ x = lr) w o wr o8) ∧
              Hid (drainE E8 = drainE E7 ∧ acc ++ drainO E8 = drainO E7 ∧ (E8.held.map (·.1)).Nodup) ∧ E8.got + E8.held.length ≤ E7.got + E7.held.length ∧ acc.length ≤ E8.got)
            case atStart => exact ⟨o7, E7, [], _, rfl, rfl, HE7a.out, MRow.nil _ _ _, HS7.out.mono fun _ h => .inl h, ⟨rfl, by simp, HE7.out.2.2⟩, Nat.le_refl _, by simp⟩
            case round =>
              clear HE7a HS7
              obtain ⟨o8, E8, acc, v, hsv, rfl, HEA, HMR, HS8, HDR, hgl, hal⟩ := hrel
              have hsv2 := hsv.symm
              clear hsv
              subst hsv2
              have h7a := HE7.out.1
              have h7b := HE7.out.2.1
              obtain ⟨sv8, vs8, hv8, es8, lh8, hlh8, h1, h2, h3, h5, h6⟩ := HEA.out
              obtain ⟨ha8, hc8, rfl, hrec⟩ := h5.at
              obtain ⟨ms8, hr8, hmm8⟩ := HMR.out
              have hml8 := hmm8.1
              obtain ⟨a8, c8, rfl⟩ := hr8.form
              have c4 : wr.cell? ⟨b, 4, none⟩ = some (.slice ha8 es8.length hc8) := h1.cell (j := 4) rfl
              have c3 : wr.cell? ⟨b, 3, none⟩ = some (.int .i64 E8.got) := h1.cell (j := 3) rfl
              have hg8 : E8.got ≤ 1001000001 := by omega
              have hm8 : ms8.length ≤ 1001000001 := by omega
              have wr1 := IntWalk.i64_in ((E8.got : Int) + 1) (by omega)
              have kf := find_any b hc8 ha8 es8 ((E8.got : Int) + 1) wr c4 hrec
              have hlook := h6.look ((E8.got : Int) + 1)
              have hkeys := h6.keys
              have hesl : es8.length ≤ 1001000001 := by
                have := congrArg List.length hkeys
                simp only [List.length_map] at this
                omega
              have R1 := Lib.hid h1
              have R2 := Lib.hid h2
              have R3 := Lib.hid h3
              have R5 := Lib.hid h5
              have R6 := Lib.hid h6
              have RR := Lib.hid hrec
              have RM := Lib.hid hr8
              have RMM := Lib.hid hmm8
              have HDN := HDR.out.2.2
              clear h1 h2 h3 h5 h6 hr8 hmm8 hml8
              rcases look_idx (es := es8) (j := (E8.got : Int) + 1) with ⟨l1, l2⟩ | ⟨nn, u, l1, l2, l3⟩
              · rw [l2] at kf
                have KF := Lib.hid kf
                have hl8 : look E8.held ((E8.got : Int) + 1) = none := by
                  rcases hlook with ⟨_, h⟩ | ⟨v', m', h, _⟩
                  · exact h
                  · rw [l1] at h; cases h
                obtain ⟨z1, z2⟩ := drainE_none hl8
                have hD := HDR.out
                rw [z1, z2, List.append_nil] at hD
                have HD := Lib.hid hD
                clear kf hl8 z1 z2 hD l1 l2 hlook hkeys hrec HDN
                go_wp2_with fail
                refine KF.out.mono ?_
                rintro e w' ⟨rfl, rfl⟩
                rw [show optI none = -1 from rfl]
                go_wp2_with fail
                go_ret
                rw [HFIN.out.1, HFIN.out.2, ← HD.out.1, ← HD.out.2.1]
                exact ⟨_, rfl, o8, HS8.out, HEA.out, HMR.out⟩
              · rw [l1] at kf
                rw [show optI (some nn) = (nn : Int) from rfl] at kf
                have KF := Lib.hid kf
                obtain ⟨mm, hl8, hmsg⟩ : ∃ mm, look E8.held ((E8.got : Int) + 1) = some mm ∧ Msg wr o8 0 u mm := by
                  rcases hlook with ⟨h, _⟩ | ⟨v', m', h, h2, h3⟩
                  · rw [l3] at h; cases h
                  · rw [l3] at h; cases h; exact ⟨m', h2, h3⟩
                obtain ⟨au, cu, rfl, hdu⟩ := hmsg
                have hnl : nn < es8.length := (List.getElem?_eq_some_iff.1 l2).1
                obtain ⟨hb, ho, rfl⟩ := hrec.addr hfc_len (by omega) (by omega)
                have ce := hrec.cell hfc_len (j := 1) l2 rfl
                have hlec := hrec.le
                have HDU := Lib.hid hdu
                have HL8 := Lib.hid hl8
                have HL2 := Lib.hid l2
                obtain ⟨NE, hNE⟩ : ∃ x, es8.length = x := ⟨_, rfl⟩
                rw [hNE] at c4 hnl hlec hesl
                have HNE := Lib.hid hNE
                have n1 : (nn : Int) < (NE : Int) := by omega
                have n2 : (0 : Int) ≤ (nn : Int) := by omega
                clear kf hl8 l1 l2 l3 hlook hkeys hrec hdu hNE
                go_wp2_with fail
                refine KF.out.mono ?_
                rintro e w' ⟨rfl, rfl⟩
                go_wp2_with fail
                refine KF.out.mono ?_
                rintro e w' ⟨rfl, rfl⟩
                go_wp2_with (at_builtin; refine wpList_append_row (w₀ := wr) (o := o8) (l := lr) rfl (.tmp 92) (.tmp 101) 42 rfl elemM rfl RM.out ((Below.refl _ wr).alloc (Nat.le_refl _) _) (some ⟨wr.heap.size, 0, none⟩) 1 1 [.slice au mm.length cu] rfl (row_new (cs := [.slice au mm.length cu]) (by simp) (by omega)) (by simp [Value.oneCell']) (by omega) (by omega) ?_)
                intro v9 w9 hrow9 hs9
                obtain ⟨a9, c9, rfl⟩ := hrow9.form
                obtain ⟨o9, ho9⟩ : ∃ x, newLab wr o8 lr = x := ⟨_, rfl⟩
                rw [ho9] at hrow9 hs9
                have P1 := Lib.hid (R1.out.step hs9 (by unfold Own at hlr; omega))
                have P2 := Lib.hid (R2.out.step hs9 (by unfold Own at hlr; omega))
                have P3 := Lib.hid (R3.out.step hs9 (fun e => hlr0 e.symm))
                have P5 := Lib.hid (RecL.step R5.out hs9 (by unfold Own at hlr; omega))
                have P6 := Lib.hid (R6.out.step hs9 (fun e => hlr0 e.symm))
                have PM := Lib.hid hrow9
                have PMM := Lib.hid ((RMM.out.step hs9 (fun e => hlr0 e.symm)).snoc ⟨au, cu, rfl, HDU.out.step hs9 (fun e => hlr0 e.symm)⟩)
                have PS := Lib.hid (HS8.out.trans (hs9.mono fun l hl => .inr hl))
                obtain ⟨a10, cap10, hve, hrec9⟩ := P5.out.at
                simp only [Value.slice.injEq] at hve
                obtain ⟨rfl, -, rfl⟩ := hve
                have PR := Lib.hid hrec9
                have c4 : w9.cell? ⟨b, 4, none⟩ = some (.slice (some ⟨hb, ho, none⟩) NE hc8) := by have := P1.out.cell (j := 4) rfl; rw [HNE.out] at this; exact this
                have n3 : (nn : Int) ≤ (hc8 : Int) := by omega
                have n4 : nn ≤ hc8 := by omega
                clear hrow9 hs9 ho9 hrec9 c3 ce KF R1 R2 R3 R5 R6 RM RMM HS8 RR HDU
                obtain ⟨lt, hlt⟩ : ∃ lt, 20 * i + 5 - lh8 = lt := ⟨_, rfl⟩
                have hlt2 : lt ≠ lh8 ∧ (10 * i + 2 ≤ lt ∧ lt ≤ 10 * i + 3) := by omega
                have htk : ((es8.take nn).flatMap hfc).length = nn * 2 := by
                  have h1 : (es8.take nn).length = nn := by rw [List.length_take, HNE.out]; omega
                  rw [rec_len hfc_len, h1]
                have hrowT : RowAt w9 (some ⟨hb, ho, none⟩) nn hc8 2 ((es8.take nn).flatMap hfc) := by
                  have h1 : (es8.take nn).length = nn := by rw [List.length_take, HNE.out]; omega
                  have := PR.out.take hfc_len nn
                  unfold RecAt at this
                  rw [h1] at this
                  exact this
                have honeT : ∀ u ∈ (es8.take nn).flatMap hfc, u.oneCell' = true := by
                  intro u hu
                  obtain ⟨p, hp, hu⟩ := List.mem_flatMap.1 hu
                  exact P6.out.one p (List.mem_of_mem_take hp) u hu
                have HRT := Lib.hid hrowT
                have HON := Lib.hid honeT
                clear hrowT honeT hlt htk
                go_wp2_with (at_builtin; refine wpList_append_row (w₀ := w9) (o := o9) (l := lt) rfl (.tmp 103) (.tmp 109) 48 rfl elemHd rfl (RowL.nil w9 o9 lt _ _) (Below.refl _ _) (some ⟨hb, ho, none⟩) nn hc8 _ rfl HRT.out HON.out (by omega) (by omega) ?_)
                intro v11 w11 hrow11 hs11
                obtain ⟨a11, c11, rfl⟩ := hrow11.form
                obtain ⟨o11, ho11⟩ : ∃ x, newLab w9 o9 lt = x := ⟨_, rfl⟩
                rw [ho11] at hrow11 hs11
                have Q1 := Lib.hid (P1.out.step hs11 (by omega))
                have Q2 := Lib.hid (P2.out.step hs11 (by omega))
                have Q3 := Lib.hid (P3.out.step hs11 (by omega))
                have Q5 := Lib.hid (RecL.step P5.out hs11 (by omega))
                have Q6 := Lib.hid (P6.out.step hs11 (by omega))
                have QM := Lib.hid (RowL.step PM.out hs11 (by unfold Own at hlr; omega))
                have QMM := Lib.hid (PMM.out.step hs11 (by omega))
                have QS := Lib.hid (PS.out.trans (hs11.mono fun l hl => .inl (by subst hl; unfold Own; omega)))
                obtain ⟨a10, cap10, hve, hrec11⟩ := Q5.out.at
                simp only [Value.slice.injEq] at hve
                obtain ⟨rfl, -, rfl⟩ := hve
                have QL := Lib.hid hrow11
                have c4' : w11.cell? ⟨b, 4, none⟩ = some (.slice (some ⟨hb, ho, none⟩) NE hc8) := by have := Q1.out.cell (j := 4) rfl; rw [HNE.out] at this; exact this
                have f4' := Q1.out.frozen 4
                have wr2 := IntWalk.i64_in ((nn : Int) + 1) (by omega)
                have n5 : (nn : Int) + 1 ≤ (NE : Int) := by omega
                have n6 : (0 : Int) ≤ (nn : Int) + 1 := by omega
                have n7 : (NE : Int) ≤ (hc8 : Int) := by omega
                have hone : ∀ u ∈ (es8.drop (nn + 1)).flatMap hfc, u.oneCell' = true := by
                  intro u hu
                  obtain ⟨p, hp, hu⟩ := List.mem_flatMap.1 hu
                  exact Q6.out.one p (List.mem_of_mem_drop hp) u hu
                have hdl : (es8.drop (nn + 1)).length = NE - (nn + 1) := by rw [List.length_drop, HNE.out]
                have HON2 := Lib.hid hone
                have HDL := Lib.hid hdl
                have QR := Lib.hid hrec11
                clear hrow11 hs11 ho11 hone hdl hrec11 c4 P1 P2 P3 P5 P6 PM PMM PS PR HRT HON
                by_cases hcn : hc8 = nn + 1
                · have hrowD : RowAt w11 (some ⟨hb, ho, none⟩) (NE - (nn + 1)) 0 2 ((es8.drop (nn + 1)).flatMap hfc) := by
                    have h1 : es8.drop (nn + 1) = [] := List.drop_eq_nil_of_le (by rw [HNE.out]; omega)
                    rw [h1]
                    refine ⟨by simp; omega, by omega, by omega, by simp, fun h => by simp at h⟩
                  have HRD := Lib.hid hrowD
                  clear hrowD
                  go_wp2_with (at_builtin; refine wpList_append_row (w₀ := w11) (o := o11) (l := lt) rfl (.tmp 112) (.tmp 119) 48 rfl elemHd rfl QL.out (Below.refl _ _) _ _ _ ((es8.drop (nn + 1)).flatMap hfc) rfl HRD.out HON2.out (by omega) (by omega) ?_)
                  intro v13 w13 hrow13 hs13
                  obtain ⟨a13, c13, rfl⟩ := hrow13.form
                  obtain ⟨o13, ho13⟩ : ∃ x, newLab w11 o11 lt = x := ⟨_, rfl⟩
                  rw [ho13] at hrow13 hs13
                  have k13 := Q1.out.step hs13 (by omega)
                  have k4 := k13.cell (j := 4) rfl
                  have k3 : w13.cell? ⟨b, 3, none⟩ = some (.int .i64 (E8.got : Int)) := k13.cell (j := 3) rfl
                  have k4f := k13.frozen 4
                  have k3f := k13.frozen 3
                  have T1 := Lib.hid k13
                  have T2 := Lib.hid (Q2.out.step hs13 (by omega))
                  have T3 := Lib.hid (Q3.out.step hs13 (by omega))
                  have T6 := Lib.hid (Q6.out.step hs13 (by omega))
                  have TM := Lib.hid (RowL.step QM.out hs13 (by unfold Own at hlr; omega))
                  have TMM := Lib.hid (QMM.out.step hs13 (by omega))
                  have TS := Lib.hid (QS.out.trans (hs13.mono fun l hl => .inl (by subst hl; unfold Own; omega)))
                  have TR := Lib.hid hrow13
                  clear hrow13 hs13 ho13 k13 Q1 Q2 Q3 Q5 Q6 QM QMM QS QL QR HRD HON2 c4' f4'
                  have hmeas := drp_length HL8.out
                  have HDR2 := Lib.hid (drainE_some HL8.out)
                  go_wp2_with fail
                  go_roundg (drp E8.held ((E8.got : Int) + 1)).length
                  case measure => exact hmeas
                  case rel =>
                    have er : es8.eraseIdx nn = drp es8 ((E8.got : Int) + 1) := erase_drp es8 (by rw [T6.out.keys]; exact HDN) HL2.out
                    have eL : (es8.eraseIdx nn).length = nn + (NE - (nn + 1)) := by rw [List.length_eraseIdx, HNE.out]; split <;> omega
                    have ef : (es8.eraseIdx nn).flatMap hfc = (es8.take nn).flatMap hfc ++ (es8.drop (nn + 1)).flatMap hfc := by rw [rec_erase hfc_len, rec_take hfc_len, rec_drop hfc_len]
                    have s1 := EndAt.set T1.out 4 (.slice a13 (nn + (NE - (nn + 1))) c13)
                    have t1 := T1.out.set 4 (.slice a13 (nn + (NE - (nn + 1))) c13)
                    have s2 := EndAt.set t1 3 (.int .i64 ((E8.got : Int) + 1))
                    have t2 := t1.set 3 (.int .i64 ((E8.got : Int) + 1))
                    have s12 := s1.trans s2
                    have hrl : RecL hfc 2 108 w13 o13 lt (.slice a13 (nn + (NE - (nn + 1))) c13) (es8.eraseIdx nn) := by
                      unfold RecL
                      rw [eL, ef]
                      exact TR.out
                    refine ⟨o13, { E8 with got := E8.got + 1, held := drp E8.held ((E8.got : Int) + 1) }, acc ++ [mm], _, rfl, rfl, ⟨sv8, vs8, .slice a13 (nn + (NE - (nn + 1))) c13, es8.eraseIdx nn, lt, hlt2.2, t2, ?_, ?_, ?_, ?_⟩, ⟨ms8 ++ [.slice au mm.length cu], ?_, ?_⟩, ?_, ⟨?_, ?_, ?_⟩, ?_, ?_⟩
                    · exact T2.out.step s12 (by omega)
                    · exact T3.out.step s12 (by omega)
                    · exact RecL.step hrl s12 (by omega)
                    · rw [er]
                      exact HeldAt.drp (T6.out.step s12 (by omega)) _
                    · have := TM.out.step s12 (by unfold Own at hlr; omega)
                      simpa using this
                    · exact TMM.out.step s12 (by omega)
                    · exact TS.out.trans (s12.mono fun l hl => .inl (by subst hl; exact Own.at0 i))
                    · rw [← HDR2.out.1]; exact HDR.out.1
                    · rw [← HDR.out.2.1, HDR2.out.2]; simp
                    · exact drp_keys _ _ HDN
                    · simp only; omega
                    · simp; omega
                · have hrowD : RowAt w11 (some ⟨hb, ho + (nn + 1) * 2, none⟩) (NE - (nn + 1)) (hc8 - (nn + 1)) 2 ((es8.drop (nn + 1)).flatMap hfc) := by
                    have := QR.out.drop hfc_len (nn + 1) (by rw [HNE.out]; omega)
                    unfold RecAt at this
                    rw [HDL.out] at this
                    exact this
                  have HRD := Lib.hid hrowD
                  clear hrowD
                  go_wp2_with (at_builtin; refine wpList_append_row (w₀ := w11) (o := o11) (l := lt) rfl (.tmp 112) (.tmp 119) 48 rfl elemHd rfl QL.out (Below.refl _ _) _ _ _ ((es8.drop (nn + 1)).flatMap hfc) rfl HRD.out HON2.out (by omega) (by omega) ?_)
                  intro v13 w13 hrow13 hs13
                  obtain ⟨a13, c13, rfl⟩ := hrow13.form
                  obtain ⟨o13, ho13⟩ : ∃ x, newLab w11 o11 lt = x := ⟨_, rfl⟩
                  rw [ho13] at hrow13 hs13
                  have k13 := Q1.out.step hs13 (by omega)
                  have k4 := k13.cell (j := 4) rfl
                  have k3 : w13.cell? ⟨b, 3, none⟩ = some (.int .i64 (E8.got : Int)) := k13.cell (j := 3) rfl
                  have k4f := k13.frozen 4
                  have k3f := k13.frozen 3
                  have T1 := Lib.hid k13
                  have T2 := Lib.hid (Q2.out.step hs13 (by omega))
                  have T3 := Lib.hid (Q3.out.step hs13 (by omega))
                  have T6 := Lib.hid (Q6.out.step hs13 (by omega))
                  have TM := Lib.hid (RowL.step QM.out hs13 (by unfold Own at hlr; omega))
                  have TMM := Lib.hid (QMM.out.step hs13 (by omega))
                  have TS := Lib.hid (QS.out.trans (hs13.mono fun l hl => .inl (by subst hl; unfold Own; omega)))
                  have TR := Lib.hid hrow13
                  clear hrow13 hs13 ho13 k13 Q1 Q2 Q3 Q5 Q6 QM QMM QS QL QR HRD HON2 c4' f4'
                  have hmeas := drp_length HL8.out
                  have HDR2 := Lib.hid (drainE_some HL8.out)
                  go_wp2_with fail
                  go_roundg (drp E8.held ((E8.got : Int) + 1)).length
                  case measure => exact hmeas
                  case rel =>
                    have er : es8.eraseIdx nn = drp es8 ((E8.got : Int) + 1) := erase_drp es8 (by rw [T6.out.keys]; exact HDN) HL2.out
                    have eL : (es8.eraseIdx nn).length = nn + (NE - (nn + 1)) := by rw [List.length_eraseIdx, HNE.out]; split <;> omega
                    have ef : (es8.eraseIdx nn).flatMap hfc = (es8.take nn).flatMap hfc ++ (es8.drop (nn + 1)).flatMap hfc := by rw [rec_erase hfc_len, rec_take hfc_len, rec_drop hfc_len]
                    have s1 := EndAt.set T1.out 4 (.slice a13 (nn + (NE - (nn + 1))) c13)
                    have t1 := T1.out.set 4 (.slice a13 (nn + (NE - (nn + 1))) c13)
                    have s2 := EndAt.set t1 3 (.int .i64 ((E8.got : Int) + 1))
                    have t2 := t1.set 3 (.int .i64 ((E8.got : Int) + 1))
                    have s12 := s1.trans s2
                    have hrl : RecL hfc 2 108 w13 o13 lt (.slice a13 (nn + (NE - (nn + 1))) c13) (es8.eraseIdx nn) := by
                      unfold RecL
                      rw [eL, ef]
                      exact TR.out
                    refine ⟨o13, { E8 with got := E8.got + 1, held := drp E8.held ((E8.got : Int) + 1) }, acc ++ [mm], _, rfl, rfl, ⟨sv8, vs8, .slice a13 (nn + (NE - (nn + 1))) c13, es8.eraseIdx nn, lt, hlt2.2, t2, ?_, ?_, ?_, ?_⟩, ⟨ms8 ++ [.slice au mm.length cu], ?_, ?_⟩, ?_, ⟨?_, ?_, ?_⟩, ?_, ?_⟩
                    · exact T2.out.step s12 (by omega)
                    · exact T3.out.step s12 (by omega)
                    · exact RecL.step hrl s12 (by omega)
                    · rw [er]
                      exact HeldAt.drp (T6.out.step s12 (by omega)) _
                    · have := TM.out.step s12 (by unfold Own at hlr; omega)
                      simpa using this
                    · exact TMM.out.step s12 (by omega)
                    · exact TS.out.trans (s12.mono fun l hl => .inl (by subst hl; exact Own.at0 i))
                    · rw [← HDR2.out.1]; exact HDR.out.1
                    · rw [← HDR.out.2.1, HDR2.out.2]; simp
                    · exact drp_keys _ _ HDN
                    · simp only; omega
                    · simp; omega
        · -- it is there
          have hrs : r = some nn := by rw [← HR.out]; exact l1
          subst hrs
          have e2 : decide ((0 : Int) ≤ optI (some nn)) = true := by unfold optI; simp
          have hno := HNONE.out (fun h => by
            rcases hlook with ⟨h1, _⟩ | ⟨v', m', _, h1, _⟩
            · rw [l3] at h1; cases h1
            · rw [h.2] at h1; cases h1)
          have HNO := Lib.hid hno
          clear hno hlook hkeys l1 l2 l3 HR
          go_wp2_with fail
          go_ret
          rw [HNO.out.1, HNO.out.2]
          exact ⟨_, rfl, o1, HS6.out.mono fun _ h => .inl h, HE6.out, MRow.nil _ _ _⟩
end Go.Proofs.Ytmonpnikdheokaa
