/-
  Contracts of package document: become, apply.
-/
import Derived.Test.YtmonpnikdheokaaSyJ
import Derived.Deep.RegionLaw
namespace Go.Proofs.Ytmonpnikdheokaa
open Go Go.Proofs
open Go.RowKit
set_option linter.unusedVariables false
set_option linter.unusedSimpArgs false

theorem one_two {s : ByteArray} {v : Value} (h : v.oneCell' = true) : ∀ u ∈ [Value.string s, v], u.oneCell' = true := by
  intro u hu
  simp only [List.mem_cons, List.not_mem_nil, or_false] at hu
  rcases hu with rfl | rfl
  · rfl
  · exact h
set_option maxRecDepth 100000 in
set_option maxHeartbeats 1000000 in
theorem cloneE_any (a : Option Addr) (c : Nat) (es : List Ed) (w : World) (hx : EdsAt w a c es) (hl : es.length ≤ 1000) :
    Calls Try.prog 104 #[.slice a es.length c] w fun e w' => ∃ (a' : Option Addr) (n' c' : Nat), e = .returned (.slice a' n' c') ∧ Below w.heap.size w w' := by
  have hle := hx.le
  cases a with
  | none =>
    have hc : c = 0 := hx.2.2.2.1 rfl
    subst hc
    obtain rfl : es = [] := List.eq_nil_of_length_eq_zero (by omega)
    clear hx hle
    have q := fun wx => Lib.run_eql_slice_nil (P := Try.prog) wx 112 155 none 0 0 0 0 Try.underlying112
    go_enter Try.func104, Try.ntmps104
    go_wp2
    go_ret
    exact ⟨_, _, _, rfl, Below.refl _ _⟩
  | some ad =>
    have h1 := edCs_one es
    have HX := Lib.hid hx
    clear hx hle
    obtain ⟨vs, hvs⟩ : ∃ vs, edCs es = vs := ⟨_, rfl⟩
    unfold EdsAt at HX
    rw [hvs] at h1 HX
    clear hvs
    generalize es.length = n at *
    have q := fun wx => Lib.run_eql_slice_nil (P := Try.prog) wx 112 155 (some ad) n c 0 0 Try.underlying112
    have hown : (w.alloc (.cells #[] 155)).ownsRow w.heap.size 155 3 (.slice (some ⟨w.heap.size, 0, none⟩) 0 0) 0 [] := World.ownsRow_lit w #[] 0 (Nat.le_refl _) (by decide) rfl
    go_enter Try.func104, Try.ntmps104
    go_wp2_with (at_builtin; refine wpList_append_src _ rfl _ _ 112 rfl elemE w.heap.size _ 0 _ rfl hown (some ad) n c vs rfl (RowAt.below HX.out ((Below.refl _ w).alloc (Nat.le_refl _) _)) h1 (by omega) (by omega) (by simp) ?_)
    intro v' w' hown' hbel' hgrow
    obtain ⟨a', c', rfl, _⟩ := ownsRow_row hown'
    go_wp2
    go_ret
    refine ⟨_, _, _, rfl, ((Below.refl _ w).alloc (Nat.le_refl _) _).trans hbel'⟩

set_option maxRecDepth 100000 in
set_option maxHeartbeats 4000000 in
theorem docBecome_any (i b m : Nat) (H : List (List UInt8)) (txt : List UInt8) (a : Option Addr) (c : Nat) (es : List Ed) (w : World) (o : Nat → Nat) (hi : 1 ≤ i) (h : DocH w o i b m H) (ht : H[m]? = some txt) (hx : EdsAt w a c es) (hm : m ≤ 15)
    (hl : txt.length ≤ 4096) (hs : Snd txt.length 0 es) (h64 : es.length ≤ 64) (hT : (applyL txt 0 es).length ≤ 4096) :
    Calls Try.prog 86 #[.pointer (some ⟨b, 0, none⟩), .slice a es.length c] w fun e w' => e = .returned (.int .i64 0) ∧ ∃ o', Step (Own i) w o w' o' ∧ DocH w' o' i b (m + 1) (H ++ [applyL txt 0 es]) := by
  have hva := valid_of hs h64
  have k1 := docText_any i b m H txt w o h ht (by omega)
  have k2 := fun W (hW : Below w.heap.size w W) => Apply_any (strB txt) a c es W (by rw [strB_size]; omega) (hx.below hW) (by rw [strB_list, applyX_ok hva]; omega)
  rw [strB_list, applyX_ok hva, strB_size, hva] at k2
  obtain ⟨T, hTT⟩ : ∃ T, applyL txt 0 es = T := ⟨_, rfl⟩
  rw [hTT] at k2 hT ⊢
  have K1 := Lib.hid k1
  have K2 := Lib.hid k2
  have HX := Lib.hid hx
  have HH := Lib.hid h
  have zT : (strB T).size = T.length := strB_size T
  clear k1 k2 hx h hva hs hTT
  go_enter Try.func86, Try.ntmps86
  go_wp2_with fail
  refine K1.out.mono ?_
  rintro e w1 ⟨rfl, hb1⟩
  go_wp2_with fail
  refine (K2.out w1 hb1).mono ?_
  rintro e w2 ⟨rfl, hb2⟩
  have hB2 := Below.step hb1 hb2
  obtain ⟨lv, mb, xs, h1, h2, h3, h4⟩ := HH.out.same hB2
  obtain ⟨la, lc, rfl⟩ := h2.form
  have hxl : xs.length = (m + 1) * 2 := h2.1.1
  have c1 := h1.cell (j := 1) rfl
  have d1 : decide ((4096 : Int) < (T.length : Int)) = false := decide_eq_false (by omega)
  have d1' : decide (4096 < T.length) = false := decide_eq_false (by omega)
  have H1 := Lib.hid h1
  have H2 := Lib.hid h2
  have H3 := Lib.hid h3
  have H4 := Lib.hid h4
  have HXL := Lib.hid hxl
  have HB2 := Lib.hid hB2
  have hlt := h1.lt
  clear h1 h2 h3 h4 hxl hb1 hb2 hB2 K1 K2
  go_wp2_with fail
  have c1d : w2.drew.cell? ⟨b, 1, none⟩ = some (.slice la (m + 1) lc) := c1
  go_region_law (first
           | (go_simp; go_at_call 104; (with_reducible refine (cloneE_any a c es _ (HX.out.below (Below.step HB2.out (Below.drew (Below.refl _ w2)))) (by omega)).mono ?_); rintro e w3 ⟨ka, kn, kc, rfl, hb3⟩
              have hs3 : Step (fun _ => False) w2 o w3 (newLab w2 o 0) := Step.below ((Below.drew (Below.refl _ w2)).trans hb3) fun k hk => newLab_old _ _ _ hk
              have H21 := H2.out.step hs3 (fun h => h)
              have H11 := H1.out.step hs3 (fun h => h)
              have k2 := H11.cell (j := 1) rfl
              have k3 := H11.frozen 1
              have H11a := fun ob => H11.step ((Step.refl (fun _ => False) w3 (newLab w2 o 0)).alloc ob) (fun h => h)
              have k4 := fun ob => (H11a ob).cell (j := 1) rfl
              have k5 := fun ob => (H11a ob).frozen 1
              clear H11a)
           | (refine step_append_row (by rfl) (.tmp 25) (.tmp 30) 119 (by rfl) elemSt (by rfl) H21 ((Below.refl _ w3).alloc (Nat.le_refl _) _) (some ⟨w3.heap.size, 0, none⟩) 1 1 [.string (strB T), .slice ka kn kc] (by rfl) (row_new (cs := [.string (strB T), .slice ka kn kc]) (by simp) (by omega)) (one_two rfl) (by omega) (by omega) ?_; intro v' w4 hrow4 hs4
              obtain ⟨a4, c4, rfl⟩ := hrow4.form
              have H14 := H11.step hs4 (by omega)
              have k2 := H14.cell (j := 1) rfl
              have k3 := H14.frozen 1))
  all_goals
    obtain ⟨o4, ho4⟩ : ∃ o4, newLab w3 (newLab w2 o 0) (10 * i + 1) = o4 := ⟨_, rfl⟩
    rw [ho4] at hs4 hrow4 H14
    have hB5 := H14.set 1 (.slice a4 (m + 1 + 1) c4)
    have hs5 : Step (· = 10 * i) w4 o4 (w4.setCell ⟨b, 1, none⟩ (.slice a4 (m + 1 + 1) c4)) o4 := (Step.refl _ _ _).set (p := ⟨b, 1, none⟩) H14.lab _
    obtain ⟨w5, hw5⟩ : ∃ w5, w4.setCell ⟨b, 1, none⟩ (.slice a4 (m + 1 + 1) c4) = w5 := ⟨_, rfl⟩
    rw [hw5] at hB5 hs5 ⊢
    have e0 := hB5.cell (j := 0) rfl
    have e1 := hB5.cell (j := 1) rfl
    have e2 := hB5.frozen 0
    have d2 : decide ((17 : Int) < (m : Int) + 1 + 1) = false := decide_eq_false (by omega)
    have i1 : IntKind.i64.wrap ((m : Int) + 1) = (m : Int) + 1 := IntWalk.i64_in _ (by omega)
    have HB5 := Lib.hid hB5
    have HS5 := Lib.hid hs5
    have HS4 := Lib.hid hs4
    have HS3 := Lib.hid hs3
    have HR4 := Lib.hid hrow4
    clear hB5 hs5 hs4 hs3 hrow4 H14 H21 H11 k2 k3 k4 k5 hw5 ho4 hb3 c1 c1d
    go_wp2_with fail
    go_ret
    have hs6 : Step (· = 10 * i) w5 o4 (w5.setCell ⟨b, 0, none⟩ (.int .i64 ((m : Int) + 1))) o4 := (Step.refl _ _ _).set (p := ⟨b, 0, none⟩) HB5.out.lab _
    have hB6 := HB5.out.set 0 (.int .i64 ((m : Int) + 1))
    have s1 : Step (Own i) w o w2 o := Step.below HB2.out fun _ _ => rfl
    have s2 : Step (Own i) w2 o w3 (newLab w2 o 0) := HS3.out.mono fun _ h => h.elim
    have s3 : Step (Own i) w3 (newLab w2 o 0) w4 o4 := HS4.out.mono fun l hl => by subst hl; exact Own.at1 i
    have s4 : Step (Own i) w4 o4 w5 o4 := HS5.out.mono fun l hl => by subst hl; exact Own.at0 i
    have s5 := hs6.mono (L' := Own i) fun l hl => by subst hl; exact Own.at0 i
    refine ⟨rfl, o4, (((s1.trans s2).trans s3).trans s4).trans s5, _, mb, _, hB6, (HR4.out.step HS5.out (by omega)).step hs6 (by omega), ?_, (((H4.out.step HS3.out (fun h => h)).step HS4.out (by omega)).step HS5.out (by omega)).step hs6 (by omega)⟩
    refine ⟨by rw [List.length_append, H3.out.1]; rfl, fun j t hj => ?_⟩
    by_cases hjl : j < H.length
    · rw [List.getElem?_append_left hjl] at hj
      have h1 := H3.out.2 j t hj
      rw [List.getElem?_append_left (List.getElem?_eq_some_iff.1 h1).1]
      exact h1
    · have hl1 := H3.out.1
      rw [List.getElem?_append_right (by omega)] at hj
      have hj0 : j - H.length = 0 := by
        have := (List.getElem?_eq_some_iff.1 hj).1
        simp at this
        omega
      rw [hj0] at hj
      simp at hj
      subst hj
      obtain rfl : j = m + 1 := by omega
      rw [List.getElem?_append_right (by rw [HXL.out]; omega), HXL.out, Nat.sub_self]
      rfl
end Go.Proofs.Ytmonpnikdheokaa
