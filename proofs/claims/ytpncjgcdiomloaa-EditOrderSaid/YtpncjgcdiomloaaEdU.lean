/-
  The walk of the law EditOrder.
-/
import Derived.Test.YtpncjgcdiomloaaEdQ
import Derived.Test.YtpncjgcdiomloaaEdO
import Derived.StillTactics
namespace Go.Proofs.Ytpncjgcdiomloaa
open Go Go.Proofs
open Go.RowKit
set_option linter.unusedVariables false
set_option linter.unusedSimpArgs false

theorem Snd.wide {n m : Nat} {es : List Ed} : ∀ {p : Nat}, Snd n p es → n ≤ m → Snd m p es := by
  induction es with
  | nil => intro p h hm; exact Nat.le_trans h hm
  | cons e es ih =>
    intro p h hm
    obtain ⟨h1, h2, h3, h4⟩ := h
    exact ⟨h1, h2, by omega, ih h4 hm⟩
theorem gen_map {n : Nat} {es : List Ed} (h : Snd n 0 es) (hl : es.length ≤ 5) (hn : n ≤ 1000000) (p : Int) (after : Bool) : mapX es p after = imgL p after es := by
  have hv : validL topI es = 0 := valid_of (n := 9223372036854775807) (h.wide (by omega)) (by omega)
  unfold mapX imgL
  rw [if_pos hv]
theorem gen_edm {n : Nat} {es : List Ed} (h : GenEd n es) (hn : n ≤ 1000000) : ∀ e ∈ es, EdM e := by
  intro e he
  have h7 := h.2.2 e he
  have : ∀ (l : List Ed) (q : Nat), Snd n q l → ∀ e ∈ l, 0 ≤ e.f ∧ e.f ≤ n ∧ 0 ≤ e.t ∧ e.t ≤ n := by
    intro l
    induction l with
    | nil => intro q _ e he; simp at he
    | cons x l ih =>
      intro q hq e he
      obtain ⟨g1, g2, g3, g4⟩ := hq
      rcases List.mem_cons.1 he with rfl | he
      · omega
      · exact ih _ g4 e he
  have := this es 0 h.1 e he
  unfold EdM
  omega
/-- Whether no edit up to the i-th one replaces the byte at p. -/
def keptB (n p : Nat) (es : List Ed) : Bool := decide (p < n) && es.all fun e => decide ((p : Int) < e.f) || decide (e.t ≤ (p : Int))
theorem keptB_snoc {n p : Nat} {es : List Ed} {e : Ed} : keptB n p (es ++ [e]) = (keptB n p es && (decide ((p : Int) < e.f) || decide (e.t ≤ (p : Int)))) := by
  unfold keptB
  simp [List.all_append, Bool.and_assoc]
theorem keptB_not {n p : Nat} {es : List Ed} (h : keptB n p es = true) : p < n ∧ ∀ e ∈ es, ¬ (e.f ≤ p ∧ (p : Int) < e.t) := by
  unfold keptB at h
  simp only [Bool.and_eq_true, decide_eq_true_eq, List.all_eq_true, Bool.or_eq_true] at h
  refine ⟨h.1, fun e he => ?_⟩
  have := h.2 e he
  omega

set_option maxRecDepth 100000 in
set_option maxHeartbeats 16000000 in
theorem editOrder_walk (s : ByteArray) (a2 : Option Addr) (c2 : Nat) (xs : List Int) (w : World) (hs : s.size ≤ 9223372036854775807) (hn : SliceAt w a2 c2 (xs.map intV)) (hnb : ∀ n ∈ xs, -9223372036854775808 ≤ n ∧ n ≤ 9223372036854775807) :
    Calls Try.prog 6 #[.string s, .slice a2 xs.length c2] w fun e w' => e = .returned (.bool true) ∧ Below w.heap.size w w' := by
  have K1 := Lib.hid (short_any s 40 w hs (by decide))
  have hfs := size_extract0 s 40
  have K3 := Lib.hid (raw_any (s.extract 0 40) a2 c2 xs w (by omega) hn hnb)
  generalize s.extract 0 40 = t at *
  clear hn hnb
  go_enter Try.func6, Try.ntmps6
  go_wp2_with fail
  refine K1.out.mono ?_
  rintro e w1 ⟨rfl, rfl⟩
  go_wp2_with fail
  refine K3.out.mono ?_
  rintro e w1 ⟨bx, dx, gs, rfl, hg, hat, hb1⟩
  have hv := valid_of (n := t.size) hg.1 (by have := hg.2.1; omega)
  have hS := hg.1
  have hul := apply_le (s := t.data.toList) hg.1 hg.2.2
  have hal := apply_len (s := t.data.toList) hg.1
  rw [size_list] at hul hal
  have hg5 := hg.2.1
  have hax : applyX t.data.toList gs = applyL t.data.toList 0 gs := applyX_ok hv
  have k4 := Apply_any t bx dx gs w1 (by omega) hat (by rw [hax]; omega)
  rw [hv, hax] at k4
  have K4 := Lib.hid k4
  have hedm := gen_edm hg (by omega)
  have hmp := gen_map hg.1 hg5 (by omega)
  have km := fun W (hW : Below w1.heap.size w1 W) (p : Int) (b : Bool) (hp : -10 ≤ p ∧ p ≤ 1000) => Map_any bx dx gs p b W (hat.below hW) (by omega) hedm
  simp only [hmp] at km
  have KM := Lib.hid km
  obtain ⟨U, hU⟩ : ∃ U, strB (applyL t.data.toList 0 gs) = U := ⟨_, rfl⟩
  have hUs : U.size = (applyL t.data.toList 0 gs).length := by rw [← hU]; exact strB_size _
  have hUl : U.data.toList = applyL t.data.toList 0 gs := by rw [← hU]; exact strB_list _
  rw [hU] at K4
  have HS := Lib.hid hS
  have HU := Lib.hid hUl
  have hgr : (U.size : Int) = t.size + growL gs := by rw [hUs]; simpa using hal
  have HGR := Lib.hid hgr
  have hUb : U.size ≤ 1000 := by rw [hUs]; omega
  have HAT := Lib.hid hat
  have hmx := hat.max
  have hcap := hat.le
  have hcm := hat.2.2.1
  clear k4 km hmp hedm hat hg hS hv hax hul hal hU hUs hUl hgr K1 K3
  go_wp2_with fail
  refine K4.out.mono ?_
  rintro e w2 ⟨rfl, hb2⟩
  clear K4
  go_wp2_with fail
  go_loopw [9] (fun pv wr => ∃ p : Nat, p ≤ t.size + 1 ∧ pv = .int .i64 p ∧ Below w1.heap.size w1 wr) (fun pv _ => t.size + 1 - (intOf pv).toNat)
  case atStart => exact ⟨0, by omega, rfl, hb2⟩
  case round =>
    obtain ⟨p, hp, rfl, hB⟩ := hrel
    by_cases hlt : p ≤ t.size
    · have d1 : decide (p ≤ t.size) = true := by simpa using hlt
      have d1' : decide ((p : Int) ≤ (t.size : Int)) = true := by simp; omega
      obtain ⟨g1, g2, g3⟩ := img_bounds (p := (p : Int)) HS.out (by omega) (by omega)
      rw [← HGR.out] at g3
      obtain ⟨lo, hlo⟩ : ∃ z, imgL (p : Int) false gs = z := ⟨_, rfl⟩
      obtain ⟨hi, hhi⟩ : ∃ z : Nat, imgL (p : Int) true gs = (z : Int) := ⟨(imgL (p : Int) true gs).toNat, by omega⟩
      rw [hlo] at g1 g2
      rw [hhi] at g2 g3
      have ka := (KM.out wr hB (p : Int) false (by omega))
      rw [hlo] at ka
      have KA := Lib.hid ka
      have kb := fun W hW => KM.out W hW (p : Int) true (by omega)
      rw [hhi] at kb
      have KB := Lib.hid kb
      have hkept : keptB t.size p gs = true → ∃ (h1 : p < t.size) (h2 : hi < U.size), U[hi] = t[p] := by
        intro hk
        obtain ⟨k1, k2⟩ := keptB_not hk
        have h := img_kept (s := t.data.toList) (q := 0) HS.out (Nat.zero_le _) k1 k2
        rw [hhi, Int.toNat_natCast, Nat.sub_zero, ← HU.out, List.getElem?_eq_getElem (l := t.data.toList) (i := p) (by rw [size_list]; exact k1)] at h
        obtain ⟨h3, h4⟩ := List.getElem?_eq_some_iff.1 h
        exact ⟨k1, h3, h4⟩
      obtain ⟨q, hq⟩ : ∃ q : Nat, (p : Int) - 1 = (q : Int) ∨ p = 0 ∧ q = 0 := ⟨p - 1, by omega⟩
      have hmono : (p : Int) - 1 = (q : Int) → imgL (q : Int) false gs ≤ lo ∧ imgL (q : Int) true gs ≤ hi := by
        intro h
        have m1 := img_mono (p := (q : Int)) (p' := (p : Int)) false HS.out (by omega) (by omega) (by omega)
        have m2 := img_mono (p := (q : Int)) (p' := (p : Int)) true HS.out (by omega) (by omega) (by omega)
        omega
      have kc := fun W hW => KM.out W hW (q : Int) false (by omega)
      have kd := fun W hW => KM.out W hW (q : Int) true (by omega)
      obtain ⟨lo1, hlo1⟩ : ∃ z, imgL (q : Int) false gs = z := ⟨_, rfl⟩
      obtain ⟨hi1, hhi1⟩ : ∃ z, imgL (q : Int) true gs = z := ⟨_, rfl⟩
      rw [hlo1] at kc hmono
      rw [hhi1] at kd hmono
      have KC := Lib.hid kc
      have KD := Lib.hid kd
      have HKP := Lib.hid hkept
      have e1 : decide ((hi : Int) < lo) = false := decide_eq_false (by omega)
      have e2 : decide (lo < 0) = false := decide_eq_false (by omega)
      have e3 : decide ((U.size : Int) < (hi : Int)) = false := decide_eq_false (by omega)
      have e3' : decide (U.size < hi) = false := decide_eq_false (by omega)
      have hpc : (decide (0 < p) = false ∧ decide ((0 : Int) < (p : Int)) = false) ∨ (decide (0 < p) = true ∧ decide ((0 : Int) < (p : Int)) = true ∧ (p : Int) - 1 = (q : Int) ∧ decide (lo < lo1) = false ∧ decide ((hi : Int) < hi1) = false) := by
        rcases Nat.eq_zero_or_pos p with h | h
        · exact .inl ⟨decide_eq_false (by omega), decide_eq_false (by omega)⟩
        · have hq1 : (p : Int) - 1 = (q : Int) := by omega
          have := hmono hq1
          exact .inr ⟨decide_eq_true h, decide_eq_true (by omega), hq1, decide_eq_false (by omega), decide_eq_false (by omega)⟩
      clear ka kb kc kd hlo hhi hlo1 hhi1 hkept hmono hq
      rcases hpc with ⟨p1, p2⟩ | ⟨p1, p2, hq1, p3, p4⟩
      all_goals
        go_wp2_with fail
        refine KA.out.mono ?_
        rintro e w3 ⟨rfl, hb3⟩
        have hB3 := Below.step hB hb3
        go_wp2_with fail
        refine (KB.out w3 hB3).mono ?_
        rintro e w4 ⟨rfl, hb4⟩
        have hB4 := Below.step hB3 hb4
        go_wp2_with (first | (go_at_call 24; (with_reducible refine (KC.out w4 hB4).mono ?_); rintro e w5 ⟨rfl, hb5⟩; have hB5 := Below.step hB4 hb5) | (go_at_call 24; (with_reducible refine (KD.out w5 hB5).mono ?_); rintro e w6 ⟨rfl, hb6⟩; have hB6 := Below.step hB5 hb6))
        obtain ⟨wo, rfl⟩ : ∃ wo : World, wo = wr := ⟨_, rfl⟩
        go_loopw [12, 13] (fun kv iv wr => ∃ i : Nat, i ≤ gs.length ∧ iv = .int .i64 i ∧ kv = .bool (keptB t.size p (gs.take i)) ∧ Below w1.heap.size w1 wr) (fun _ iv _ => gs.length - (intOf iv).toNat)
        case atStart => exact ⟨0, by omega, rfl, by simp [keptB], by first | exact hB6 | exact hB4⟩
        case round =>
          obtain ⟨i, hi2, rfl, rfl, hBi⟩ := hrel
          by_cases hil : i < gs.length
          · obtain ⟨b, off, rfl⟩ := HAT.out.addr (by omega)
            obtain ⟨e, he⟩ : ∃ e, gs[i]? = some e := ⟨gs[i], List.getElem?_eq_getElem hil⟩
            obtain ⟨f0, f1, f2⟩ := (HAT.out.below hBi).cells he
            have hsn : keptB t.size p (gs.take (i + 1)) = (keptB t.size p (gs.take i) && (decide ((p : Int) < e.f) || decide (e.t ≤ (p : Int)))) := by
              rw [List.take_succ_eq_append_getElem hil, keptB_snoc]
              rw [List.getElem?_eq_getElem hil, Option.some.injEq] at he
              rw [he]
            have HSN := Lib.hid hsn
            generalize keptB t.size p (gs.take i) = K at *
            obtain ⟨q1, hq1'⟩ : ∃ z, decide ((p : Int) < e.f) = z := ⟨_, rfl⟩
            obtain ⟨q2, hq2'⟩ : ∃ z, decide (e.t ≤ (p : Int)) = z := ⟨_, rfl⟩
            rw [hq1', hq2'] at HSN
            clear hsn he f2
            cases K <;> cases q1 <;> cases q2
            all_goals
              go_wp2_with fail
              go_roundw
              case rel => exact ⟨i + 1, by omega, by go_num, by rw [HSN.out]; rfl, hBi⟩
              case measure => simp [intOf]; omega
          · have hall : gs.take i = gs := List.take_of_length_le (by omega)
            rw [hall]
            obtain ⟨K, hK⟩ : ∃ K, keptB t.size p gs = K := ⟨_, rfl⟩
            rw [hK] at HKP ⊢
            clear hK hall
            cases K
            · go_wp2_with fail
              go_quiet (fail)
              go_wp2_with fail
              go_roundw
              case rel => first | exact ⟨p + 1, by omega, by go_num, hBi.trans (Below.drewN _)⟩ | ((repeat apply Exists.intro); refine ⟨?_, rfl⟩; exact ⟨p + 1, by omega, by go_num, hBi.trans (Below.drewN _)⟩)
              case measure => simp [intOf]; omega
            · obtain ⟨hpt, hiu, heq⟩ := HKP.out rfl
              have hne : ((U[hi].toNat : Int) != (t[p].toNat : Int)) = false := by rw [heq]; simp
              have y1 : decide (U.size ≤ hi) = false := decide_eq_false (by omega)
              have y2 : decide ((U.size : Int) ≤ (hi : Int)) = false := decide_eq_false (by omega)
              have y3 : (0 : Int) ≤ (hi : Int) := by omega
              have y4 : (hi : Int) < (U.size : Int) := by omega
              have y5 : (0 : Int) ≤ (p : Int) := by omega
              have y6 : (p : Int) < (t.size : Int) := by omega
              clear heq
              go_wp2_with fail
              refine wp_region_still_lit (by kernel_rfl) (by kernel_rfl) ?_
              repeat still_step
              refine wpStill_nil ?_
              change Exit.then _ _ _ _ wr.drew
              go_wp2_with fail
              go_roundw
              case rel => first | exact ⟨p + 1, by omega, by go_num, Below.drew hBi⟩ | ((repeat apply Exists.intro); refine ⟨?_, rfl⟩; exact ⟨p + 1, by omega, by go_num, Below.drew hBi⟩)
              case measure => simp [intOf]; omega
    · have d1 : decide (p ≤ t.size) = false := by simpa using hlt
      have d1' : decide ((p : Int) ≤ (t.size : Int)) = false := by simp; omega
      have z0 : imgL 0 false gs = 0 := map_zero 0 0 HS.out (by simp)
      have z1 : imgL (t.size : Int) true gs = U.size := by rw [HGR.out]; exact map_end _ HS.out
      have ka := KM.out wr hB 0 false (by omega)
      rw [z0] at ka
      have kb := fun W hW => KM.out W hW (t.size : Int) true (by omega)
      rw [z1] at kb
      have KA := Lib.hid ka
      have KB := Lib.hid kb
      clear ka kb z0 z1
      go_wp2_with fail
      refine KA.out.mono ?_
      rintro e w3 ⟨rfl, hb3⟩
      have hB3 := Below.step hB hb3
      go_wp2_with fail
      refine (KB.out w3 hB3).mono ?_
      rintro e w4 ⟨rfl, hb4⟩
      have hB4 := Below.step hB3 hb4
      go_wp2_with fail
      refine (lives_any w4).mono ?_
      rintro e w5 ⟨rfl, hb5⟩
      go_wp2_with fail
      go_ret
      exact ⟨rfl, Below.step hb1 (Below.step hB4 hb5)⟩
end Go.Proofs.Ytpncjgcdiomloaa
