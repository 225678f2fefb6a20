/-
  Contracts: the reference's normal; both Normals.
-/
import Derived.Test.YtpncjgcdiomloaaEdW
namespace Go.Proofs.Ytpncjgcdiomloaa
open Go Go.Proofs
open Go.RowKit
set_option linter.unusedVariables false
set_option linter.unusedSimpArgs false

theorem joinC_x {es : List Ed} {B : Nat} : ∀ {c : Ed} {A : Nat}, c.x.length ≤ A → (∀ e ∈ es, e.x.length ≤ B) → ∀ e ∈ joinC c es, e.x.length ≤ A + B * es.length := by
  induction es with
  | nil => intro c A hc _ e he; simp only [joinC, List.mem_singleton] at he; subst he; omega
  | cons x es ih =>
    intro c A hc hb e he
    have hx := hb x (by simp)
    have hr : ∀ y ∈ es, y.x.length ≤ B := fun y hy => hb y (List.mem_cons_of_mem _ hy)
    unfold joinC at he
    simp only [List.length_cons, Nat.mul_add, Nat.mul_one]
    split at he
    · have := ih (c := ⟨c.f, x.t, c.x ++ x.x⟩) (A := A + B) (by show (c.x ++ x.x).length ≤ _; rw [List.length_append]; omega) hr e he
      omega
    · rcases List.mem_cons.1 he with rfl | he
      · have : 0 ≤ B * es.length := Nat.zero_le _
        omega
      · have := ih (c := x) (A := B) hx hr e he
        omega
theorem joinL_x {es : List Ed} {B : Nat} (hb : ∀ e ∈ es, e.x.length ≤ B) : ∀ e ∈ joinL es, e.x.length ≤ B * (es.length + 1) := by
  cases es with
  | nil => intro e he; simp [joinL] at he
  | cons x es =>
    intro e he
    have := joinC_x (hb x (by simp)) (fun y hy => hb y (List.mem_cons_of_mem _ hy)) e he
    simp only [List.length_cons, Nat.mul_add, Nat.mul_one]
    omega
theorem norm_x {s : List UInt8} {es : List Ed} {B : Nat} (hb : ∀ e ∈ es, e.x.length ≤ B) : ∀ e ∈ normL s es, e.x.length ≤ B * (es.length + 1) := fun e he => joinL_x hb e (List.mem_filter.1 he).1

set_option maxRecDepth 100000 in
set_option maxHeartbeats 8000000 in
theorem rnormal_any (s : ByteArray) (a : Option Addr) (c : Nat) (es : List Ed) (w : World) (hs : s.size ≤ 1000000) (hx : EdsAt w a c es) (hl : es.length ≤ 1000) (hS : Snd s.size 0 es) (hb : ∀ e ∈ es, e.x.length ≤ 1000000) :
    Calls Try.prog 47 #[.string s, .slice a es.length c] w fun e w' => ∃ v, e = .returned v ∧ OwnEds w' w.heap.size v (normL s.data.toList es) ∧ Below w.heap.size w w' := by
  have HSN := Lib.hid (joinL_snd hS)
  have hJk := joinL_len es
  have K := Lib.hid (rjoined_any a c es w hx hl hb)
  unfold normL
  generalize joinL es = J at *
  clear hS hb hx
  go_enter Try.func47, Try.ntmps47
  go_wp2_with fail
  refine K.out.mono ?_
  rintro e wo ⟨v, rfl, hO, hB⟩
  obtain ⟨aj, cj, rfl, hrow⟩ := hO.at
  have hcj := hrow.le
  have hcm := hrow.2.2.1
  have HROW := Lib.hid hrow
  clear hrow hO K
  go_wp2_with fail
  go_loopw [6, 7] (fun ov iv wr => ∃ (i : Nat) (acc : List Ed), i ≤ J.length ∧ iv = .int .i64 i ∧ acc.length ≤ i ∧ Hid (acc = (J.take i).filter (keepE s.data.toList)) ∧ OwnEds wr wo.heap.size ov acc ∧ Below wo.heap.size wo wr) (fun _ iv _ => J.length - (intOf iv).toNat)
  case atStart => exact ⟨0, [], by omega, rfl, by simp, by rfl, OwnEds.nil _ _, Below.refl _ _⟩
  case round =>
    obtain ⟨i, acc, hi, rfl, hal, hacc, hO, hB2⟩ := hrel
    by_cases hil : i < J.length
    · obtain ⟨b, off, rfl⟩ := HROW.out.addr (by omega)
      obtain ⟨e, he⟩ : ∃ e, J[i]? = some e := ⟨J[i], List.getElem?_eq_getElem hil⟩
      obtain ⟨f0, f1, f2⟩ := (HROW.out.below hB2).cells he
      obtain ⟨m1, m2, m3⟩ := snd_mem HSN.out e (List.mem_of_getElem? he)
      have hta : (J.take (i + 1)).filter (keepE s.data.toList) = acc ++ (if keepE s.data.toList e then [e] else []) := by
        rw [List.take_succ_eq_append_getElem hil, List.filter_append, hacc.out]
        rw [List.getElem?_eq_getElem hil, Option.some.injEq] at he
        rw [he, List.filter_cons, List.filter_nil]
      obtain ⟨ef, et, ex⟩ := e
      simp only at f0 f1 f2 m1 m2 m3
      obtain ⟨f, rfl⟩ : ∃ f : Nat, ef = f := ⟨ef.toNat, by omega⟩
      obtain ⟨t, rfl⟩ : ∃ t : Nat, et = t := ⟨et.toNat, by omega⟩
      have hkeep : keepE s.data.toList ⟨f, t, ex⟩ = !decide (s.extract f t = strB ex) := by
        unfold keepE
        simp only [Int.toNat_natCast]
        congr 1
        rw [ext_strB]
        exact decide_eq_decide.2 ⟨fun h => congrArg strB h, fun h => by rw [← strB_list (cutL s.data.toList f t), h, strB_list]⟩
      rw [hkeep] at hta
      obtain ⟨cut, hcut⟩ : ∃ cut, s.extract f t = cut := ⟨_, rfl⟩
      obtain ⟨tx, htx⟩ : ∃ tx, strB ex = tx := ⟨_, rfl⟩
      rw [htx] at f2
      rw [hcut, htx] at hta
      have HO0 := Lib.hid hO
      have HB0 := Lib.hid hB2
      have HTA := Lib.hid hta
      have HTX := Lib.hid htx
      have hsz1 := hB2.size
      have d0 : wr.drew.cell? ⟨b, off + i * 3, none⟩ = some (.int .i64 f) := f0
      have d1 : wr.drew.cell? ⟨b, off + i * 3 + 1, none⟩ = some (.int .i64 t) := f1
      have d2 : wr.drew.cell? ⟨b, off + i * 3 + 2, none⟩ = some (.string tx) := f2
      obtain ⟨av, cv, rfl, _⟩ := hO.at
      clear he hO hB2 hta hkeep htx hacc
      by_cases hk : cut = tx
      · subst hk
        have hta2 := HTA.out
        rw [show decide (cut = cut) = true by simp] at hta2
        simp only [Bool.not_true, Bool.false_eq_true, if_false, List.append_nil] at hta2
        have HTA2 := Lib.hid hta2
        clear hta2 HTA
        go_wp2_with fail
        refine wp_region_still_lit (by kernel_rfl) (by kernel_rfl) ?_
        repeat still_step
        refine wpStill_nil ?_
        change Exit.then _ _ _ _ wr.drew
        go_wp2_with fail
        have hBd : Below wo.heap.size wo wr.drew := Below.drew HB0.out
        have hOd : OwnEds wr.drew wo.heap.size (.slice av acc.length cv) acc := HO0.out
        first
          | exact ⟨⟨i + 1, acc, by omega, by go_num, by omega, Lib.hid HTA2.out.symm, hOd, hBd⟩, by simp [intOf]; omega⟩
          | (go_roundw
             case rel => exact ⟨i + 1, acc, by omega, by go_num, by omega, Lib.hid HTA2.out.symm, hOd, hBd⟩
             case measure => simp [intOf]; omega)
      · have hkl : ¬ cut.toList = tx.toList := fun h => by
          rw [ByteArray.toList_eq, ByteArray.toList_eq] at h
          apply hk
          rw [← strB_of cut, ← strB_of tx, h]
        have g1 : (cut.toList == tx.toList) = false := by simpa using hkl
        have g2 : (cut.toList != tx.toList) = true := by simpa using hkl
        have hta2 := HTA.out
        rw [show decide (cut = tx) = false by simpa using hk] at hta2
        simp only [Bool.not_false, if_true] at hta2
        have HTA2 := Lib.hid hta2
        clear hta2 HTA hk
        go_wp2_with fail
        refine wp_region_still_lit (by kernel_rfl) (by kernel_rfl) ?_
        repeat still_step
        refine wpStill_nil ?_
        change Exit.then _ _ _ _ wr.drew
        obtain ⟨W1, hW1⟩ : ∃ W1, W1 = wr.drew := ⟨_, rfl⟩
        have hB1 : Below wr.heap.size wr W1 := by rw [hW1]; exact Below.drew (Below.refl _ _)
        have y0 := Below.kept hB1 (Nat.le_refl _) f0
        have y1 := Below.kept hB1 (Nat.le_refl _) f1
        have y2 := Below.kept hB1 (Nat.le_refl _) f2
        rw [← hW1]
        clear hW1 d0 d1 d2
        have hs1 := hB1.size
        go_wp2_with (at_builtin; refine wpList_append_src _ rfl (.tmp 34) (.tmp 39) 22 rfl elemE wo.heap.size _ acc.length _ rfl (ownsRow_below HO0.out (hB1.trans ((Below.refl _ W1).alloc hs1 _))) (some ⟨W1.heap.size, 0, none⟩) 1 1 [.int .i64 f, .int .i64 t, .string tx] rfl (row_new (cs := [.int .i64 f, .int .i64 t, .string tx]) rfl (by decide)) (by simp [Value.oneCell']) (by omega) (by omega) (by simp; omega) ?_; intro v2 w2 hown2 hB2 hgrow)
        have hO2 : OwnEds w2 wo.heap.size v2 (acc ++ [⟨f, t, ex⟩]) := OwnEds.snoc (e := ⟨f, t, ex⟩) (by unfold edC; simp only; rw [HTX.out]; exact hown2)
        have hBf : Below wo.heap.size wo w2 := (HB0.out.trans ((hB1.mono hsz1).trans ((Below.refl _ W1).alloc (Nat.le_trans hsz1 hs1) _))).trans hB2
        first
          | exact ⟨⟨i + 1, acc ++ [⟨f, t, ex⟩], by omega, by go_num, by simp; omega, Lib.hid HTA2.out.symm, hO2, hBf⟩, by simp [intOf]; omega⟩
          | (go_roundw
             case rel => exact ⟨i + 1, acc ++ [⟨f, t, ex⟩], by omega, by go_num, by simp; omega, Lib.hid HTA2.out.symm, hO2, hBf⟩
             case measure => simp [intOf]; omega)
    · have hfin := hacc.out
      rw [List.take_of_length_le (by omega)] at hfin
      subst hfin
      have HOF := Lib.hid (OwnEds.base hO hB.size)
      clear hO hacc
      go_wp2_with fail
      go_ret
      exact ⟨_, rfl, HOF.out, hB.trans (hB2.mono hB.size)⟩

def normX (l : List UInt8) (es : List Ed) : List Ed := if validL l.length es = 0 then normL l es else []
theorem normX_ok {l : List UInt8} {es : List Ed} (h : validL l.length es = 0) : normX l es = normL l es := by unfold normX; rw [if_pos h]
theorem normX_bad {l : List UInt8} {es : List Ed} (h : validL l.length es ≠ 0) : normX l es = [] := by unfold normX; rw [if_neg h]
theorem valid_len {n : Int} {es : List Ed} (h : validL n es = 0) : es.length ≤ 64 := by
  unfold validL at h
  split at h
  · omega
  · omega

theorem Normal_any (s : ByteArray) (a : Option Addr) (c : Nat) (es : List Ed) (w : World) (hs : s.size ≤ 1000000) (hx : EdsAt w a c es) (hb : ∀ e ∈ es, e.x.length ≤ 1000000) :
    Calls Try.prog 28 #[.string s, .slice a es.length c] w fun e w' => ∃ v, e = .returned (.tuple #[v, .int .i64 (validL s.size es)]) ∧ OwnEds w' w.heap.size v (normX s.data.toList es) ∧ Below w.heap.size w w' := by
  have K := Lib.hid (valid_any s a c es w (by omega) hx)
  by_cases hv : validL s.size es = 0
  · have hv' : validL s.data.toList.length es = 0 := hv
    have h64 := valid_len hv
    rw [normX_ok hv']
    have K2 := Lib.hid fun w' (hb' : Below w.heap.size w w') => normal_any s a c es w' hs (hx.below hb') (by omega) (valid_snd hv) hb
    rw [hv] at K ⊢
    generalize normL s.data.toList es = R at *
    clear hv hv' hb
    go_enter Try.func28, Try.ntmps28
    go_wp2_with fail
    refine K.out.mono ?_
    rintro e w1 ⟨rfl, hb1⟩
    go_wp2_with fail
    refine (K2.out w1 hb1).mono ?_
    rintro e w2 ⟨v, rfl, ho2, hb2⟩
    have HO := Lib.hid (OwnEds.base ho2 hb1.size)
    clear ho2 K2
    go_wp2
    go_ret2
    exact ⟨_, rfl, HO.out, Below.step hb1 hb2⟩
  · have hv' : validL s.data.toList.length es ≠ 0 := hv
    rw [normX_bad hv']
    clear hv'
    generalize validL s.size es = v at *
    have hne : (v != 0) = true := by simpa using hv
    clear hv hb
    go_enter Try.func28, Try.ntmps28
    go_wp2_with fail
    refine K.out.mono ?_
    rintro e w1 ⟨rfl, hb1⟩
    go_wp2
    go_ret2
    exact ⟨_, rfl, OwnEds.nil _ _, hb1⟩
theorem rNormal_any (s : ByteArray) (a : Option Addr) (c : Nat) (es : List Ed) (w : World) (hs : s.size ≤ 1000000) (hx : EdsAt w a c es) (hb : ∀ e ∈ es, e.x.length ≤ 1000000) :
    Calls Try.prog 29 #[.string s, .slice a es.length c] w fun e w' => ∃ v, e = .returned (.tuple #[v, .int .i64 (validL s.size es)]) ∧ OwnEds w' w.heap.size v (normX s.data.toList es) ∧ Below w.heap.size w w' := by
  have K := Lib.hid (rvalid_any s a c es w (by omega) hx)
  by_cases hv : validL s.size es = 0
  · have hv' : validL s.data.toList.length es = 0 := hv
    have h64 := valid_len hv
    rw [normX_ok hv']
    have K2 := Lib.hid fun w' (hb' : Below w.heap.size w w') => rnormal_any s a c es w' hs (hx.below hb') (by omega) (valid_snd hv) hb
    rw [hv] at K ⊢
    generalize normL s.data.toList es = R at *
    clear hv hv' hb
    go_enter Try.func29, Try.ntmps29
    go_wp2_with fail
    refine K.out.mono ?_
    rintro e w1 ⟨rfl, hb1⟩
    go_wp2_with fail
    refine (K2.out w1 hb1).mono ?_
    rintro e w2 ⟨v, rfl, ho2, hb2⟩
    have HO := Lib.hid (OwnEds.base ho2 hb1.size)
    clear ho2 K2
    go_wp2
    go_ret2
    exact ⟨_, rfl, HO.out, Below.step hb1 hb2⟩
  · have hv' : validL s.data.toList.length es ≠ 0 := hv
    rw [normX_bad hv']
    clear hv'
    generalize validL s.size es = v at *
    have hne : (v != 0) = true := by simpa using hv
    clear hv hb
    go_enter Try.func29, Try.ntmps29
    go_wp2_with fail
    refine K.out.mono ?_
    rintro e w1 ⟨rfl, hb1⟩
    go_wp2
    go_ret2
    exact ⟨_, rfl, OwnEds.nil _ _, hb1⟩
end Go.Proofs.Ytpncjgcdiomloaa
