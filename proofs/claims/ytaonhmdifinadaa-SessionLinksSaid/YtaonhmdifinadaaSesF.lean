/-
  Contracts of package session: Finish, Next.
-/
import Derived.Test.YtaonhmdifinadaaSesE
namespace Go.Proofs.Ytaonhmdifinadaa
open Go Go.Proofs
open Go.RowKit
set_option linter.unusedVariables false
set_option linter.unusedSimpArgs false

/-- Records that bear label l. -/
def RecD {α : Type} (f : α → List Value) (z : Nat) (w : World) (o : Nat → Nat) (l : Nat) (a : Option Addr) (c : Nat) (xs : List α) : Prop :=
  RecAt f z w a c xs ∧ (0 < (xs.flatMap f).length → ∀ b off, a = some ⟨b, off, none⟩ → o b = l ∧ b < w.heap.size)
theorem RecD.step {α : Type} {f : α → List Value} {z : Nat} {w w' : World} {o o' : Nat → Nat} {l : Nat} {a : Option Addr} {c : Nat} {xs : List α} {L : Nat → Prop} (h : RecD f z w o l a c xs) (hs : Step L w o w' o') (hl : ¬ L l) : RecD f z w' o' l a c xs := by
  refine ⟨⟨h.1.1, h.1.2.1, h.1.2.2.1, h.1.2.2.2.1, fun hp => ?_⟩, fun hp b off ha => ?_⟩
  · obtain ⟨b, off, ha, hc⟩ := h.1.2.2.2.2 hp
    obtain ⟨hb, hlt⟩ := h.2 hp b off ha
    refine ⟨b, off, ha, fun i v hi => ?_⟩
    rw [World.cell?_of_block (w := w) (a := ⟨b, off + i, none⟩) (hs.block b hlt (by rw [hb]; exact hl))]
    exact hc i v hi
  · obtain ⟨hb, hlt⟩ := h.2 hp b off ha
    exact ⟨by rw [hs.lab b hlt]; exact hb, Nat.lt_of_lt_of_le hlt hs.size⟩
theorem RecD.same {α : Type} {f : α → List Value} {z : Nat} {w w' : World} {o : Nat → Nat} {l : Nat} {a : Option Addr} {c : Nat} {xs : List α} (h : RecD f z w o l a c xs) (hb : Below w.heap.size w w') : RecD f z w' o l a c xs :=
  h.step (L := fun _ => False) (Step.same hb) (fun h => h)
/-- What a call has made anew. -/
theorem RecD.new {α : Type} {f : α → List Value} {z : Nat} {w w' : World} {o : Nat → Nat} {l : Nat} {e : TypeId} {v : Value} {xs : List α} (h : OwnRec f z e w' w.heap.size v xs) : ∃ a c, v = .slice a xs.length c ∧ RecD f z w' (newLab w o l) l a c xs := by
  obtain ⟨a, c, rfl, hr⟩ := h.at
  refine ⟨a, c, rfl, hr, fun hp b off ha => ?_⟩
  subst ha
  have := h.lt b rfl
  exact ⟨newLab_new _ _ _ this.1, this.2⟩

theorem finS_nil {S : SesS} (h : S.run = false) (id e : Int) (t : ByteArray) (l : List Vn) : finE S id = 7 ∧ finS S id e t l = S := by
  obtain ⟨rq, run, last, an⟩ := S
  simp only at h
  subst h
  exact ⟨rfl, rfl⟩
theorem finS_no {S : SesS} {r : Rq} {id : Int} (h0 : S.rq[0]? = some r) (h : r.id ≠ id) (e : Int) (t : ByteArray) (l : List Vn) : finE S id = 7 ∧ finS S id e t l = S := by
  obtain ⟨rq, run, last, an⟩ := S
  cases rq with
  | nil => simp at h0
  | cons x xs =>
    simp at h0
    subst h0
    cases run
    · exact ⟨rfl, rfl⟩
    · exact ⟨by simp [finE, h], by simp [finS, h]⟩
theorem finS_yes {S : SesS} {r : Rq} {id : Int} (hr : S.run = true) (h0 : S.rq[0]? = some r) (h : r.id = id) (e : Int) (t : ByteArray) (l : List Vn) : finE S id = 0 ∧
    finS S id e t l = ansS S 0 (if stale l r = true then 17 else e) (if stale l r = true then ByteArray.empty else if e = 0 then t else ByteArray.empty) := by
  obtain ⟨rq, run, last, an⟩ := S
  cases rq with
  | nil => simp at h0
  | cons x xs =>
    simp at h0
    simp only at hr
    subst h0
    subst hr
    refine ⟨by simp [finE, h], ?_⟩
    simp only [finS, h, if_true]
    by_cases hs : stale l x = true
    · simp [hs]
    · by_cases he : e = 0 <;> simp [hs, he]

theorem answer0_any (i b : Nat) (S : SesS) (e : Int) (t : ByteArray) (w : World) (o : Nat → Nat) (hi : 1 ≤ i) (hS : SesP w o i b S) (hk : 0 < S.rq.length) (hn : S.rq.length ≤ 1000000) (ha : S.an.length ≤ 1000000) :
    Calls Try.prog 69 #[.pointer (some ⟨b, 0, none⟩), .int .i64 0, .int .i64 e, .string t] w fun x w' => x = .returned (.tuple #[]) ∧ ∃ o', Step (Own i) w o w' o' ∧ SesP w' o' i b (ansS S 0 e t) :=
  answer_any i b 0 S e t w o hi hS hk hn ha

set_option maxRecDepth 100000 in
set_option maxHeartbeats 4000000 in
theorem finish_any (i b lv : Nat) (S : SesS) (id e : Int) (t : ByteArray) (a : Option Addr) (c : Nat) (l : List Vn) (w : World) (o : Nat → Nat) (hi : 1 ≤ i) (hS : SesP w o i b S) (hr : S.run = true → S.rq ≠ []) (hn : S.rq.length ≤ 1000000) (ha : S.an.length ≤ 1000000)
    (hx : RecAt vnC 2 w a c l) :
    Calls Try.prog 21 #[.pointer (some ⟨b, 0, none⟩), .int .i64 id, .int .i64 e, .string t, .slice a l.length c] w fun x w' => x = .returned (.int .i64 (finE S id)) ∧ ∃ o', Step (Own i) w o w' o' ∧ SesP w' o' i b (finS S id e t l) := by
  have hS' := hS
  obtain ⟨rv, av, h1, h2, h3⟩ := hS'
  obtain ⟨ra, rc, rfl⟩ := h2.form
  have hrec := h2.recAt.2
  have c0 := h1.cell (j := 0) rfl
  have c1 := h1.cell (j := 1) rfl
  have hxl := hx.le
  have hxc := hx.cap_le
  have hle := hrec.le
  cases hrun : S.run with
  | false =>
    rw [(finS_nil hrun id e t l).1, (finS_nil hrun id e t l).2]
    rw [hrun] at c1
    clear h1 h2 h3 hrec hr
    go_enter Try.func21, Try.ntmps21
    go_wp2_with fail
    go_ret
    exact ⟨rfl, o, Step.refl _ _ _, hS⟩
  | true =>
    have hp : 0 < S.rq.length := List.length_pos_iff.2 (hr hrun)
    obtain ⟨r, hr0⟩ : ∃ r, S.rq[0]? = some r := ⟨S.rq[0], List.getElem?_eq_getElem hp⟩
    obtain ⟨g, gc, he, hog, hgl⟩ := h2.own hp
    simp only [Value.slice.injEq] at he
    obtain ⟨rfl, _, rfl⟩ := he
    obtain ⟨f0, f1, f2, f3, f4, f5⟩ := Rqs.cells hrec hr0
    simp only [Nat.zero_add, Nat.zero_mul] at f0 f1 f2 f3 f4 f5
    rw [hrun] at c1
    by_cases hid : r.id = id
    · have hf := finS_yes hrun hr0 hid e t l
      rw [hf.1, hf.2]
      clear hf
      have ks := stale_any r a c l w hx
      generalize stale l r = s at *
      obtain ⟨T, hT⟩ : ∃ T, ansS S 0 (if s = true then 17 else e) (if s = true then ByteArray.empty else if e = 0 then t else ByteArray.empty) = T := ⟨_, rfl⟩
      rw [hT]
      have HT := Lib.hid hT
      clear hT
      have HS := Lib.hid hS
      have HR0 := Lib.hid hr0
      obtain ⟨ri, rk, rd, rw_, ro, rt⟩ := r
      simp only at f0 f1 f2 f3 f4 f5 hid ks
      have hid' : (ri != id) = false := by simp [hid]
      have KS := Lib.hid ks
      clear ks h1 h2 h3 hS hrec hr hr0 hx hid hrun
      have hp1 : (0 : Int) < S.rq.length := by omega
      go_enter Try.func21, Try.ntmps21
      go_wp2_with fail
      refine KS.out.mono ?_
      rintro x w2 ⟨rfl, hb2⟩
      have hS2 := HS.out.same hb2
      have ka := answer0_any i b S (if s = true then 17 else e) (if s = true then ByteArray.empty else if e = 0 then t else ByteArray.empty) w2 o hi hS2 hp hn ha
      rw [HT.out] at ka
      have hst := Step.same (L := fun _ => False) (o := o) hb2
      have HST := Lib.hid hst
      clear hst f0 f1 f2 f3 f4 f5 c0 c1 KS HS HR0 HT hS2 hb2
      cases s with
      | true =>
        rw [if_pos rfl, if_pos rfl] at ka
        have KA := Lib.hid ka
        clear ka
        go_wp2_with fail
        refine KA.out.mono ?_
        rintro x w3 ⟨rfl, o3, hs3, hS3⟩
        go_wp2_with fail
        go_ret
        exact ⟨rfl, o3, HST.out.into hs3, hS3⟩
      | false =>
        rw [if_neg (by decide), if_neg (by decide)] at ka
        by_cases he : e = 0
        · have he' : (e != 0) = false := by simp [he]
          rw [if_pos he] at ka
          have KA := Lib.hid ka
          clear ka he
          go_wp2_with fail
          refine KA.out.mono ?_
          rintro x w3 ⟨rfl, o3, hs3, hS3⟩
          go_wp2_with fail
          go_ret
          exact ⟨rfl, o3, HST.out.into hs3, hS3⟩
        · have he' : (e != 0) = true := by simp [he]
          rw [if_neg he] at ka
          have KA := Lib.hid ka
          clear ka he
          go_wp2_with fail
          refine KA.out.mono ?_
          rintro x w3 ⟨rfl, o3, hs3, hS3⟩
          go_wp2_with fail
          go_ret
          exact ⟨rfl, o3, HST.out.into hs3, hS3⟩
    · have hf := finS_no hr0 hid e t l
      rw [hf.1, hf.2]
      clear hf
      obtain ⟨ri, rk, rd, rw_, ro, rt⟩ := r
      simp only at f0 f1 f2 f3 f4 f5 hid
      have hid' : (ri != id) = true := by simp [hid]
      clear h1 h2 h3 hrec hr hr0 hx hid hrun
      have hp1 : (0 : Int) < S.rq.length := by omega
      go_enter Try.func21, Try.ntmps21
      go_wp2_with fail
      go_ret
      exact ⟨rfl, o, Step.refl _ _ _, hS⟩
end Go.Proofs.Ytaonhmdifinadaa
