/-
  The law SessionLinks: a round. No program in sight.
-/
import Derived.Test.YtaonhmdifinadaaLkP
import Derived.Test.YtaonhmdifinadaaLkC
namespace Go.Proofs.Ytaonhmdifinadaa
open Go Go.Proofs
set_option linter.unusedVariables false
set_option linter.unusedSimpArgs false

/-- Behind r rounds: M is what a has sent, bs the IDs begun, U what was answered, t how many were taken. -/
structure RR (M : List (List UInt8)) (bs : List Int) (r : Nat) (A B : EndS) (U : List An) (S : SesS) (t : Nat) : Prop where
  ch : Ch2 M (U.map encAn) A B
  ls : LS bs U S t
  pa : 10 ≤ r → min M.length (r - 10) ≤ A.acked
  ow : A.owing = true ∨ B.acked = A.got
  ms : 40 ≤ r → (S.rq.length + (t - A.got)) + (r - 40) ≤ 2 * t ∨ (S.rq.length = 0 ∧ A.got = t)
theorem RR.start {M : List (List UInt8)} {bs : List Int} {A B : EndS} (h : Ch2 M [] A B) (hg : A.got = 0) (hb : B.acked = 0) : RR M bs 0 A B [] newS 0 :=
  ⟨h, LS.new bs, fun h => by omega, .inr (by omega), fun h => by omega⟩
theorem RR.round {M : List (List UInt8)} {bs : List Int} {r : Nat} {A B B1 B2 A2 : EndS} {U : List An} {S S1 : SesS} {t t1 : Nat} {v : List Vn} {tx : ByteArray} (h : RR M bs r A B U S t) (hM : M.length ≤ 30) (hW : 1 ≤ A.window) (hV : 1 ≤ B2.window) (htx : tx.size ≤ 1)
    (hF : Half M (U.map encAn) A B (decide (10 ≤ r)) (outP A).length B1) (hS : LS bs U S1 t1) (hfix : B.got = M.length → S1 = S ∧ t1 = t)
    (h1 : B2.acked = B1.acked) (h2 : B2.got = B1.got) (h3 : B2.owing = B1.owing) (hch : Ch2 M ((U ++ (midS S1 v tx).an).map encAn) (outE A) B2)
    (hK : Half ((U ++ (midS S1 v tx).an).map encAn) M B2 (outE A) true (outP B2).length A2) :
    RR M bs (r + 1) A2 (outE B2) (U ++ (midS S1 v tx).an) (clrS (midS S1 v tx)) t1 := by
  obtain ⟨l1, l2, l3⟩ := hS.mid v htx
  obtain ⟨U', hU⟩ : ∃ x, U ++ (midS S1 v tx).an = x := ⟨_, rfl⟩
  obtain ⟨S', hS'⟩ : ∃ x, clrS (midS S1 v tx) = x := ⟨_, rfl⟩
  have hrq : S'.rq = (midS S1 v tx).rq := by rw [← hS']; rfl
  rw [hU] at hch hK l1
  rw [hU, hS']
  rw [hS'] at l1
  rw [← hrq] at l2 l3
  have hcnt := l1.cnt
  have hcS := hS.cnt
  have hlen : (U'.map encAn).length = U'.length := List.length_map ..
  have ga := hK.ch.b
  have gb := hK.ch.a
  have e1 := ga.acked
  have e2 := ga.go_le
  have e3 := gb.acked
  have e4 := gb.go_le
  rw [hlen] at e4
  have lo1 : A.acked ≤ A2.acked := hK.low.1
  have lo2 : A.got ≤ A2.got := hK.low.2
  have b1 : (outE B2).acked = B2.acked := rfl
  have b2 : (outE B2).got = B2.got := rfl
  rw [b1] at e3
  rw [b2] at e1
  have fa := h.ch.first hW
  have fb := hch.swap.first hV
  rw [hlen] at fb
  have g0 := hch.b.acked
  have g1 : (outE A).got = A.got := rfl
  rw [g1] at g0
  -- what the way back gains
  have kb : B2.acked < U'.length → B2.acked + 1 ≤ A2.got ∧ A2.owing = true := fun hlt => by
    rcases fb with ⟨f1, m, f2⟩ | ⟨f1, -, -⟩ | ⟨f1, -, -⟩
    · have hp : 1 ≤ (outP B2).length := by
        have := (List.getElem?_eq_some_iff.1 f2).1
        omega
      exact (hK.pr rfl hp).2 (by rw [hlen]; exact hlt)
    · omega
    · omega
  have kc : B2.owing = true → B2.got ≤ A2.acked := fun ho => by
    have hp : 1 ≤ (outP B2).length := by
      rcases fb with ⟨f1, m, f2⟩ | ⟨-, -, f3⟩ | ⟨-, f2, -⟩
      · have := (List.getElem?_eq_some_iff.1 f2).1
        omega
      · rw [f3]; simp
      · rw [ho] at f2; cases f2
    exact (hK.pr rfl hp).1
  refine ⟨hK.ch.swap, l1, fun h10 => ?_, ?_, fun h40 => ?_⟩
  · by_cases hr : r + 1 = 10
    · rw [hr]; simp
    · have hL : decide (10 ≤ r) = true := decide_eq_true (by omega)
      have hpa := h.pa (by omega)
      by_cases ha : A.acked < M.length
      · rcases fa with ⟨f1, m, f2⟩ | ⟨f1, -, -⟩ | ⟨f1, -, -⟩
        · have hp : 1 ≤ (outP A).length := by
            have := (List.getElem?_eq_some_iff.1 f2).1
            omega
          obtain ⟨q1, q2⟩ := (hF.pr hL hp).2 ha
          have := kc (by rw [h3]; exact q2)
          omega
        · omega
        · omega
      · omega
  · by_cases hlt : B2.acked < U'.length
    · exact .inl (kb hlt).2
    · right
      rw [b1]
      omega
  · by_cases hr : r + 1 = 40
    · left
      omega
    · have hL : decide (10 ≤ r) = true := decide_eq_true (by omega)
      have hpa := h.pa (by omega)
      have hgo := h.ch.a.acked
      have hgl := h.ch.a.go_le
      have hBg : B.got = M.length := by omega
      obtain ⟨rfl, rfl⟩ := hfix hBg
      -- what the way forth gains
      have hbk : A.got ≤ B2.acked := by
        rcases fa with ⟨f1, m, f2⟩ | ⟨-, -, f3⟩ | ⟨-, f2, -⟩
        · have hp : 1 ≤ (outP A).length := by
            have := (List.getElem?_eq_some_iff.1 f2).1
            omega
          have := (hF.pr hL hp).1
          omega
        · have hp : 1 ≤ (outP A).length := by rw [f3]; simp
          have := (hF.pr hL hp).1
          omega
        · rcases h.ow with e | e
          · rw [f2] at e; cases e
          · have := hF.low.1
            omega
      by_cases hne : S1.rq = []
      · have hz : S1.rq.length = 0 := by rw [hne]; rfl
        by_cases hgt : A.got < t1
        · have := (kb (by omega)).1
          rcases h.ms (by omega) with e | ⟨e, e'⟩
          · left; omega
          · omega
        · right
          omega
      · have := l3 hne
        rcases h.ms (by omega) with e | ⟨e, -⟩
        · left; omega
        · have := List.length_pos_iff.2 hne
          omega
/-- Behind all rounds. -/
theorem RR.done {M : List (List UInt8)} {bs : List Int} {A B : EndS} {U : List An} {S : SesS} {t : Nat} (h : RR M bs (40 + 3 * bs.length) A B U S t) (hM : M.length ≤ 30) : A.got = t ∧ t ≤ bs.length ∧ A.waiting = [] := by
  have hle := h.ls.le
  have hc := h.ls.cnt
  have hb := h.ch.b.go_le
  rw [List.length_map] at hb
  refine ⟨?_, hle, ?_⟩
  · rcases h.ms (by omega) with e | ⟨_, e⟩
    · omega
    · exact e
  · have hpa := h.pa (by omega)
    rw [h.ch.a.wait]
    exact List.drop_of_length_le (by omega)
end Go.Proofs.Ytaonhmdifinadaa
