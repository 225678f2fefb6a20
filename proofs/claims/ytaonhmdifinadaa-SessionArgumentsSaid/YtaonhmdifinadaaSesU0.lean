/-
  The law SessionArguments, plain: 64 requests can wait, one more can run. No program in sight.
-/
import Derived.Test.YtaonhmdifinadaaSesM
namespace Go.Proofs.Ytaonhmdifinadaa
set_option linter.unusedVariables false
set_option linter.unusedSimpArgs false

def argR (i : Int) : Rq := ⟨i, 0, ⟨#[97]⟩, 0, 0, ⟨#[]⟩⟩
def argV : List Vn := [⟨⟨#[97]⟩, 0⟩]
theorem argR_ok {i : Int} (h1 : 1 ≤ i) (h2 : i ≤ 1000) : okR (argR i) = true := by
  rw [okR_iff]
  exact ⟨h1, by show i ≤ _; omega, (by decide : (0 : Int) ≤ 0), (by decide : (0 : Int) ≤ 4), (by decide : (1 : Nat) ≤ 16), (by decide : (0 : Int) ≤ 0), (by decide : (0 : Int) ≤ 1099511627776), (by decide : (0 : Int) ≤ 0), (by decide : (0 : Int) ≤ 1099511627776), (by decide : (0 : Nat) ≤ 4096)⟩
/-- The state at the head of round i; g: requests begun. -/
structure ArgI (K i g : Nat) (S : SesS) : Prop where
  good : Good S
  last : S.last < i
  all : ∀ r ∈ S.rq, r.doc = ⟨#[97]⟩ ∧ r.ver = 0
  run : S.run = decide (1 ≤ K ∧ K + 2 ≤ i)
  len : S.rq.length = g
  num : g = min (i - 1) (if 1 ≤ K ∧ K + 2 ≤ i then 65 else 64)
  an : S.an = []
theorem ArgI.start (K : Nat) : ArgI K 1 0 newS := ⟨good_new, by decide, fun r h => (by cases h), by
  show false = _
  rw [decide_eq_false (by omega)], rfl, by simp, rfl⟩
/-- Behind the call of Next, if there was one. -/
structure ArgM (K i g : Nat) (T : SesS) : Prop where
  good : Good T
  last : T.last < i
  all : ∀ r ∈ T.rq, r.doc = ⟨#[97]⟩ ∧ r.ver = 0
  run : T.run = decide (1 ≤ K ∧ K + 1 ≤ i)
  len : T.rq.length = g
  num : g = min (i - 1) (if 1 ≤ K ∧ K + 2 ≤ i then 65 else 64)
  an : T.an = []
theorem ArgI.skip {K i g : Nat} {S : SesS} (h : ArgI K i g S) (hi : i ≠ K + 1) : ArgM K i g S :=
  ⟨h.good, h.last, h.all, by rw [h.run]; congr 1; simp only [eq_iff_iff]; omega, h.len, h.num, h.an⟩
theorem arg_stale {r : Rq} (h : r.doc = ⟨#[97]⟩ ∧ r.ver = 0) : stale argV r = false := by
  obtain ⟨ri, rk, rd, rv, ro, rt⟩ := r
  obtain ⟨h1, h2⟩ := h
  simp only at h1 h2
  subst h1
  subst h2
  simp [stale, argV]
theorem drop_none {S : SesS} {l : List Vn} (h : ∀ r ∈ S.rq, stale l r = false) : dropS l S = S := by
  obtain ⟨rq, run, last, an⟩ := S
  cases rq with
  | nil => simp [dropS]
  | cons x xs =>
    have := h x List.mem_cons_self
    simp [dropS, this]
theorem ArgI.next {K i g : Nat} {S : SesS} (h : ArgI K i g S) (hi : i = K + 1) : ArgM K i g (nextS S argV) := by
  have hg := good_next h.good argV
  have hrun : S.run = false := by rw [h.run]; exact decide_eq_false (by omega)
  have e : nextS S argV = { S with run := !S.rq.isEmpty } := by
    unfold nextS
    rw [if_neg (by rw [hrun]; decide), drop_none fun r hr => arg_stale (h.all r hr)]
  rw [e] at hg ⊢
  refine ⟨hg, h.last, h.all, ?_, h.len, h.num, h.an⟩
  show (!S.rq.isEmpty) = _
  have hl := h.len
  have hn := h.num
  rw [if_neg (by omega)] at hn
  cases hrq : S.rq with
  | nil =>
    rw [hrq] at hl
    simp only [List.length_nil] at hl
    rw [decide_eq_false (by omega)]
    rfl
  | cons x xs =>
    rw [hrq] at hl
    simp only [List.length_cons] at hl
    rw [decide_eq_true (by omega)]
    rfl
theorem ArgM.wait {K i g : Nat} {T : SesS} (h : ArgM K i g T) : waitN T = g - if 1 ≤ K ∧ K + 1 ≤ i then 1 else 0 := by
  unfold waitN
  rw [h.len, h.run]
  simp only [decide_eq_true_eq]
theorem ArgM.beg {K i g : Nat} {T : SesS} (h : ArgM K i g T) (h1 : 1 ≤ i) (h2 : i ≤ 70) (hK : K ≤ 69) :
    (begE T (argR i) = 0 ∧ ArgI K (i + 1) (g + 1) (begS T (argR i))) ∨ (begE T (argR i) = 4 ∧ ArgI K (i + 1) g (begS T (argR i))) := by
  have hok := argR_ok (i := i) (by omega) (by omega)
  have hw := h.wait
  have hn := h.num
  have hg := good_beg h.good (argR i)
  have hE : begE T (argR i) = if 64 ≤ waitN T then 4 else 0 := by
    unfold begE
    rw [if_neg (by rw [hok]; decide), if_neg (by have := h.last; show ¬ (i : Int) ≤ T.last; omega)]
  by_cases hq : 64 ≤ waitN T
  · right
    rw [if_pos hq] at hE
    rw [begS_no (by rw [hE]; decide)]
    refine ⟨hE, h.good, by have := h.last; omega, h.all, ?_, h.len, ?_, h.an⟩
    · rw [h.run]; congr 1; simp only [eq_iff_iff]; omega
    · rw [hw] at hq
      by_cases hc : 1 ≤ K ∧ K + 1 ≤ i
      · rw [if_pos hc] at hq
        rw [if_pos (by omega)]
        split at hn <;> omega
      · rw [if_neg hc] at hq
        rw [if_neg (by omega)]
        rw [if_neg (by omega)] at hn
        omega
  · left
    rw [if_neg hq] at hE
    rw [begS_ok hE] at hg ⊢
    refine ⟨hE, hg, ?_, ?_, ?_, ?_, ?_, h.an⟩
    · show (i : Int) < ((i + 1 : Nat) : Int)
      omega
    · intro r hr
      rcases List.mem_append.1 hr with hr | hr
      · exact h.all r hr
      · simp only [List.mem_singleton] at hr
        subst hr
        exact ⟨rfl, rfl⟩
    · show T.run = _
      rw [h.run]; congr 1; simp only [eq_iff_iff]; omega
    · show (T.rq ++ [argR i]).length = _
      rw [List.length_append, h.len]
      rfl
    · rw [hw] at hq
      by_cases hc : 1 ≤ K ∧ K + 1 ≤ i
      · rw [if_pos hc] at hq
        rw [if_pos (by omega)]
        split at hn <;> omega
      · rw [if_neg hc] at hq
        rw [if_neg (by omega)]
        rw [if_neg (by omega)] at hn
        omega
theorem ArgI.fin {K g : Nat} {S : SesS} (h : ArgI K 71 g S) (hK : K ≤ 69) : (g = 64 ∧ K = 0) ∨ (g = 65 ∧ 1 ≤ K) := by
  have := h.num
  split at this <;> omega
theorem ArgI.small {K i g : Nat} {S : SesS} (h : ArgI K i g S) : g ≤ 65 := by
  have := h.num
  split at this <;> omega
end Go.Proofs.Ytaonhmdifinadaa
