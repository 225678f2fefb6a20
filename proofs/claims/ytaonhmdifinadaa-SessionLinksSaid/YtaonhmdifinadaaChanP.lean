/-
  Two ends that deliver everything in turn: what a packet does. No program in sight.
-/
import Derived.Test.YtaonhmdifinadaaChanH
namespace Go.Proofs.Ytaonhmdifinadaa
open Go Go.Proofs
set_option linter.unusedVariables false

def msgsN (n : Nat) : List (List UInt8) := (List.range n).map fun i => [UInt8.ofNat i]
theorem msgsN_length (n : Nat) : (msgsN n).length = n := by simp [msgsN]
theorem msgsN_succ (n : Nat) : msgsN (n + 1) = msgsN n ++ [[UInt8.ofNat n]] := by simp [msgsN, List.range_succ]
theorem msgsN_get {n i : Nat} (h : i < n) : (msgsN n)[i]? = some [UInt8.ofNat i] := by simp [msgsN, h]
theorem msgsN_small {n : Nat} : ∀ m ∈ msgsN n, m.length ≤ 65536 := by
  intro m hm
  simp only [msgsN, List.mem_map] at hm
  obtain ⟨i, _, rfl⟩ := hm
  simp
/-- An end that has sent n messages, of which a are acknowledged, and has delivered g. -/
def prE (W n a g : Nat) (b : Bool) : EndS := ⟨W, (msgsN n).drop a, a, g, [], b⟩
theorem prE_wait (W n a g : Nat) (b : Bool) : (prE W n a g b).waiting.length = n - a := by simp [prE, msgsN_length]
theorem prE_new (W : Nat) : newE W = prE W 0 0 0 false := rfl
theorem prE_fit {W n a g : Nat} {b : Bool} (h1 : 1 ≤ W) (h2 : W ≤ 16) (hn : n ≤ 1000) (ha : a ≤ 1000) (hg : g ≤ 1000) : Fit (prE W n a g b) 1000 :=
  ⟨h1, h2, by rw [prE_wait]; omega, fun m hm => msgsN_small m (List.mem_of_mem_drop hm), ha, by simpa [prE] using hg⟩
theorem prE_send {W n : Nat} (h : n < 1000) : sendErr (prE W n 0 0 false) [UInt8.ofNat n] = 0 ∧ sendE (prE W n 0 0 false) [UInt8.ofNat n] = prE W (n + 1) 0 0 false := by
  have hc : ¬ (65536 < [UInt8.ofNat n].length ∨ 1000 ≤ (prE W n 0 0 false).waiting.length) := by rw [prE_wait]; simp; omega
  refine ⟨if_neg hc, ?_⟩
  unfold sendE
  rw [if_neg hc]
  simp [prE, msgsN_succ]
theorem prE_outE (W n a g : Nat) (b : Bool) : outE (prE W n a g b) = prE W n a g false := rfl
/-- How many packets come out. -/
def prL (W n a : Nat) (b : Bool) : Nat := if min W (n - a) = 0 then (if b then 1 else 0) else min W (n - a)
theorem prE_take (W n a g : Nat) (b : Bool) : ((prE W n a g b).waiting.take (prE W n a g b).window).length = min W (n - a) := by
  rw [List.length_take, prE_wait]; rfl
theorem prE_len (W n a g : Nat) (b : Bool) : (outP (prE W n a g b)).length = prL W n a b := by
  have h := prE_take W n a g b
  unfold outP prL
  rw [h]
  by_cases h0 : min W (n - a) = 0
  · rw [if_pos h0]
    cases b with
    | false => rw [if_neg (by simp [prE])]; rw [pktsFrom_length, h, h0]; rfl
    | true => rw [if_pos ⟨h0, rfl⟩]; rfl
  · rw [if_neg h0, if_neg (fun x => h0 x.1), pktsFrom_length, h]
theorem prE_ack {W n a g : Nat} {b : Bool} {s : Nat} (h1 : a ≤ s) (h2 : s ≤ n) : ackE (prE W n a g b) s = prE W n s g b := by
  unfold ackE
  by_cases h : a < s
  · rw [if_pos (by simp [prE]; omega)]
    simp only [prE, Int.toNat_natCast, List.drop_drop]
    rw [show a + (s - a) = s by omega]
  · obtain rfl : a = s := by omega
    rw [if_neg (by simp [prE])]
/-- A packet with data that comes in order, or again. -/
theorem prE_in {W n a g t s : Nat} {b : Bool} {m : List UInt8} (hm : m.length ≤ 65536) (h1 : a ≤ s) (h2 : s ≤ n) (h3 : t ≤ g) :
    inE (prE W n a g b) ⟨(t : Int) + 1, s, m⟩ = prE W n s (max g (t + 1)) true ∧ inO (prE W n a g b) ⟨(t : Int) + 1, s, m⟩ = if t = g then [m] else [] := by
  have hr : refuses (prE W n a g b) ⟨(t : Int) + 1, s, m⟩ = false := by
    have h6 : ¬ ((((prE W n a g b).acked + (prE W n a g b).waiting.length : Nat) : Int) < (s : Int)) := by rw [prE_wait]; simp only [prE]; omega
    unfold refuses
    simp only [decide_eq_false h6]
    simp [pvalid, prE]
    exact ⟨⟨by omega, hm⟩, decide_eq_false (by omega)⟩
  unfold inE inO
  rw [hr]
  simp only [Bool.false_eq_true, if_false]
  rw [if_neg (by omega), if_neg (by omega), prE_ack h1 h2]
  by_cases h : t = g
  · subst h
    have hh : holdE (prE W n s t b) ((t : Int) + 1) m = ⟨W, (msgsN n).drop s, s, t, [((t : Int) + 1, m)], true⟩ := by
      unfold holdE prE
      rw [if_pos ⟨by simp only; omega, rfl⟩]
      rfl
    rw [hh]
    have hl : look [((t : Int) + 1, m)] ((t : Int) + 1) = some m := by simp [look]
    unfold drainE drainO
    simp only [List.length_cons, List.length_nil, drain, hl]
    rw [if_pos trivial]
    refine ⟨?_, rfl⟩
    simp [prE, drp]
  · have hh : holdE (prE W n s g b) ((t : Int) + 1) m = prE W n s g true := by
      unfold holdE prE
      rw [if_neg (by simp only; omega)]
    rw [hh, if_neg h]
    refine ⟨?_, rfl⟩
    rw [show max g (t + 1) = g by omega]
    rfl
/-- A packet that only acknowledges. -/
theorem prE_in0 {W n a g s : Nat} {b : Bool} (h1 : a ≤ s) (h2 : s ≤ n) :
    inE (prE W n a g b) ⟨0, s, []⟩ = prE W n s g b ∧ inO (prE W n a g b) ⟨0, s, []⟩ = [] := by
  have hr : refuses (prE W n a g b) ⟨0, s, []⟩ = false := by
    have h6 : ¬ ((((prE W n a g b).acked + (prE W n a g b).waiting.length : Nat) : Int) < (s : Int)) := by rw [prE_wait]; simp only [prE]; omega
    unfold refuses
    simp only [decide_eq_false h6]
    simp [pvalid, prE]
    exact decide_eq_false (by omega)
  unfold inE inO
  rw [hr]
  simp only [Bool.false_eq_true, if_false, if_true, prE_ack h1 h2, and_self]
theorem prE_pkt {W n a g : Nat} {b : Bool} {i : Nat} (hc : min W (n - a) ≠ 0) (hi : i < min W (n - a)) : (outP (prE W n a g b))[i]? = some ⟨((a + i : Nat) : Int) + 1, g, [UInt8.ofNat (a + i)]⟩ := by
  have h := prE_take W n a g b
  unfold outP
  rw [if_neg (fun x => hc (by rw [← h]; exact x.1)), pktsFrom_get, List.getElem?_take, if_pos (by simp only [prE]; omega)]
  simp only [prE, List.getElem?_drop]
  rw [msgsN_get (by omega)]
  rfl
theorem prE_pkt0 {W n a g : Nat} {b : Bool} (hc : min W (n - a) = 0) (hb : b = true) : (outP (prE W n a g b))[0]? = some ⟨0, g, []⟩ := by
  have h := prE_take W n a g b
  unfold outP
  rw [if_pos ⟨by rw [h]; exact hc, hb⟩]
  rfl

/-- The receiver behind the first i packets of a sender. -/
def rA (ar gs i : Nat) : Nat := if i = 0 then ar else gs
def rG (W n a gr i : Nat) : Nat := if min W (n - a) = 0 then gr else max gr (a + i)
def rB (W n a : Nat) (br : Bool) (i : Nat) : Bool := if i = 0 ∨ min W (n - a) = 0 then br else true
theorem recv_step {W n a gs Wr nr ar gr : Nat} {bs br : Bool} (h1 : a ≤ gr) (h2 : gr ≤ n) (h3 : ar ≤ gs) (h4 : gs ≤ nr) (h5 : n ≤ 41) {i : Nat} (hi : i < prL W n a bs) :
    ∃ q, (outP (prE W n a gs bs))[i]? = some q ∧ inE (prE Wr nr (rA ar gs i) (rG W n a gr i) (rB W n a br i)) q = prE Wr nr (rA ar gs (i + 1)) (rG W n a gr (i + 1)) (rB W n a br (i + 1)) ∧
      ((inO (prE Wr nr (rA ar gs i) (rG W n a gr i) (rB W n a br i)) q = [] ∧ rG W n a gr (i + 1) = rG W n a gr i) ∨
        (inO (prE Wr nr (rA ar gs i) (rG W n a gr i) (rB W n a br i)) q = [[UInt8.ofNat (rG W n a gr i)]] ∧ rG W n a gr (i + 1) = rG W n a gr i + 1 ∧ rG W n a gr i < n)) := by
  have hA : rA ar gs i ≤ gs := by unfold rA; split <;> omega
  have hA' : rA ar gs (i + 1) = gs := by unfold rA; rw [if_neg (by omega)]
  by_cases hc : min W (n - a) = 0
  · have hi0 : i = 0 ∧ bs = true := by
      unfold prL at hi
      rw [if_pos hc] at hi
      cases bs <;> simp at hi
      exact ⟨hi, rfl⟩
    obtain ⟨rfl, rfl⟩ := hi0
    refine ⟨_, prE_pkt0 hc rfl, ?_, .inl ⟨(prE_in0 hA h4).2, ?_⟩⟩
    · rw [(prE_in0 hA h4).1, hA']
      unfold rG rB
      simp [hc]
    · unfold rG; simp [hc]
  · have hi' : i < min W (n - a) := by unfold prL at hi; rwa [if_neg hc] at hi
    have hG : rG W n a gr i = max gr (a + i) := by unfold rG; rw [if_neg hc]
    have hG' : rG W n a gr (i + 1) = max gr (a + (i + 1)) := by unfold rG; rw [if_neg hc]
    have hB' : rB W n a br (i + 1) = true := by unfold rB; rw [if_neg]; simp [hc]
    have hin := prE_in (W := Wr) (n := nr) (g := rG W n a gr i) (t := a + i) (s := gs) (b := rB W n a br i) (m := [UInt8.ofNat (a + i)]) (by simp) hA h4 (by rw [hG]; omega)
    refine ⟨_, prE_pkt hc hi', ?_, ?_⟩
    · rw [hin.1, hA', hB', hG, hG']
      congr 1
      omega
    · rw [hin.2]
      by_cases ht : a + i = rG W n a gr i
      · refine .inr ⟨?_, ?_, ?_⟩
        · rw [if_pos ht, ← ht]
        · rw [hG'] at *; rw [hG] at *; omega
        · omega
      · refine .inl ⟨if_neg ht, ?_⟩
        rw [hG', hG] at *; omega

/-! ### Rounds -/
section
variable (W n a g : Nat → Nat) (bb : Nat → Bool)
/-- Behind r rounds. -/
structure RI (r : Nat) : Prop where
  a0 : a 0 = g 1
  g1 : g 1 ≤ n 0
  g1' : min r (n 0) ≤ g 1
  g0 : g 0 ≤ n 1
  g0' : min r (n 1) ≤ g 0
  a1 : a 1 ≤ g 0
  a1' : min (r - 1) (n 1) ≤ a 1
  b0 : bb 0 = false → a 1 = g 0
/-- In the middle of round r. -/
structure RM (r : Nat) : Prop where
  a0 : a 0 ≤ g 1
  g1 : g 1 ≤ n 0
  g1' : min (r + 1) (n 0) ≤ g 1
  g0 : g 0 ≤ n 1
  g0' : min r (n 1) ≤ g 0
  a1 : a 1 = g 0
  b1 : bb 1 = false → a 0 = g 1
def RP (r k : Nat) : Prop := (k = 0 ∧ RI n a g bb r) ∨ (k = 1 ∧ RM n a g bb r) ∨ (k = 2 ∧ RI n a g bb (r + 1))
end
theorem RP.both {n a g : Nat → Nat} {bb : Nat → Bool} {r k : Nat} (h : RP n a g bb r k) : ∀ j, j < 2 → a j ≤ g (1 - j) ∧ g (1 - j) ≤ n j := by
  intro j hj
  have hj : j = 0 ∨ j = 1 := by omega
  rcases h with ⟨_, h⟩ | ⟨_, h⟩ | ⟨_, h⟩ <;> rcases hj with rfl | rfl <;> obtain ⟨h1, h2, h3, h4, h5, h6, _⟩ := h <;> simp only [Nat.sub_zero, Nat.sub_self] <;> omega
theorem half_sum (W n a gs ar gr : Nat) (bs br : Bool) :
    (min W (n - a) = 0 ∧ bs = false ∧ rA ar gs (prL W n a bs) = ar ∧ rG W n a gr (prL W n a bs) = gr ∧ rB W n a br (prL W n a bs) = br) ∨
    (min W (n - a) = 0 ∧ bs = true ∧ rA ar gs (prL W n a bs) = gs ∧ rG W n a gr (prL W n a bs) = gr ∧ rB W n a br (prL W n a bs) = br) ∨
    (min W (n - a) ≠ 0 ∧ rA ar gs (prL W n a bs) = gs ∧ rG W n a gr (prL W n a bs) = max gr (a + min W (n - a)) ∧ rB W n a br (prL W n a bs) = true) := by
  by_cases hc : min W (n - a) = 0
  · cases bs with
    | false => exact .inl ⟨hc, rfl, by simp [prL, hc, rA], by simp [hc, rG], by simp [prL, hc, rB]⟩
    | true => exact .inr (.inl ⟨hc, rfl, by simp [prL, hc, rA], by simp [hc, rG], by simp [prL, hc, rB]⟩)
  · have hL : prL W n a bs = min W (n - a) := by unfold prL; rw [if_neg hc]
    refine .inr (.inr ⟨hc, ?_, ?_, ?_⟩)
    · rw [hL]; unfold rA; rw [if_neg hc]
    · rw [hL]; unfold rG; rw [if_neg hc]
    · rw [hL]; unfold rB; rw [if_neg]; omega
theorem RP.step {W n a g : Nat → Nat} {bb : Nat → Bool} {r k : Nat} (h : RP n a g bb r k) (hk : k < 2) (hW : ∀ j, j < 2 → 1 ≤ W j) :
    RP n (upd a (1 - k) (rA (a (1 - k)) (g k) (prL (W k) (n k) (a k) (bb k)))) (upd g (1 - k) (rG (W k) (n k) (a k) (g (1 - k)) (prL (W k) (n k) (a k) (bb k))))
      (upd (upd bb k false) (1 - k) (rB (W k) (n k) (a k) (bb (1 - k)) (prL (W k) (n k) (a k) (bb k)))) r (k + 1) := by
  have hk : k = 0 ∨ k = 1 := by omega
  rcases hk with rfl | rfl
  · rcases h with ⟨_, h⟩ | ⟨h, _⟩ | ⟨h, _⟩
    · have hW0 := hW 0 (by omega)
      obtain ⟨h1, h2, h3, h4, h5, h6, h7, h8⟩ := h
      refine .inr (.inl ⟨rfl, ?_⟩)
      have e : (1 - 0 : Nat) = 1 := rfl
      simp only [e]
      have u1 : ∀ {α : Type} (f : Nat → α) x, upd f 1 x 1 = x := fun f x => upd_at f 1 x
      have u0 : ∀ {α : Type} (f : Nat → α) x, upd f 1 x 0 = f 0 := fun f x => upd_not f x (by omega)
      rcases half_sum (W 0) (n 0) (a 0) (g 0) (a 1) (g 1) (bb 0) (bb 1) with ⟨l1, l2, l3, l4, l5⟩ | ⟨l1, l2, l3, l4, l5⟩ | ⟨l1, l3, l4, l5⟩
      · have h9 := h8 l2
        rw [l3, l4, l5]
        constructor <;> simp only [u0, u1] <;> omega
      · rw [l3, l4, l5]
        constructor <;> simp only [u0, u1] <;> omega
      · rw [l3, l4, l5]
        constructor <;> simp only [u0, u1] <;> first | omega | (intro h; cases h)
    · cases h
    · cases h
  · rcases h with ⟨h, _⟩ | ⟨_, h⟩ | ⟨h, _⟩
    · cases h
    · have hW1 := hW 1 (by omega)
      obtain ⟨h1, h2, h3, h4, h5, h6, h7⟩ := h
      refine .inr (.inr ⟨rfl, ?_⟩)
      have e : (1 - 1 : Nat) = 0 := rfl
      simp only [e]
      have u1 : ∀ {α : Type} (f : Nat → α) x, upd f 0 x 1 = f 1 := fun f x => upd_not f x (by omega)
      have u0 : ∀ {α : Type} (f : Nat → α) x, upd f 0 x 0 = x := fun f x => upd_at f 0 x
      rcases half_sum (W 1) (n 1) (a 1) (g 1) (a 0) (g 0) (bb 1) (bb 0) with ⟨l1, l2, l3, l4, l5⟩ | ⟨l1, l2, l3, l4, l5⟩ | ⟨l1, l3, l4, l5⟩
      · have h9 := h7 l2
        rw [l3, l4, l5]
        constructor <;> simp only [u0, u1] <;> omega
      · rw [l3, l4, l5]
        constructor <;> simp only [u0, u1] <;> omega
      · rw [l3, l4, l5]
        constructor <;> simp only [u0, u1] <;> first | omega | (intro h; cases h)
    · cases h
theorem RI.start (n : Nat → Nat) : RI n (fun _ => 0) (fun _ => 0) (fun _ => false) 0 := by
  constructor <;> simp
theorem RI.done {n a g : Nat → Nat} {bb : Nat → Bool} {r : Nat} (h : RI n a g bb r) (h0 : n 0 + 1 ≤ r) (h1 : n 1 + 1 ≤ r) : g 0 = n 1 ∧ g 1 = n 0 ∧ a 0 = n 0 ∧ a 1 = n 1 := by
  obtain ⟨h1, h2, h3, h4, h5, h6, h7, h8⟩ := h
  omega
end Go.Proofs.Ytaonhmdifinadaa
