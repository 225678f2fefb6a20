/-
  One end of a channel, as plain data. No program in sight.
-/
import Derived.Test.YtaonhmdifinadaaMaps
namespace Go.Proofs.Ytaonhmdifinadaa
set_option linter.unusedVariables false

structure Pkt where
  seq : Int
  ack : Int
  b : List UInt8

structure EndS where
  window : Nat
  waiting : List (List UInt8)
  acked : Nat
  got : Nat
  held : List (Int × List UInt8)
  owing : Bool

def newE (window : Nat) : EndS := ⟨window, [], 0, 0, [], false⟩
def pvalid (p : Pkt) : Bool := decide (0 ≤ p.seq) && (decide (0 ≤ p.ack) && (decide (p.b.length ≤ 65536) && (decide (0 < p.seq) || decide (p.b.length = 0))))
def sendErr (E : EndS) (m : List UInt8) : Int := if 65536 < m.length ∨ 1000 ≤ E.waiting.length then 4 else 0
def sendE (E : EndS) (m : List UInt8) : EndS := if 65536 < m.length ∨ 1000 ≤ E.waiting.length then E else { E with waiting := E.waiting ++ [m] }
/-- Packets from message number k on. -/
def pktsFrom (ack : Nat) : Nat → List (List UInt8) → List Pkt
  | _, [] => []
  | k, m :: ms => ⟨k + 1, ack, m⟩ :: pktsFrom ack (k + 1) ms
theorem pktsFrom_length (ack : Nat) : ∀ (k : Nat) (ms : List (List UInt8)), (pktsFrom ack k ms).length = ms.length
  | _, [] => rfl
  | k, m :: ms => by simp [pktsFrom, pktsFrom_length ack (k + 1) ms]
theorem pktsFrom_snoc (ack : Nat) : ∀ (k : Nat) (ms : List (List UInt8)) (m : List UInt8), pktsFrom ack k (ms ++ [m]) = pktsFrom ack k ms ++ [⟨((k + ms.length : Nat) : Int) + 1, ack, m⟩]
  | k, [], m => by simp [pktsFrom]
  | k, x :: ms, m => by
    simp only [List.cons_append, pktsFrom, pktsFrom_snoc ack (k + 1) ms m, List.length_cons]
    rw [show k + 1 + ms.length = k + (ms.length + 1) by omega]
theorem pktsFrom_get (ack : Nat) : ∀ (k : Nat) (ms : List (List UInt8)) (j : Nat), (pktsFrom ack k ms)[j]? = (ms[j]?).map fun m => ⟨((k + j : Nat) : Int) + 1, ack, m⟩
  | _, [], _ => by simp [pktsFrom]
  | k, m :: ms, 0 => by simp [pktsFrom]
  | k, m :: ms, j + 1 => by
    simp only [pktsFrom, List.getElem?_cons_succ, pktsFrom_get ack (k + 1) ms j]
    rw [show k + 1 + j = k + (j + 1) by omega]
def outP (E : EndS) : List Pkt :=
  if (E.waiting.take E.window).length = 0 ∧ E.owing = true then [⟨0, E.got, []⟩] else pktsFrom E.got E.acked (E.waiting.take E.window)
def outE (E : EndS) : EndS := { E with owing := false }
def refuses (E : EndS) (p : Pkt) : Bool := !pvalid p || (decide ((E.acked + E.waiting.length : Nat) < p.ack) || decide (((E.got + 16 : Nat) : Int) < p.seq))
/-- What an acknowledgement does. -/
def ackE (E : EndS) (n : Int) : EndS := if (E.acked : Int) < n then { E with waiting := E.waiting.drop (n.toNat - E.acked), acked := n.toNat } else E
def holdE (E : EndS) (s : Int) (m : List UInt8) : EndS := { E with owing := true, held := if (E.got : Int) < s ∧ look E.held s = none then put E.held s m else E.held }
/-- Deliver what is held from got + 1 on. -/
def drain : Nat → Nat → List (Int × List UInt8) → Nat × List (Int × List UInt8) × List (List UInt8)
  | 0, g, h => (g, h, [])
  | n + 1, g, h => match look h (g + 1) with
    | none => (g, h, [])
    | some b => ((drain n (g + 1) (drp h (g + 1))).1, (drain n (g + 1) (drp h (g + 1))).2.1, b :: (drain n (g + 1) (drp h (g + 1))).2.2)
def drainE (E : EndS) : EndS := { E with got := (drain E.held.length E.got E.held).1, held := (drain E.held.length E.got E.held).2.1 }
def drainO (E : EndS) : List (List UInt8) := (drain E.held.length E.got E.held).2.2
def inE (E : EndS) (p : Pkt) : EndS :=
  if refuses E p = true then E else if p.seq = 0 then ackE E p.ack else drainE (holdE (ackE E p.ack) p.seq p.b)
def inO (E : EndS) (p : Pkt) : List (List UInt8) :=
  if refuses E p = true then [] else if p.seq = 0 then [] else drainO (holdE (ackE E p.ack) p.seq p.b)

theorem look_some_mem {α : Type} {es : List (Int × α)} {k : Int} {v : α} (h : look es k = some v) : (k, v) ∈ es := by
  unfold look at h
  obtain ⟨p, hp, rfl⟩ := Option.map_eq_some_iff.1 h
  have h1 := List.mem_of_find?_eq_some hp
  have h2 := List.find?_some hp
  have h3 : p.1 = k := by simpa using h2
  rw [← h3]; exact h1
theorem drp_length {α : Type} {es : List (Int × α)} {k : Int} {v : α} (h : look es k = some v) : (drp es k).length < es.length := by
  have hm := look_some_mem h
  unfold drp
  rcases Nat.lt_or_ge (es.filter fun p => p.1 != k).length es.length with h1 | h1
  · exact h1
  · have h2 : (es.filter fun p => p.1 != k) = es := List.Sublist.eq_of_length List.filter_sublist (by have := List.length_filter_le (fun p : Int × α => p.1 != k) es; omega)
    rw [← h2] at hm
    have := (List.mem_filter.1 hm).2
    simp at this
theorem drain_more : ∀ (n m g : Nat) (h : List (Int × List UInt8)), h.length ≤ n → h.length ≤ m → drain n g h = drain m g h
  | 0, 0, _, _, _, _ => rfl
  | 0, m + 1, g, h, h1, h2 => by
    obtain rfl : h = [] := List.eq_nil_of_length_eq_zero (by omega)
    rfl
  | n + 1, 0, g, h, h1, h2 => by
    obtain rfl : h = [] := List.eq_nil_of_length_eq_zero (by omega)
    rfl
  | n + 1, m + 1, g, h, h1, h2 => by
    unfold drain
    cases hl : look h (g + 1) with
    | none => rfl
    | some b =>
      have := drp_length hl
      simp only [drain_more n m (g + 1) (drp h (g + 1)) (by omega) (by omega)]
theorem drain_none {g : Nat} {h : List (Int × List UInt8)} (hl : look h (g + 1) = none) (n : Nat) : drain n g h = (g, h, []) := by
  cases n with
  | zero => rfl
  | succ n => simp [drain, hl]
theorem drain_some {g : Nat} {h : List (Int × List UInt8)} {b : List UInt8} (hl : look h (g + 1) = some b) :
    drain h.length g h = ((drain (drp h (g + 1)).length (g + 1) (drp h (g + 1))).1, (drain (drp h (g + 1)).length (g + 1) (drp h (g + 1))).2.1, b :: (drain (drp h (g + 1)).length (g + 1) (drp h (g + 1))).2.2) := by
  have hlt := drp_length hl
  obtain ⟨n, hn⟩ : ∃ n, h.length = n + 1 := ⟨h.length - 1, by omega⟩
  rw [hn]
  simp only [drain, hl]
  rw [drain_more n (drp h (g + 1)).length (g + 1) _ (by omega) (Nat.le_refl _)]
end Go.Proofs.Ytaonhmdifinadaa
