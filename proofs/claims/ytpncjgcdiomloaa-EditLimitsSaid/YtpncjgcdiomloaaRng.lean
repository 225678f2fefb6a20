/-
  A loop over an iterator whose body always goes on: the iterator's contract tells each round that its element is the next one; the consumer's state may speak of whatever the loop's records leave alone.
-/
import Derived.Test.YtpncjgcdiomloaaProg
import Derived.Test.YtpncjgcdiomloaaBase
import Derived.RangeFuncNested
import Derived.RangeFuncBound
import Derived.RangeFuncCalls
import Derived.RangeFuncLeaves
namespace Go.Proofs.Ytpncjgcdiomloaa
open Go Go.Proofs
open Go.RowKit
set_option linter.unusedVariables false

variable {F : Fence} {n : Nat} {P : Program}

/-- The iterator hands on the list xs, one element a round, in order; every round goes on and keeps what Kp says. -/
def SeqO {α : Type} (F : Fence) (n : Nat) (P : Program) (g : Nat) (lb : Array Value) (encs : α → Array Value) (Kp : World → World → Prop) (xs : List α) (w : World) : Prop :=
  ∀ (l : Nat) (J : List α → World → Prop) (W : World), Below w.heap.size w W → OwnFrom W.heap.size J →
    (∀ m pre x W1, J pre W1 → pre ++ [x] <+: xs → YieldAt F m P l (encs x) W1 fun e W' => e = .returned (.bool true) ∧ J (pre ++ [x]) W' ∧ Kp W1 W' ∧ KeepsFrom W.heap.size W1 W') →
    J [] W → CallsIn F n P g (#[.func (.yield l) #[] #[]] ++ lb) W fun e W' => (∃ v, e = .returned v) ∧ J xs W'

theorem roundIn_free (hd : F.depth = none) {m m' : Nat} {l : Nat} {f : FuncId} {tmps : Array Value} {assign body : Code} {w : World} {R : Ending → World → Prop}
    (h : RoundIn F m P l f tmps assign body w R) : RoundIn F m' P l f tmps assign body w R := ⟨h.1, fun c cs _ => h.2 c cs fun d hh => by rw [hd] at hh; cases hh⟩

/-- The body goes on. -/
def goesOn {α : Type} (l : Nat) (Kp : World → World → Prop) (I : List α → World → Prop) (xs : List α) (W : World) : Exit → Act → World → Prop
  | .normal, _, W' => KeepsFrom l W W' ∧ Kp W W' ∧ I xs W'
  | _, _, _ => False

theorem rangeO {α : Type} {g : Operand} {ps : Array Tmp} {assign body : Code} {Q : Exit → Act → World → Prop} {a : Act} {w : World} {l D : Nat} {mark : List Deferred}
    {I : List α → World → Prop} {Kp : World → World → Prop} {encs : α → Array Value} {xs : List α} {w0 : World} {gf : Nat} {lb : Array Value} (hd : F.depth = none)
    (hent : ∀ fn, ∃ W1, (Instr.enterLoop fn a.tmps ps assign body F.round).run P w = .ok (l, mark) W1 ∧
      W1.heap[l]? = some (.loop { state := .ready, pending := none, fn, tmps := a.tmps, params := ps, assign, body, defers := D }) ∧ W1.heap.size = l + 1 ∧ Below w0.heap.size w0 W1 ∧ I [] W1)
    (hg : a.eval g = .func (.func gf) #[] lb) (hFg : F.fn gf) (eg : ∀ args w, (callFunc gf args).run P w = .ok (.enter gf args) w)
    (hseq : SeqO F (n - 1) P gf lb encs Kp xs w0) (hps : ∀ x, (encs x).size = ps.size)
    (hKt : ∀ {A B C : World}, Kp A B → Kp B C → Kp A C) (hKb : ∀ (W : World) (k : Nat) (r r' : Loop), W.heap[k]? = some (.loop r) → Kp W (W.putObj k (.loop r')))
    (hI : OwnFrom l I) (Ax : α → Act → World → Prop) (hAx : ∀ x a', OwnFrom l (fun (_ : Unit) W => Ax x a' W))
    (hassign : ∀ (pre : List α) (x : α) (W : World) (K : Act → World → Prop), I pre W → pre ++ [x] <+: xs → (∀ a' W', KeepsFrom l W W' → Kp W W' → I pre W' → Ax x a' W' → K a' W') →
      assign.wpIn (F.inRound l) (n - 1 - 1) P (Exit.then K (fun _ _ _ => False)) { tmps := (ps.zip (encs x)).foldl (fun t (p, v) => t.setIfInBounds p v) a.tmps, defers := [] } W)
    (hbody : ∀ (pre : List α) (x : α) (a' : Act) (W : World), (∃ r, W.heap[l]? = some (.loop r)) → I pre W → Ax x a' W → pre ++ [x] <+: xs → body.wpIn (F.inRound l) (n - 1 - 1) P (goesOn l Kp I (pre ++ [x]) W) a' W)
    (hdone : ∀ (W : World), I xs W → Q .normal { a with defers := mark ++ a.defers } W) :
    (Code.rangeFunc g ps assign body).wpIn F n P Q a w := by
  refine wpIn_rangeFunc fun fn hfn => ?_
  obtain ⟨W1, he, hL1, hz1, hb1, hI1⟩ := hent fn
  obtain ⟨rec, hrec⟩ : ∃ rec : LoopState → Loop, rec = fun st => { state := st, pending := none, fn, tmps := a.tmps, params := ps, assign, body, defers := D } := ⟨_, rfl⟩
  have hL1 : W1.heap[l]? = some (.loop (rec .ready)) := by rw [hrec]; exact hL1
  refine ⟨l, mark, W1, { target := .fn (.func gf) lb, args := #[.func (.yield l) #[] #[]] }, W1, gf, #[.func (.yield l) #[] #[]] ++ lb, W1, he, ?_, ?_, ?_, (fun h => by rw [hd] at h; cases h), ?_⟩
  · simp only [resolve, hg]
    simp [go_sem]
  · intro f' hf'; simp [Target.leads] at hf'; subst hf'; exact hFg
  · simp [invoke, go_sem, eg]
  · have hseq := hseq l (fun pre W => I pre W ∧ W.heap[l]? = some (.loop (rec .ready))) W1 hb1
      (fun s A B row hs hg' hr => ⟨hI s A B row hs.1 hg' (fun r e => ⟨by have := (hr r e).1; omega, (hr r e).2⟩),
        (hg'.block l (Array.getElem?_eq_some_iff.1 hs.2).1 (fun e => by have := (hr l e.symm).1; omega)).trans hs.2⟩)
      ?_ ⟨hI1, hL1⟩
    · refine hseq.mono ?_
      rintro e W2 ⟨⟨v, rfl⟩, hi, hl⟩
      exact ⟨none, _, by have := run_endLoop (P := P) hl (by rw [hrec]; simp); rw [hrec] at this; exact this, hdone _ (hI.putObj _ hi (Nat.le_refl _) hl rfl)⟩
    · rintro m pre x W ⟨hi, hl⟩ hpre
      have hy := run_yield (P := P) (args := encs x) hl (by rw [hrec]; exact hps x)
      rw [hrec] at hy
      refine ⟨fn, _, assign, body, hy, roundIn_free hd (m := n - 1 - 1) (roundIn_of_wpIn hfn (hassign pre x W _ hi hpre ?_))⟩
      clear hy
      intro a' Wa hkfa hkpa hia hax
      have hla := hkfa.same l _ (Nat.le_refl _) hl rfl
      have hlt : l < Wa.heap.size := (Array.getElem?_eq_some_iff.1 hla).1
      refine ⟨_, run_beginRound hla (by rw [hrec]), ?_⟩
      have hl2 : (Wa.putObj l (.loop { rec .ready with state := .busy })).heap[l]? = some (.loop { rec .ready with state := .busy }) := World.putObj_heap_same hlt
      refine wpIn_mono (hbody pre x a' _ ⟨_, hl2⟩ (hI.putObj _ hia (Nat.le_refl _) hla rfl) ((hAx x a').putObj (s := ()) _ hax (Nat.le_refl _) hla rfl) hpre) ?_
      rintro e a3 W3 hp
      cases e with
      | normal =>
        obtain ⟨hk3, hkp3, hi3⟩ := hp
        have hl3 := hk3.same l _ (Nat.le_refl _) hl2 rfl
        have hend := run_endRound (P := P) none hl3
        have hlt3 : l < W3.heap.size := (Array.getElem?_eq_some_iff.1 hl3).1
        refine ⟨_, _, hend, rfl, ⟨hI.putObj _ hi3 (Nat.le_refl _) hl3 rfl, ?_⟩, hKt hkpa (hKt (hKb _ _ _ _ hla) (hKt hkp3 (hKb _ _ _ _ hl3))), ?_⟩
        · rw [World.putObj_heap_same hlt3, hrec]; rfl
        · refine ⟨?_, fun k o hk ho hc => ?_⟩
          · have h1 := hkfa.size
            have h2 := hk3.size
            simp only [World.putObj_size] at h2 ⊢
            omega
          · have ha := hkfa.same k o (by omega) ho hc
            have hb : (Wa.putObj l (.loop { rec .ready with state := .busy })).heap[k]? = some o := (World.putObj_heap_other (by omega)).trans ha
            exact (World.putObj_heap_other (by omega)).trans (hk3.same k o (by omega) hb hc)
      | ret => exact hp.elim
      | exit id => exact hp.elim
      | goto t => exact hp.elim
      | panic ch => exact hp.elim
      | outgrown => exact hp.elim

/-- Outside every loop: two blocks are laid; what is known of them goes into the state. -/
theorem rangeO_out {α : Type} {g : Operand} {ps : Array Tmp} {assign body : Code} {Q : Exit → Act → World → Prop} {a : Act} {w : World}
    {I : List α → World → Prop} {Kp : World → World → Prop} {encs : α → Array Value} {xs : List α} {w0 : World} {gf : Nat} {lb : Array Value} (hd : F.depth = none) (hro : F.round = none)
    (hb0 : Below w0.heap.size w0 w) (h0 : I [] w) (hI : OwnFrom w.heap.size I)
    (hg : a.eval g = .func (.func gf) #[] lb) (hFg : F.fn gf) (eg : ∀ args w, (callFunc gf args).run P w = .ok (.enter gf args) w)
    (hseq : SeqO F (n - 1) P gf lb encs Kp xs w0) (hps : ∀ x, (encs x).size = ps.size)
    (hKt : ∀ {A B C : World}, Kp A B → Kp B C → Kp A C) (hKb : ∀ (W : World) (k : Nat) (r r' : Loop), W.heap[k]? = some (.loop r) → Kp W (W.putObj k (.loop r')))
    (Ax : α → Act → World → Prop) (hAx : ∀ x a', OwnFrom w.heap.size (fun (_ : Unit) W => Ax x a' W))
    (hassign : ∀ (pre : List α) (x : α) (W : World) (K : Act → World → Prop), I pre W → pre ++ [x] <+: xs → (∀ a' W', KeepsFrom w.heap.size W W' → Kp W W' → I pre W' → Ax x a' W' → K a' W') →
      assign.wpIn (F.inRound (w.heap.size + 1)) (n - 1 - 1) P (Exit.then K (fun _ _ _ => False)) { tmps := (ps.zip (encs x)).foldl (fun t (p, v) => t.setIfInBounds p v) a.tmps, defers := [] } W)
    (hbody : ∀ (pre : List α) (x : α) (a' : Act) (W : World), (∃ r, W.heap[w.heap.size + 1]? = some (.loop r)) → I pre W → Ax x a' W → pre ++ [x] <+: xs → body.wpIn (F.inRound (w.heap.size + 1)) (n - 1 - 1) P (goesOn w.heap.size Kp I (pre ++ [x]) W) a' W)
    (hdone : ∀ (W : World), I xs W → W.heap[w.heap.size]? = some (.deferred (some [])) → Q .normal { a with defers := { target := .collected w.heap.size, args := #[] } :: a.defers } W) :
    (Code.rangeFunc g ps assign body).wpIn F n P Q a w := by
  have hIl : OwnFrom (w.heap.size + 1) (fun pre W => I pre W ∧ W.heap[w.heap.size]? = some (.deferred (some []))) := fun s A B row hs hg' hr =>
    ⟨hI s A B row hs.1 hg' fun r e => ⟨by have := (hr r e).1; omega, (hr r e).2⟩, (hg'.block _ (Array.getElem?_eq_some_iff.1 hs.2).1 fun e => by have := (hr _ e.symm).1; omega).trans hs.2⟩
  refine rangeO (l := w.heap.size + 1) (D := w.heap.size) (mark := [{ target := .collected w.heap.size, args := #[] }]) (I := fun pre W => I pre W ∧ W.heap[w.heap.size]? = some (.deferred (some []))) hd
    (fun fn => ⟨_, by rw [hro]; exact run_enterLoop_outer _ _ _ _ _, ?_, ?_, ?_, ?_, ?_⟩) hg hFg eg hseq hps hKt hKb hIl Ax (fun x a' s A B row hs hg' hr => hAx x a' s A B row hs hg' fun r e => ⟨by have := (hr r e).1; omega, (hr r e).2⟩) ?_ ?_ ?_
  · have := World.alloc_heap_new (w.alloc (.deferred (some []))) (.loop { state := .ready, pending := none, fn, tmps := a.tmps, params := ps, assign, body, defers := w.heap.size })
    rwa [World.size_alloc] at this
  · simp
  · exact hb0.trans ((((Below.refl _ w).alloc (Nat.le_refl _) _).alloc (by simp) _).mono hb0.size)
  · exact hI.alloc _ (hI.alloc _ h0)
  · exact (Below.heap_alloc _ _ _ (by simp)).trans (World.alloc_heap_new w _)
  · intro pre x W K hi hp hK
    refine hassign pre x W K hi.1 hp fun a' W' h1 h2 h3 h4 => hK a' W' ⟨h1.size, fun k o hk => h1.same k o (by omega)⟩ h2 ⟨h3, h1.same _ _ (Nat.le_refl _) hi.2 rfl⟩ h4
  · intro pre x a' W hl hi hax hp
    refine wpIn_mono (hbody pre x a' W hl hi.1 hax hp) ?_
    intro e a3 W3 h
    cases e with
    | normal => exact ⟨⟨h.1.size, fun k o hk => h.1.same k o (by omega)⟩, h.2.1, h.2.2, h.1.same _ _ (Nat.le_refl _) hi.2 rfl⟩
    | ret => exact h.elim
    | exit id => exact h.elim
    | goto t => exact h.elim
    | panic ch => exact h.elim
    | outgrown => exact h.elim
  · exact fun W h => hdone W h.1 h.2

/-- In a round of the loop l₀: one block is laid. -/
theorem rangeO_in {α : Type} {g : Operand} {ps : Array Tmp} {assign body : Code} {Q : Exit → Act → World → Prop} {a : Act} {w : World}
    {I : List α → World → Prop} {Kp : World → World → Prop} {encs : α → Array Value} {xs : List α} {w0 : World} {gf : Nat} {lb : Array Value} (hd : F.depth = none) {l₀ : Nat} {r₀ : Loop} (hro : F.round = some l₀) (hl₀ : w.heap[l₀]? = some (.loop r₀))
    (hb0 : Below w0.heap.size w0 w) (h0 : I [] w) (hI : OwnFrom w.heap.size I)
    (hg : a.eval g = .func (.func gf) #[] lb) (hFg : F.fn gf) (eg : ∀ args w, (callFunc gf args).run P w = .ok (.enter gf args) w)
    (hseq : SeqO F (n - 1) P gf lb encs Kp xs w0) (hps : ∀ x, (encs x).size = ps.size)
    (hKt : ∀ {A B C : World}, Kp A B → Kp B C → Kp A C) (hKb : ∀ (W : World) (k : Nat) (r r' : Loop), W.heap[k]? = some (.loop r) → Kp W (W.putObj k (.loop r')))
    (Ax : α → Act → World → Prop) (hAx : ∀ x a', OwnFrom w.heap.size (fun (_ : Unit) W => Ax x a' W))
    (hassign : ∀ (pre : List α) (x : α) (W : World) (K : Act → World → Prop), I pre W → pre ++ [x] <+: xs → (∀ a' W', KeepsFrom w.heap.size W W' → Kp W W' → I pre W' → Ax x a' W' → K a' W') →
      assign.wpIn (F.inRound w.heap.size) (n - 1 - 1) P (Exit.then K (fun _ _ _ => False)) { tmps := (ps.zip (encs x)).foldl (fun t (p, v) => t.setIfInBounds p v) a.tmps, defers := [] } W)
    (hbody : ∀ (pre : List α) (x : α) (a' : Act) (W : World), (∃ r, W.heap[w.heap.size]? = some (.loop r)) → I pre W → Ax x a' W → pre ++ [x] <+: xs → body.wpIn (F.inRound w.heap.size) (n - 1 - 1) P (goesOn w.heap.size Kp I (pre ++ [x]) W) a' W)
    (hdone : ∀ (W : World), I xs W → Q .normal a W) :
    (Code.rangeFunc g ps assign body).wpIn F n P Q a w := by
  refine rangeO (l := w.heap.size) (D := r₀.defers) (mark := []) (I := I) hd
    (fun fn => ⟨_, by rw [hro]; exact run_enterLoop_inner hl₀ _ _ _ _ _, World.alloc_heap_new w _, ?_, ?_, hI.alloc _ h0⟩) hg hFg eg hseq hps hKt hKb hI Ax hAx hassign hbody hdone
  · simp
  · exact hb0.trans (((Below.refl _ w).alloc (Nat.le_refl _) _).mono hb0.size)
end Go.Proofs.Ytpncjgcdiomloaa
