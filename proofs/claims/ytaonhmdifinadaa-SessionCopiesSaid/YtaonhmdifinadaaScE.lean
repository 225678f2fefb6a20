/-
  The law SessionCopies: what its loops keep.
-/
import Derived.Test.YtaonhmdifinadaaSesT
import Derived.Test.YtaonhmdifinadaaScC
import Derived.Test.YtaonhmdifinadaaScD
namespace Go.Proofs.Ytaonhmdifinadaa
open Go Go.Proofs
open Go.RowKit
set_option linter.unusedVariables false
set_option linter.unusedSimpArgs false

/-- While the copy c and the model x take the calls. -/
structure VX (w w9 wr : World) (o : Nat → Nat) (b cb bx y : Nat) (rv0 av0 : Value) (S : SesS) (ops : List OpM) (k t : Nat) (rvx avx ov : Value) (wa : Option Addr) (wc : Nat) : Prop where
  since : Step (fun x => x ≠ 0) w (fun _ => 0) wr o
  opl : OpsL wr o 31 ov ops
  s : SesP wr o 1 b S
  c : SesP wr o 4 cb (stt S ops k t)
  x : XR w9 wr o bx rv0 av0 S ops k t rvx avx
  y : Blk wr o 99 y [rv0, .bool S.run, .int .i64 S.last, av0]
  wi : Dat wr o 33 wa wc ((idsR S.rq).map intV)
section
variable {w w9 wr w' : World} {o o' : Nat → Nat} {b cb bx y k t : Nat} {rv0 av0 rvx avx ov : Value} {S : SesS} {ops : List OpM} {wa : Option Addr} {wc : Nat}
theorem VX.same (h : VX w w9 wr o b cb bx y rv0 av0 S ops k t rvx avx ov wa wc) (hb : Below wr.heap.size wr w') : VX w w9 w' o b cb bx y rv0 av0 S ops k t rvx avx ov wa wc :=
  ⟨h.since.trans (Step.same hb), h.opl.step (Step.same (L := fun _ => False) hb) (fun h => h) (fun h => h), h.s.same hb, h.c.same hb, h.x.same hb, h.y.step (Step.same (L := fun _ => False) hb) (fun h => h), h.wi.step (Step.same (L := fun _ => False) hb) (fun h => h)⟩
theorem VX.below (h : VX w w9 wr o b cb bx y rv0 av0 S ops k t rvx avx ov wa wc) : Below w.heap.size w wr := h.since.toBelow (Nat.le_refl _) fun k _ h => h rfl
/-- The call. -/
theorem VX.call (h : VX w w9 wr o b cb bx y rv0 av0 S ops k t rvx avx ov wa wc) (hG : Good (stt S ops k t)) (ha : (stt S ops k t).an.length ≤ 10000) {m : OpM} (hm : ops[k + t]? = some m) (hop : OpAt wr o m) :
    Calls Try.prog 30 #[.pointer (some ⟨cb, 0, none⟩), .pointer (some ⟨bx, 0, none⟩), .agg #[.int .i64 m.kind, .int .i64 m.r.id, .int .i64 m.r.kind, .string m.r.doc, .int .i64 m.r.ver, .int .i64 m.r.off, .string m.r.txt, .int .i64 m.n, .int .i64 m.e, .slice m.la m.l.length m.lc]] wr fun e w' =>
      e = .returned (.bool true) ∧ ∃ o' rvx' avx', VX w w9 w' o' b cb bx y rv0 av0 S ops k (t + 1) rvx' avx' ov wa wc := by
  refine (gact_any (w0 := wr) (rv0 := rvx) (av0 := avx) (R0 := ((stt S ops k t).rq.flatMap rqC).length) (A0 := (stt S ops k t).an.flatMap anC) 4 2 cb bx (stt S ops k t) m wr o (by omega) (by omega) (by omega) ⟨h.c, h.x.ses.hist⟩ hG ha hop).mono ?_
  rintro e w' ⟨rfl, o', hs, hP, hN, h4⟩
  obtain ⟨rvx', avx', hx⟩ := h.x.act hm (opB_kind hop.1) (fun g hg => hs.lab g hg) hN h4
  refine ⟨rfl, o', rvx', avx', h.since.trans (hs.mono fun l hl e => by unfold Own2 Own at hl; omega), h.opl.step hs (by unfold Own2 Own; omega) (by unfold Own2 Own; omega), h.s.step hs (fun l hl => by unfold Own2; unfold Own at *; omega), ?_, hx, h.y.step hs (by unfold Own2 Own; omega), h.wi.step hs (by unfold Own2 Own; omega)⟩
  rw [stt_next hm]
  exact hP
end

/-- While the session s and the model y take the calls. -/
structure VY (w wr : World) (o : Nat → Nat) (b cb bx y : Nat) (S : SesS) (ops : List OpM) (k t T : Nat) (rvx avx rvy avy ov : Value) : Prop where
  since : Step (fun x => x ≠ 0) w (fun _ => 0) wr o
  opl : OpsL wr o 31 ov ops
  s : SesP wr o 1 b (stt S ops k t)
  c : SesP wr o 4 cb (stt S ops k T)
  y : SesVQ wr o 2 y rvy avy (stt S ops k t)
  x : Blk wr o 99 bx [rvx, .bool (stt S ops k T).run, .int .i64 (stt S ops k T).last, avx]
  d : YD wr o avx (stt S ops k T) S ops k T avy
section
variable {w w9 wr w' : World} {o o' : Nat → Nat} {b cb bx y k t T : Nat} {rv0 av0 rvx avx rvy avy ov : Value} {S : SesS} {ops : List OpM} {wa : Option Addr} {wc : Nat}
theorem VY.same (h : VY w wr o b cb bx y S ops k t T rvx avx rvy avy ov) (hb : Below wr.heap.size wr w') : VY w w' o b cb bx y S ops k t T rvx avx rvy avy ov :=
  ⟨h.since.trans (Step.same hb), h.opl.step (Step.same (L := fun _ => False) hb) (fun h => h) (fun h => h), h.s.same hb, h.c.same hb, h.y.step (Step.same (L := fun _ => False) hb) (fun _ _ h => h), h.x.step (Step.same (L := fun _ => False) hb) (fun h => h), h.d.same hb⟩
theorem VY.below (h : VY w wr o b cb bx y S ops k t T rvx avx rvy avy ov) : Below w.heap.size w wr := h.since.toBelow (Nat.le_refl _) fun k _ h => h rfl
/-- The call. -/
theorem VY.call (h : VY w wr o b cb bx y S ops k t T rvx avx rvy avy ov) (htT : t < T) (hG : Good (stt S ops k t)) (ha : (stt S ops k t).an.length ≤ 10000) {m : OpM} (hm : ops[k + t]? = some m) (hop : OpAt wr o m) :
    Calls Try.prog 30 #[.pointer (some ⟨b, 0, none⟩), .pointer (some ⟨y, 0, none⟩), .agg #[.int .i64 m.kind, .int .i64 m.r.id, .int .i64 m.r.kind, .string m.r.doc, .int .i64 m.r.ver, .int .i64 m.r.off, .string m.r.txt, .int .i64 m.n, .int .i64 m.e, .slice m.la m.l.length m.lc]] wr fun e w' =>
      e = .returned (.bool true) ∧ ∃ o' rvy' avy', VY w w' o' b cb bx y S ops k (t + 1) T rvx avx rvy' avy' ov := by
  refine (gact_any (w0 := wr) (rv0 := rvy) (av0 := avy) (R0 := ((stt S ops k t).rq.flatMap rqC).length) (A0 := (stt S ops k t).an.flatMap anC) 1 2 b y (stt S ops k t) m wr o (by omega) (by omega) (by omega) ⟨h.s, h.y.hist⟩ hG ha hop).mono ?_
  rintro e w' ⟨rfl, o', hs, hP, hN, h4⟩
  obtain ⟨rvy', avy', hy, hd⟩ := h.d.act h.y htT hm (fun g hg => hs.lab g hg) hN h4
  refine ⟨rfl, o', rvy', avy', h.since.trans (hs.mono fun l hl e => by unfold Own2 Own at hl; omega), h.opl.step hs (by unfold Own2 Own; omega) (by unfold Own2 Own; omega), ?_, h.c.step hs (fun l hl => by unfold Own2; unfold Own at *; omega), hy, h.x.step hs (by unfold Own2 Own; omega), hd⟩
  rw [stt_next hm]
  exact hP
/-- The second run begins: y takes the rows with which x began. -/
theorem VX.turn (h : VX w w9 wr o b cb bx y rv0 av0 S ops k T rvx avx ov wa wc) {o9 : Nat → Nat} (h2 : RecL rqC 6 60 w9 o9 21 rv0 S.rq) (h3 : RecL anC 4 84 w9 o9 22 av0 S.an) :
    ∃ o', VY w wr o' b cb bx y S ops k 0 T rvx avx rv0 av0 ov := by
  have ob := h.x.ses.1.lab
  have oy := h.y.lab
  have hbw : w.heap.size ≤ bx := by
    rcases Nat.lt_or_ge bx w.heap.size with e | e
    · have := h.since.lab bx e; omega
    · exact e
  have hyw : w.heap.size ≤ y := by
    rcases Nat.lt_or_ge y w.heap.size with e | e
    · have := h.since.lab y e; omega
    · exact e
  have hne : bx ≠ y := fun e => by rw [e] at ob; omega
  obtain ⟨o', ho⟩ : ∃ x, (fun k => if k = y then 20 else if k = bx then 99 else o k) = x := ⟨_, rfl⟩
  have e1 : o' y = 20 := by rw [← ho]; simp
  have e2 : o' bx = 99 := by rw [← ho]; simp [hne]
  have e3 : ∀ k, k ≠ y → k ≠ bx → o' k = o k := fun k a1 a2 => by rw [← ho]; simp [a1, a2]
  have e4 : ∀ k, o k ≠ 20 → o k ≠ 99 → o' k = o k := fun k a1 a2 => e3 k (fun e => a2 (by rw [e]; exact oy)) (fun e => a1 (by rw [e]; exact ob))
  have h20 := h.x.ses
  obtain ⟨x1, x2, x3⟩ := h20
  refine ⟨o', h.since.relab fun k hk => e3 k (by omega) (by omega), h.opl.relab (fun k e => by rw [e4 k (by omega) (by omega)]; exact e) (fun k e => by rw [e4 k (by omega) (by omega)]; exact e), ?_, ?_, ?_, ?_, ?_⟩
  · rw [stt]
    exact h.s.relab fun k hk => e4 k (by unfold Own at hk; omega) (by unfold Own at hk; omega)
  · exact h.c.relab fun k hk => e4 k (by unfold Own at hk; omega) (by unfold Own at hk; omega)
  · rw [stt]
    refine ⟨?_, ?_, ?_⟩
    · obtain ⟨t, a1, -⟩ := h.y
      exact ⟨t, a1, e1⟩
    · exact RowL.ke (z := .bool false) h2 fun g hg => by
        obtain ⟨a1, a2, a3, -⟩ := h.x.kr g hg
        exact ⟨a3, by rw [e4 g (by omega) (by omega)]; exact a2⟩
    · exact RowL.ke (z := .bool false) h3 fun g hg => by
        obtain ⟨a1, a2, a3, -⟩ := h.x.ka g hg
        exact ⟨a3, by rw [e4 g (by omega) (by omega)]; exact a2⟩
  · obtain ⟨t, a1, -⟩ := x1
    exact ⟨t, a1, e2⟩
  · intro g hg
    have og := x3.2 g hg
    have hlt := (x3.1.lt g hg).2
    refine ⟨hlt, by rw [e4 g (by omega) (by omega)]; exact og, ?_, fun e => ?_⟩
    · rcases x3.1.2 with ⟨hn, -⟩ | ⟨g', cp, cur, hv, _, hgg, hc, hm, hs, ht⟩
      · rw [hn] at hg; simp [Value.ownBlock] at hg
      · rw [hv] at hg
        simp [Value.ownBlock] at hg
        subst hg
        refine ⟨cur, _, _, hgg, fun j hj => ?_⟩
        rw [← ht, List.getElem?_take, if_pos (by have := x3.1.1; omega), Array.getElem?_toList]
    · exact ((h.x.ka g e).2.2.2 hg).2
end
end Go.Proofs.Ytaonhmdifinadaa
