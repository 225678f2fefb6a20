/-
  What the walk of SessionCodes carries.
-/
import Derived.Test.YtaonhmdifinadaaSesI
import Derived.Test.YtaonhmdifinadaaSesK0
import Derived.Test.YtaonhmdifinadaaSesS0
import Derived.Test.YtaonhmdifinadaaSesV
import Derived.Test.YtaonhmdifinadaaSesW
import Derived.Test.YtaonhmdifinadaaSesX
import Derived.Test.YtaonhmdifinadaaSesY
namespace Go.Proofs.Ytaonhmdifinadaa
open Go Go.Proofs
open Go.RowKit
set_option linter.unusedVariables false
set_option linter.unusedSimpArgs false

theorem Blk.below {w w' : World} {b n : Nat} {cs : List Value} (h : Blk w (fun _ => 0) 0 b cs) (hb : Below n w w') (hn : b < n) : Blk w' (fun _ => 0) 0 b cs := by
  obtain ⟨t, h1, h2⟩ := h
  exact ⟨t, (hb.block b hn).trans h1, h2⟩
theorem Blk.same {w w' : World} {b : Nat} {cs : List Value} (h : Blk w (fun _ => 0) 0 b cs) (hb : Below w.heap.size w w') : Blk w' (fun _ => 0) 0 b cs := h.below hb h.lt
theorem Blk.oth {w : World} {b : Nat} {cs : List Value} (h : Blk w (fun _ => 0) 0 b cs) {g j : Nat} (hg : g ≠ b) (u : Value) : Blk (w.setCell ⟨g, j, none⟩ u) (fun _ => 0) 0 b cs := by
  obtain ⟨t, h1, h2⟩ := h
  refine ⟨t, ?_, h2⟩
  rw [← h1]
  show (w.heap.modify g _)[b]? = _
  rw [Array.getElem?_modify, if_neg hg]
/-- One continuation for all the orders of a region: the first one names it. -/
theorem comb {A B : Prop} (f : (Nat → A) → B) (a : A) : B := f fun _ => a
/-- The four records of the law. -/
structure CW (w wr : World) (gr ga gg gp : Nat) (R : Rq) (A : An) (G : Rq) (P : An) : Prop where
  bel : Below w.heap.size w wr
  r : Blk wr (fun _ => 0) 0 gr [.int .i64 R.id, .int .i64 R.kind, .string R.doc, .int .i64 R.ver, .int .i64 R.off, .string R.txt]
  a : Blk wr (fun _ => 0) 0 ga [.int .i64 A.id, .int .i64 A.err, .int .i64 A.ver, .string A.txt]
  g : Blk wr (fun _ => 0) 0 gg [.int .i64 G.id, .int .i64 G.kind, .string G.doc, .int .i64 G.ver, .int .i64 G.off, .string G.txt]
  p : Blk wr (fun _ => 0) 0 gp [.int .i64 P.id, .int .i64 P.err, .int .i64 P.ver, .string P.txt]
theorem CW.same {w wr w' : World} {gr ga gg gp : Nat} {R : Rq} {A : An} {G : Rq} {P : An} (h : CW w wr gr ga gg gp R A G P) (hb : Below wr.heap.size wr w') : CW w w' gr ga gg gp R A G P :=
  ⟨Below.step h.bel hb, h.r.same hb, h.a.same hb, h.g.same hb, h.p.same hb⟩
/-- Slices of bytes. -/
structure Sl where
  a : Option Addr
  c : Nat
  bs : List UInt8
def slV (s : Sl) : Value := .slice s.a s.bs.length s.c
def Sls (w : World) (l : List Sl) : Prop := ∀ s ∈ l, SliceAt w s.a s.c (s.bs.map byteV) ∧ s.bs.length ≤ 1000000
theorem Sls.same {w w' : World} {l : List Sl} (h : Sls w l) (hb : Below w.heap.size w w') : Sls w' l := fun s hs => ⟨(h s hs).1.below hb, (h s hs).2⟩
theorem Sls.nil (w : World) : Sls w [] := fun s hs => by cases hs
theorem Sls.cons {w : World} {l : List Sl} (h : Sls w l) {a : Option Addr} {c : Nat} {bs : List UInt8} (hs : SliceAt w a c (bs.map byteV)) (hl : bs.length ≤ 1000000) : Sls w (⟨a, c, bs⟩ :: l) := by
  intro s hm
  rcases List.mem_cons.1 hm with rfl | hm
  · exact ⟨hs, hl⟩
  · exact h s hm

theorem own_first {w : World} {base : Nat} {v : Value} {l : List UInt8} (h : w.ownsRow base 5 1 v l.length (l.map byteV)) (hl : 1 ≤ l.length) : ∃ g c, v = .slice (some ⟨g, 0, none⟩) l.length c ∧ base ≤ g := by
  rcases h.2 with ⟨_, h0⟩ | ⟨g, cap, cur, rfl, hg, _⟩
  · omega
  · exact ⟨g, cap, rfl, hg⟩
theorem own_put {w : World} {base g cap k : Nat} {L : List UInt8} (h : w.ownsRow base 5 1 (.slice (some ⟨g, 0, none⟩) L.length cap) L.length (L.map byteV)) (d : UInt8) :
    (w.setCell ⟨g, k, none⟩ (byteV d)).ownsRow base 5 1 (.slice (some ⟨g, 0, none⟩) (L.set k d).length cap) (L.set k d).length ((L.set k d).map byteV) := by
  have := (h.stored k (byteV d)).1
  rw [← List.map_set] at this
  rw [List.length_set]
  exact this
theorem own_at {w : World} {base g cap : Nat} {L : List UInt8} (h : w.ownsRow base 5 1 (.slice (some ⟨g, 0, none⟩) L.length cap) L.length (L.map byteV)) : SliceAt w (some ⟨g, 0, none⟩) cap (L.map byteV) := by
  obtain ⟨a, c, hv, hs⟩ := ownsRow_sliceMap h
  simp only [Value.slice.injEq, true_and] at hv
  obtain ⟨rfl, rfl⟩ := hv
  exact hs

theorem own_oth {w : World} {base g cap n g' j : Nat} {xs : List Value} (h : w.ownsRow base 5 1 (.slice (some ⟨g, 0, none⟩) n cap) n xs) (hg : g ≠ g') (u : Value) :
    (w.setCell ⟨g', j, none⟩ u).ownsRow base 5 1 (.slice (some ⟨g, 0, none⟩) n cap) n xs := by
  refine ⟨h.1, ?_⟩
  rcases h.2 with ⟨h', _⟩ | ⟨g0, cap', cur, he, hb, hh, rest⟩
  · simp at h'
  · refine .inr ⟨g0, cap', cur, he, hb, ?_, rest⟩
    simp only [Value.slice.injEq, Option.some.injEq, Addr.mk.injEq, and_true, true_and] at he
    rw [Below.heap_setCell _ _ _ _ (by show g0 ≠ g'; omega)]
    exact hh
theorem own_byte {w : World} {base e g cap k : Nat} {L : List UInt8} (h : w.ownsRow base e 1 (.slice (some ⟨g, 0, none⟩) L.length cap) L.length (L.map byteV)) (hk : k < L.length) :
    w.cell? ⟨g, k, none⟩ = some (.int .u8 (L[k].toNat : Int)) := by
  rw [h.cellAt k (by omega), List.getElem?_map, List.getElem?_eq_getElem hk]; rfl
theorem str_back (s : ByteArray) : (⟨s.data.toList.toArray⟩ : ByteArray) = s := by simp
theorem endR_nil : endR ⟨[], 0⟩ = 0 := by rfl

/-! ### What wire reads back from the answer -/
theorem read_back (P : An) (hi : 1 ≤ P.id ∧ P.id ≤ 1099511627776) (he : 0 ≤ P.err ∧ P.err ≤ 23) (hv : 0 ≤ P.ver ∧ P.ver ≤ 1099511627776) (ht : P.txt.size ≤ 65536) :
    ∃ R1 R2 R3 : RdS, intR ⟨encAn P, 0⟩ = (P.id, R1) ∧ intR R1 = (P.err, R2) ∧ intR R2 = (P.ver, R3) ∧ rawR R3 = (P.txt.data.toList, ⟨[], 0⟩) ∧ R3.bs.length ≤ 1000000 := by
  have h : encAn P = encI P.id ++ (encI P.err ++ (encI P.ver ++ (encR P.txt.data.toList ++ []))) := by unfold encAn; simp
  rw [h]
  refine ⟨_, _, _, intR_enc (by omega) (by omega) _, intR_enc (by omega) (by omega) _, intR_enc (by omega) (by omega) _, rawR_enc (by rw [size_list]; omega) _, ?_⟩
  rw [List.append_nil]
  have := encR_len P.txt.data.toList (by rw [size_list]; omega)
  rw [size_list] at this
  show (encR P.txt.data.toList).length ≤ _
  omega
theorem codeAn_len (P : An) : (codeAn P).length ≤ 100000 := by
  unfold codeAn
  split
  · rename_i h
    obtain ⟨h1, h2, h3, h4, h5, h6, h7⟩ := okA_iff.1 h
    unfold encAn
    have a1 := encI_len P.id (by omega) (by omega)
    have a2 := encI_len P.err (by omega) (by omega)
    have a3 := encI_len P.ver (by omega) (by omega)
    have a4 := encR_len P.txt.data.toList (by rw [size_list]; omega)
    rw [size_list] at a4
    simp only [List.length_append, List.length_nil]
    omega
  · simp
theorem codeRq_len (r : Rq) : (codeRq r).length ≤ 100000 := by
  unfold codeRq
  split
  · rename_i h
    obtain ⟨h1, h2, h3, h4, h5, h6, h7, h8, h9, h10⟩ := okR_iff.1 h
    unfold encRq
    have a1 := encI_len r.id (by omega) (by omega)
    have a2 := encI_len r.kind (by omega) (by omega)
    have a3 := encI_len r.ver (by omega) (by omega)
    have a4 := encI_len r.off (by omega) (by omega)
    have a5 := encR_len r.doc.data.toList (by rw [size_list]; omega)
    have a6 := encR_len r.txt.data.toList (by rw [size_list]; omega)
    rw [size_list] at a5 a6
    simp only [List.length_append, List.length_nil]
    omega
  · simp
theorem codeRq_pos {r : Rq} (h : okR r = true) : 1 ≤ (codeRq r).length := by
  unfold codeRq
  rw [if_pos h]
  unfold encRq
  have := encI_pos r.id
  simp only [List.length_append]
  omega
theorem codeAn_pos {r : An} (h : okA r = true) : 1 ≤ (codeAn r).length := by
  unfold codeAn
  rw [if_pos h]
  unfold encAn
  have := encI_pos r.id
  simp only [List.length_append]
  omega
end Go.Proofs.Ytaonhmdifinadaa
