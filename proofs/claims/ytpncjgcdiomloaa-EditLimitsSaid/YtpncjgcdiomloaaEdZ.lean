/-
  What a round of a loop may write, seen by the iterator; the makers of the iterators edit.kept, edit.both; the contract of kept.
-/
import Derived.Test.YtpncjgcdiomloaaEdY
import Derived.Test.YtpncjgcdiomloaaEdK
import Derived.Test.YtpncjgcdiomloaaRng
import Derived.Shelf.Abstract
import Derived.Shelf.RegionOpen
import Derived.TacticsInMore
import Derived.LoopNIn
import Derived.LoopIn
namespace Go.Proofs.Ytpncjgcdiomloaa
open Go Go.Proofs
open Go.RowKit
set_option linter.unusedVariables false
set_option linter.unusedSimpArgs false

/-- The consumer's box Bl holds a slice in memory that is there. -/
def ClB (Bl : Nat) (W : World) : Prop := ∃ a n c t, W.heap[Bl]? = some (.cells #[.slice a n c] t (0, 0)) ∧ ∀ ad : Addr, a = some ad → ad.block < W.heap.size
/-- Block k is none that the consumer writes: neither one of X nor the row that its box Bl names. -/
def SafeB (X : Nat → Prop) (Bl : Nat) (W : World) (k : Nat) (o : Obj) : Prop :=
  (∃ a n c t, W.heap[Bl]? = some (.cells #[.slice a n c] t (0, 0)) ∧ ∀ ad : Addr, a = some ad → ad.block ≠ k) ∧ ¬ X k ∧ W.heap[k]? = some o ∧ o.isCells = true
structure KpB (X : Nat → Prop) (Bl : Nat) (W W' : World) : Prop where
  size : W.heap.size ≤ W'.heap.size
  cl : ClB Bl W → ClB Bl W'
  safe : ∀ k o, SafeB X Bl W k o → SafeB X Bl W' k o
section
variable {X : Nat → Prop} {Bl : Nat} {W W' W'' : World} {k : Nat} {o : Obj}
theorem KpB.refl (W : World) : KpB X Bl W W := ⟨Nat.le_refl _, fun h => h, fun _ _ h => h⟩
theorem KpB.trans (h : KpB X Bl W W') (h' : KpB X Bl W' W'') : KpB X Bl W W'' := ⟨Nat.le_trans h.size h'.size, fun x => h'.cl (h.cl x), fun k o x => h'.safe k o (h.safe k o x)⟩
theorem KpB.blocks (hs : W.heap.size ≤ W'.heap.size) (h : ∀ (k : Nat) (o : Obj), W.heap[k]? = some o → o.isCells = true → W'.heap[k]? = some o) : KpB X Bl W W' :=
  ⟨hs, fun ⟨a, n, c, t, h1, h2⟩ => ⟨a, n, c, t, h _ _ h1 rfl, fun ad e => by have := h2 ad e; omega⟩, fun k o ⟨⟨a, n, c, t, h1, h2⟩, h3, h4, h5⟩ => ⟨⟨a, n, c, t, h _ _ h1 rfl, h2⟩, h3, h _ _ h4 h5, h5⟩⟩
theorem KpB.grown {row : Option Nat} (hg : W.grownBy W' row) (hr : ∀ r, row = some r → ∃ o : Obj, W.heap[r]? = some o ∧ o.isCells = false) : KpB X Bl W W' :=
  .blocks hg.size fun k o hk hc => (grownBy_keeps_cells hg hr hk hc).trans hk
theorem KpB.below (h : Below W.heap.size W W') : KpB X Bl W W' := .blocks h.size fun k o hk _ => (h.block k (Array.getElem?_eq_some_iff.1 hk).1).trans hk
theorem KpB.alloc (W : World) (ob : Obj) : KpB X Bl W (W.alloc ob) := .below ((Below.refl _ W).alloc (Nat.le_refl _) ob)
theorem KpB.loop (W : World) (k : Nat) (r r' : Loop) (h : W.heap[k]? = some (.loop r)) : KpB X Bl W (W.putObj k (.loop r')) :=
  .grown (grownBy_putObj' W k _) fun r e => by cases e; exact ⟨_, h, rfl⟩
theorem own_kp {β : Type} {p : β → World → Prop} (h : ∀ s W W', KpB X Bl W W' → p s W → p s W') : Own p := fun s W W' row hs hg hr => h s W W' (KpB.grown hg hr) hs
theorem SafeB.heap (h : SafeB X Bl W k o) : W.heap[k]? = some o := h.2.2.1
theorem SafeB.lt (h : SafeB X Bl W k o) : k < W.heap.size := (Array.getElem?_eq_some_iff.1 h.heap).1
theorem SafeB.new (hc : ClB Bl W) (hx : ¬ X W.heap.size) (ob : Obj) (ho : ob.isCells = true) : SafeB X Bl (W.alloc ob) W.heap.size ob := by
  obtain ⟨a, n, c, t, h1, h2⟩ := hc
  refine ⟨⟨a, n, c, t, ?_, fun ad e => ?_⟩, hx, World.alloc_heap_new W ob, ho⟩
  · exact (Below.heap_alloc W ob Bl (Array.getElem?_eq_some_iff.1 h1).1).trans h1
  · have := h2 ad e; omega
theorem SafeB.box {v : Value} {t : TypeId} (h : SafeB X Bl W k (.cells #[v] t (0, 0))) : Boxed W k t v := h.heap
theorem SafeB.cell {cs : Array Value} {t : TypeId} (h : SafeB X Bl W k (.cells cs t (0, 0))) {j : Nat} {v : Value} (hj : cs[j]? = some v) : W.cell? ⟨k, j, none⟩ = some v := by
  rw [cell_of_row W k j cs t (0, 0) h.heap]; exact hj
/-- A slice of edits that the consumer does not write. -/
def SEds (X : Nat → Prop) (Bl : Nat) (W : World) (a : Option Addr) (c : Nat) (es : List Ed) : Prop := EdsAt W a c es ∧ (0 < es.length → ∃ b off o, a = some ⟨b, off, none⟩ ∧ SafeB X Bl W b o)
theorem SEds.kp {a : Option Addr} {c : Nat} {es : List Ed} (h : SEds X Bl W a c es) (hk : KpB X Bl W W') : SEds X Bl W' a c es := by
  obtain ⟨⟨h1, h2, h3, h4, h5⟩, h6⟩ := h
  refine ⟨⟨h1, h2, h3, h4, fun hp => ?_⟩, fun hp => ?_⟩
  · obtain ⟨b, off, o, ha, hs⟩ := h6 (by rw [edCs_len] at hp; omega)
    obtain ⟨b', off', ha', hc⟩ := h5 hp
    rw [ha] at ha'
    simp only [Option.some.injEq, Addr.mk.injEq, and_true] at ha'
    obtain ⟨rfl, rfl⟩ := ha'
    refine ⟨b, off, ha, fun i v hi => ?_⟩
    exact (World.cell?_of_block (w := W) (a := ⟨b, off + i, none⟩) ((hk.safe _ _ hs).heap.trans hs.heap.symm)).trans (hc i v hi)
  · obtain ⟨b, off, o, ha, hs⟩ := h6 hp
    exact ⟨b, off, o, ha, hk.safe _ _ hs⟩
end
theorem grownBy_below {W W' : World} (h : Below W.heap.size W W') : W.grownBy W' none := ⟨h.os, h.tape, h.output, h.size, fun k hk _ => h.block k hk⟩
theorem OwnFrom.below {β : Type} {B : Nat} {I : β → World → Prop} (h : OwnFrom B I) {s : β} {W W' : World} (hs : I s W) (hb : Below W.heap.size W W') : I s W' := h s W W' none hs (grownBy_below hb) fun r e => by cases e

theorem kept_any (size : Int) (a : Option Addr) (l c : Nat) (w : World) :
    Calls Try.prog 64 #[.int .i64 size, .slice a l c] w fun e w' => e = .returned (.func (.func 71) #[] #[.pointer (some ⟨w.heap.size + 1, 0, none⟩), .pointer (some ⟨w.heap.size, 0, none⟩)]) ∧
      (w.alloc (.cells #[.int .i64 size] 3)).alloc (.cells #[.slice a l c] 22) = w' := by
  go_enter Try.func64, Try.ntmps64
  go_wp2
  go_ret
  exact ⟨rfl, rfl⟩
theorem both_any (size middle : Int) (a : Option Addr) (l c : Nat) (b : Option Addr) (m d : Nat) (w : World) :
    Calls Try.prog 48 #[.int .i64 size, .int .i64 middle, .slice a l c, .slice b m d] w fun e w' =>
      e = .returned (.func (.func 63) #[] #[.pointer (some ⟨w.heap.size, 0, none⟩), .pointer (some ⟨w.heap.size + 2, 0, none⟩), .pointer (some ⟨w.heap.size + 1, 0, none⟩), .pointer (some ⟨w.heap.size + 3, 0, none⟩)]) ∧
      ((((w.alloc (.cells #[.int .i64 size] 3)).alloc (.cells #[.int .i64 middle] 3)).alloc (.cells #[.slice a l c] 22)).alloc (.cells #[.slice b m d] 22)) = w' := by
  go_enter Try.func48, Try.ntmps48
  go_wp2
  go_ret
  exact ⟨rfl, rfl⟩

/-! ### The parts that a list keeps, one after the other -/
def encP (p : Prt) : Array Value := #[.agg #[.int .i64 p.1, .int .i64 p.2.1, .int .i64 p.2.2]]
theorem parts_step {n p q : Nat} {e : Ed} {es : List Ed} (h : Snd n p (e :: es)) : ∃ f t : Nat, e = ⟨f, t, e.x⟩ ∧ p ≤ f ∧ f ≤ t ∧ t ≤ n ∧ Snd n t es ∧ partsL n p q (e :: es) = (p, q, f - p) :: partsL n t (q + (f - p) + e.x.length) es := by
  obtain ⟨h1, h2, h3, h4⟩ := h
  refine ⟨e.f.toNat, e.t.toNat, ?_, by omega, by omega, by omega, h4, rfl⟩
  have e1 : ((e.f.toNat : Nat) : Int) = e.f := by omega
  have e2 : ((e.t.toNat : Nat) : Int) = e.t := by omega
  rw [e1, e2]
/-- Where the iterator stands when j edits are behind it. -/
structure KeptI (size : Nat) (es : List Ed) (j p q : Nat) (d : Int) : Prop where
  split : partsL size 0 0 es = (partsL size 0 0 es).take j ++ partsL size p q (es.drop j)
  snd : Snd size p (es.drop j)
  shift : (p : Int) + d = q
  bound : q ≤ p + j * 1000000
theorem KeptI.zero {size : Nat} {es : List Ed} (h : Snd size 0 es) : KeptI size es 0 0 0 0 := ⟨by simp, h, by simp, by simp⟩
theorem KeptI.next {size : Nat} {es : List Ed} {j p q : Nat} {d : Int} (h : KeptI size es j p q d) {e : Ed} (hj : es[j]? = some e) (hx : e.x.length ≤ 1000000) :
    ∃ f t k : Nat, e = ⟨f, t, e.x⟩ ∧ (f : Int) - p = k ∧ f ≤ t ∧ p ≤ f ∧ t ≤ size ∧ (partsL size 0 0 es).take j ++ [(p, q, k)] <+: partsL size 0 0 es ∧ (partsL size 0 0 es).take (j + 1) = (partsL size 0 0 es).take j ++ [(p, q, k)] ∧
      KeptI size es (j + 1) t (q + k + e.x.length) (d + growE ⟨f, t, e.x⟩) := by
  have hlt := (List.getElem?_eq_some_iff.1 hj).1
  have hdr : es.drop j = e :: es.drop (j + 1) := by
    rw [List.drop_eq_getElem_cons hlt]; congr 1
    exact Option.some.inj ((List.getElem?_eq_getElem hlt).symm.trans hj)
  have hs := h.snd
  rw [hdr] at hs
  obtain ⟨f, t, he, h1, h2, h3, h4, h5⟩ := parts_step (q := q) hs
  have hsp := h.split
  rw [hdr, h5] at hsp
  have hlen := parts_length size es 0 0
  have htk : (partsL size 0 0 es).take (j + 1) = (partsL size 0 0 es).take j ++ [(p, q, f - p)] := by
    have hl : ((partsL size 0 0 es).take j).length = j := by rw [List.length_take]; omega
    conv => lhs; rw [hsp]
    rw [List.take_append, hl, List.take_of_length_le (by rw [hl]; omega), Nat.add_sub_cancel_left]
    rfl
  refine ⟨f, t, f - p, he, by omega, h2, h1, h3, ?_, htk, ?_, h4, ?_, ?_⟩
  · rw [← htk]; exact List.take_prefix _ _
  · rw [htk, List.append_assoc]; exact hsp
  · have := h.shift
    unfold growE
    simp only
    omega
  · have := h.bound
    have : (j + 1) * 1000000 = j * 1000000 + 1000000 := by omega
    omega
theorem KeptI.last {size : Nat} {es : List Ed} {p q : Nat} {d : Int} (h : KeptI size es es.length p q d) :
    ∃ k : Nat, (size : Int) - p = k ∧ p ≤ size ∧ (partsL size 0 0 es).take es.length ++ [(p, q, k)] = partsL size 0 0 es := by
  have h1 := h.split
  have h2 := h.snd
  rw [List.drop_length] at h1 h2
  have h3 : p ≤ size := h2
  exact ⟨size - p, by omega, h3, h1.symm⟩
section
attribute [local go_sem] Oper.semAt_some
set_option maxRecDepth 100000 in
set_option maxHeartbeats 4000000 in
theorem kept_seq (n : Nat) (X : Nat → Prop) (Bl Bs Bb size : Nat) (a : Option Addr) (c : Nat) (es : List Ed) (w : World) (hX : ∀ k, X k → k < w.heap.size) (hcl : ClB Bl w)
    (hs : SafeB X Bl w Bs (.cells #[.int .i64 size] 3 (0, 0))) (hl : SafeB X Bl w Bb (.cells #[.slice a es.length c] 22 (0, 0))) (he : SEds X Bl w a c es)
    (hsnd : Snd size 0 es) (hz : size ≤ 1000000000) (h64 : es.length ≤ 64) (hx : ∀ e ∈ es, e.x.length ≤ 1000000) :
    SeqO Fence.wide n Try.prog 71 #[.pointer (some ⟨Bb, 0, none⟩), .pointer (some ⟨Bs, 0, none⟩)] encP (KpB X Bl) (partsL size 0 0 es) w := by
  intro l J W hW hJ hY h0
  have hk0 : KpB X Bl w W := by
    have := KpB.below (X := X) (Bl := Bl) hW
    exact this
  have hST : Hid (ClB Bl W ∧ SafeB X Bl W Bs (.cells #[.int .i64 size] 3 (0, 0)) ∧ SafeB X Bl W Bb (.cells #[.slice a es.length c] 22 (0, 0)) ∧ SEds X Bl W a c es ∧ W.heap.size ≤ W.heap.size) :=
    ⟨hk0.cl hcl, hk0.safe _ _ hs, hk0.safe _ _ hl, he.kp hk0, Nat.le_refl _⟩
  have hXW : ∀ k, X k → k < W.heap.size := fun k hk => Nat.lt_of_lt_of_le (hX k hk) hW.size
  have HKI := Lib.hid (KeptI.zero (size := size) hsnd)
  have HX := Lib.hid hXW
  have HTX := Lib.hid hx
  have HY := Lib.hid hY
  have HJ := Lib.hid hJ
  clear hX hcl hs hl he hsnd hW hk0 hXW hx hY hJ
  have hm := hST.out.2.2.2.1.1.max
  have hlc := hST.out.2.2.2.1.1.le
  refine callsIn_of_wp Try.func71 rfl trivial ?_ rfl
  simp only [Try.ntmps71, List.size_toArray, List.length_cons, List.length_nil, Nat.reduceAdd, Nat.reduceSub, Array.replicate_succ, Array.replicate_zero, List.push_toArray, List.append_toArray, List.nil_append, List.cons_append]
  have cb := hST.out.2.2.1.box.cell
  gi_wp2
  gi_loopw [4, 5, 10] (fun ov sv iv wr => ∃ (j p q : Nat) (d : Int), j ≤ es.length ∧ iv = .int .i64 j ∧ ov = .int .i64 p ∧ sv = .int .i64 d ∧ Hid (KeptI size es j p q d) ∧
      Hid (ClB Bl wr ∧ SafeB X Bl wr Bs (.cells #[.int .i64 size] 3 (0, 0)) ∧ SafeB X Bl wr Bb (.cells #[.slice a es.length c] 22 (0, 0)) ∧ SEds X Bl wr a c es ∧ W.heap.size ≤ wr.heap.size) ∧ Hid (J ((partsL size 0 0 es).take j) wr))
    (fun _ _ iv _ => es.length - (intOf iv).toNat)
  case atStart => exact ⟨0, 0, 0, 0, by omega, rfl, rfl, rfl, HKI.out, hST.out, h0⟩
  case round =>
    clear hST HKI h0 cb
    obtain ⟨j, p, q, d, hj, rfl, rfl, rfl, HI, HS, HJW⟩ := hrel
    by_cases hjl : j < es.length
    · have hej : es[j]? = some es[j] := List.getElem?_eq_getElem hjl
      obtain ⟨f, t, k, hef, hfk, hft, hpf, hts, hpre, htk, HN⟩ := HI.out.next (e := es[j]) hej (HTX.out _ (List.getElem_mem _))
      have hxl := HTX.out es[j] (List.getElem_mem _)
      obtain ⟨x, hxx⟩ : ∃ x, es[j].x = x := ⟨_, rfl⟩
      rw [hxx] at hef hxl HN
      rw [hef] at hej
      obtain ⟨ab, ao, rfl⟩ := HS.out.2.2.2.1.1.addr (by omega)
      obtain ⟨e0, e1, e2⟩ := HS.out.2.2.2.1.1.cells hej
      simp only at e0 e1 e2
      have hsh := HI.out.shift
      have hqb := HI.out.bound
      have hqb' := HN.bound
      have hsh' := HN.shift
      obtain ⟨gr, hgr⟩ : ∃ gr, growE ⟨(f : Int), (t : Int), x⟩ = gr := ⟨_, rfl⟩
      have hgb : -1000000000 ≤ gr ∧ gr ≤ 1000000000 := by rw [← hgr]; unfold growE; simp only; omega
      rw [hgr] at HN hsh'
      obtain ⟨d', hdd⟩ : ∃ d', d + gr = d' := ⟨_, rfl⟩
      rw [hdd] at HN hsh'
      have kg := fun W => growth_any (f : Int) (t : Int) x W (by omega) (by omega) (by omega) (by omega) (by omega)
      rw [hgr] at kg
      have KG := Lib.hid kg
      obtain ⟨wa, hwa⟩ : ∃ wa, wr.alloc (.cells #[.int .i64 f, .int .i64 t, .string (strB x)] 39) = wa := ⟨_, rfl⟩
      have hka : KpB X Bl wr wa := by rw [← hwa]; exact KpB.alloc _ _
      have hsx : SafeB X Bl wa wr.heap.size (.cells #[.int .i64 f, .int .i64 t, .string (strB x)] 39 (0, 0)) := by
        rw [← hwa]; exact SafeB.new HS.out.1 (fun h => by have := HX.out _ h; have := HS.out.2.2.2.2; omega) _ rfl
      have hja : J ((partsL size 0 0 es).take j) wa := by rw [← hwa]; exact HJ.out.alloc _ HJW.out
      obtain ⟨fn, tmps, assign, body, hy, hR⟩ := HY.out (n - 1) _ (p, q, k) wa hja hpre
      unfold encP at hy
      simp only at hy
      have HSA : Hid (ClB Bl wa ∧ SafeB X Bl wa Bs (.cells #[.int .i64 size] 3 (0, 0)) ∧ SafeB X Bl wa Bb (.cells #[.slice (some ⟨ab, ao, none⟩) es.length c] 22 (0, 0)) ∧ SEds X Bl wa (some ⟨ab, ao, none⟩) c es ∧ W.heap.size ≤ wa.heap.size) :=
        ⟨hka.cl HS.out.1, hka.safe _ _ HS.out.2.1, hka.safe _ _ HS.out.2.2.1, HS.out.2.2.2.1.kp hka, Nat.le_trans HS.out.2.2.2.2 hka.size⟩
      have f0 := hsx.cell (j := 0) rfl
      have HSX := Lib.hid hsx
      have HNN := Lib.hid HN
      have HTK := Lib.hid htk
      have HEJ := Lib.hid hej
      have HFX := Lib.hid hef
      have HXX := Lib.hid hxx
      have HGB := Lib.hid hgb
      have HS' := Lib.hid hsh'
      have hpq : 0 ≤ (p : Int) + d := by omega
      have HDW : Hid (wrap64 (d + gr) = d') := by unfold Hid; rw [hdd]; unfold wrap64; omega
      have d1 : decide ((j : Int) < es.length) = true := decide_eq_true (by omega)
      obtain ⟨xb, hxb⟩ : ∃ xb, wr.heap.size = xb := ⟨_, rfl⟩
      rw [hxb] at HSX f0
      clear hpre htk hej hef hxx hgb hgr hdd hsh' HN hka hsx hja kg
      gi_wp2
      refine ⟨fun h => (by cases h), hR.mono ?_⟩
      rintro e W3 ⟨rfl, hJ3, hk3, -⟩
      have hs3 := hk3.safe _ _ HSX.out
      have g0 := hs3.cell (j := 0) rfl
      have g1 := hs3.cell (j := 1) rfl
      have g2 := hs3.cell (j := 2) rfl
      have HS3 : Hid (ClB Bl W3 ∧ SafeB X Bl W3 Bs (.cells #[.int .i64 size] 3 (0, 0)) ∧ SafeB X Bl W3 Bb (.cells #[.slice (some ⟨ab, ao, none⟩) es.length c] 22 (0, 0)) ∧ SEds X Bl W3 (some ⟨ab, ao, none⟩) c es ∧ W.heap.size ≤ W3.heap.size) :=
        ⟨hk3.cl HSA.out.1, hk3.safe _ _ HSA.out.2.1, hk3.safe _ _ HSA.out.2.2.1, HSA.out.2.2.2.1.kp hk3, Nat.le_trans HSA.out.2.2.2.2 hk3.size⟩
      have HJ3 := Lib.hid hJ3
      clear hJ3 hk3 hs3
      gi_wp2_with (refine ⟨trivial, fun h => (by cases h), ?_⟩; gi_at_call 41; refine (callsIn_wide.2 (KG.out _)).mono ?_; rintro e W4 ⟨rfl, hb4⟩)
      have hk4 : KpB X Bl W3 W4 := KpB.below hb4
      have HS4 := Lib.hid (show ClB Bl W4 ∧ SafeB X Bl W4 Bs (.cells #[.int .i64 size] 3 (0, 0)) ∧ SafeB X Bl W4 Bb (.cells #[.slice (some ⟨ab, ao, none⟩) es.length c] 22 (0, 0)) ∧ SEds X Bl W4 (some ⟨ab, ao, none⟩) c es ∧ W.heap.size ≤ W4.heap.size from
        ⟨hk4.cl HS3.out.1, hk4.safe _ _ HS3.out.2.1, hk4.safe _ _ HS3.out.2.2.1, HS3.out.2.2.2.1.kp hk4, Nat.le_trans HS3.out.2.2.2.2 hk4.size⟩)
      have HJ4 := Lib.hid (OwnFrom.below HJ.out HJ3.out hb4)
      rw [← HTK.out] at HJ4
      clear hk4 hb4
      gi_wp2
      go_roundw
      case rel => exact ⟨j + 1, t, _, d', by omega, by go_num, rfl, by rw [HDW.out], HNN.out, HS4.out, HJ4.out⟩
      case measure => simp [intOf]; omega
    · obtain rfl : j = es.length := by omega
      obtain ⟨k, hk, hps, htk⟩ := HI.out.last
      have hsh := HI.out.shift
      have hqb := HI.out.bound
      have cs := HS.out.2.1.box.cell
      obtain ⟨fn, tmps, assign, body, hy, hR⟩ := HY.out (n - 1) _ (p, q, k) wr HJW.out (by rw [htk]; exact List.prefix_refl _)
      rw [htk] at hR
      have HTK := Lib.hid htk
      clear htk
      unfold encP at hy
      simp only at hy
      have d1 : decide (((es.length : Nat) : Int) < es.length) = false := by simp
      gi_wp2
      refine ⟨fun h => (by cases h), hR.mono ?_⟩
      rintro e W3 ⟨rfl, hJ3, -, -⟩
      gi_wp2
      go_end0
      exact ⟨⟨_, rfl⟩, hJ3⟩
end
end Go.Proofs.Ytpncjgcdiomloaa
