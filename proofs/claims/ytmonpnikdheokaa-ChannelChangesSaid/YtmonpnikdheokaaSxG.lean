/-
  Edits and their positions: plain facts and cells.
-/
import Derived.Test.YtmonpnikdheokaaSxF
import Derived.Test.YtmonpnikdheokaaSxE
namespace Go.Proofs.Ytmonpnikdheokaa
open Go Go.Proofs
open Go.RowKit
set_option linter.unusedVariables false
set_option linter.unusedSimpArgs false

theorem bord_posG {l : List UInt8} {k : Nat} (hkm : k ∈ bordL l 0) (hls : l.length ≤ 5000) : ∃ ln un : Nat, atC l k = ((ln, un), 0) ∧ offC l ln un = (k, 0) ∧ ln ≤ 5001 ∧ un ≤ 5001 ∧ k ≤ l.length := by
  have hkl := bord_ge hkm
  have hoff := off_at hkm
  obtain ⟨P, hP⟩ : ∃ P, atC l k = P := ⟨_, rfl⟩
  have he0 : P.2 = 0 := by rw [← hP, atC_border hkm]
  rw [hP] at hoff
  obtain ⟨⟨ln, un⟩, e0⟩ := P
  simp only at hoff he0
  subst he0
  have hun := unitsL_le l
  have hr1 : ln ≤ 5001 ∧ un ≤ 5001 := by
    obtain ⟨h1, h2, h3, h4⟩ := at_off hoff
    rw [atC_border h3] at h4
    simp only [Int.toNat_natCast, Prod.mk.injEq, and_true] at h4
    have h5 := lineIx_lt l k
    have h6 := linesL_len l
    have h7 := unitsL_le ((l.take k).drop ((linesL l).getD (lineIx l k) 0))
    simp only [List.length_drop, List.length_take] at h7
    omega
  exact ⟨ln, un, hP, hoff, hr1.1, hr1.2, by omega⟩
/-- An edit between characters. -/
def BorG (l : List UInt8) (e : Ed) : Prop := ∃ f t : Nat, e.f = f ∧ e.t = t ∧ f ∈ bordL l 0 ∧ t ∈ bordL l 0
def pedOf (l : List UInt8) (e : Ed) : PEd := ⟨(atC l e.f).1.1, (atC l e.f).1.2, (atC l e.t).1.1, (atC l e.t).1.2, strB e.x⟩
def bedOf (e : Ed) : BEd := ⟨e.f.toNat, e.t.toNat, strB e.x⟩
theorem ped_ok {l : List UInt8} {e : Ed} (h : BorG l e) (hft : e.f ≤ e.t) : pbE l (pedOf l e) = 0 ∧ pbB l (pedOf l e) = bedOf e := by
  obtain ⟨f, t, hf, ht, bf, bt⟩ := h
  rw [hf, ht] at hft
  have hle : ¬ t < f := by omega
  unfold pbE pbB pedOf bedOf
  rw [hf, ht]
  simp only [off_at bf, off_at bt, Int.toNat_natCast]
  exact ⟨by simp [hle], trivial⟩
theorem pbR_all {l : List UInt8} : ∀ {es : List Ed} {acc : List BEd}, (∀ e ∈ es, BorG l e ∧ e.f ≤ e.t) → pbR l (es.map (pedOf l)) acc = (acc ++ es.map bedOf, 0)
  | [], acc, _ => by simp [pbR]
  | e :: es, acc, h => by
    have h0 := h e (by simp)
    obtain ⟨h1, h2⟩ := ped_ok h0.1 h0.2
    rw [List.map_cons, pbR_cons, if_pos h1, h2, pbR_all fun x hx => h x (List.mem_cons_of_mem _ hx)]
    simp
theorem pbX_all {l : List UInt8} {es : List Ed} (h : ∀ e ∈ es, BorG l e ∧ e.f ≤ e.t) (hl : es.length ≤ 64) : pbX l (es.map (pedOf l)) = (es.map bedOf, 0) := by
  unfold pbX
  rw [if_neg (by rw [List.length_map]; omega), pbR_all h, List.nil_append]
theorem bed_cells : ∀ {es : List Ed}, (∀ e ∈ es, 0 ≤ e.f ∧ 0 ≤ e.t) → (es.map bedOf).flatMap bedC = edCs es
  | [], _ => rfl
  | e :: es, h => by
    have h0 := h e (by simp)
    have ih := bed_cells fun x hx => h x (List.mem_cons_of_mem _ hx)
    unfold edCs at ih ⊢
    rw [List.map_cons, List.flatMap_cons, List.flatMap_cons, ih]
    congr 1
    unfold bedC bedOf edC
    simp only
    rw [Int.toNat_of_nonneg h0.1, Int.toNat_of_nonneg h0.2]
theorem snd_ft {n : Nat} : ∀ {es : List Ed} {p : Nat}, Snd n p es → ∀ e ∈ es, 0 ≤ e.f ∧ 0 ≤ e.t ∧ e.f ≤ e.t ∧ e.t ≤ n
  | [], _, _, _, he => by simp at he
  | x :: es, p, ⟨h1, h2, h3, h4⟩, e, he => by
    rcases List.mem_cons.1 he with rfl | he
    · omega
    · exact snd_ft h4 e he
theorem ownBEd_eds {w : World} {base : Nat} {v : Value} {es : List Ed} (h : OwnBEd w base v (es.map bedOf)) (hf : ∀ e ∈ es, 0 ≤ e.f ∧ 0 ≤ e.t) : OwnEds w base v es := by
  have h' := h
  unfold OwnBEd OwnRec at h'
  rw [bed_cells hf, List.length_map] at h'
  exact h'
theorem pos_new {w W : World} {a b : Int} {t : TypeId} (h : W = w.alloc (.cells #[.int .i64 a, .int .i64 b] t)) :
    W.cell? ⟨w.heap.size, 0, none⟩ = some (.int .i64 a) ∧ W.cell? ⟨w.heap.size, 1, none⟩ = some (.int .i64 b) ∧ Below w.heap.size w W := by
  obtain ⟨h1, h2, -⟩ := pos_facts (W := W) (b := w.heap.size) (t := t) (x := .int .i64 a) (y := .int .i64 b) (by rw [h]; exact heap_alloc_new w _)
  exact ⟨h1, h2, by rw [h]; exact (Below.refl _ w).alloc (Nat.le_refl _) _⟩
def textB (xs : List Int) : ByteArray := ⟨(textL xs).toArray⟩
theorem textB_list (xs : List Int) : (textB xs).data.toList = textL xs := by unfold textB; simp
theorem textB_size (xs : List Int) : (textB xs).size ≤ 96 := by
  have := text_len xs
  show (textL xs).toArray.size ≤ _
  simpa using this
theorem text_b (a : Option Addr) (c : Nat) (xs : List Int) (w : World) (hx : SliceAt w a c (xs.map intV)) (hb : ∀ n ∈ xs, -9223372036854775808 ≤ n ∧ n ≤ 9223372036854775807) :
    Calls Try.prog 58 #[.slice a xs.length c] w fun e w' => e = .returned (.string (textB xs)) ∧ Below w.heap.size w w' := text_any a c xs w hx hb

theorem row_neP {W : World} {b : Nat} {cs : Array Value} {t e : TypeId} (h : W.heap[b]? = some (.cells cs t (0, 0))) (hte : t ≠ e) {base size k : Nat} {v : Value} {xs : List Value} (hr : W.ownsRow base e size v k xs) : some b ≠ v.ownBlock := by
  rcases hr.2 with ⟨rfl, _⟩ | ⟨g, cap, cur, rfl, _, hgb, _⟩
  · simp [Value.ownBlock]
  · intro e'
    obtain rfl : b = g := by simpa [Value.ownBlock] using e'
    have := h.symm.trans hgb
    simp at this
    exact hte this.2
theorem hold_grow {W W2 : World} {own : Option Nat} (hg : W.grownBy W2 own) {p : Addr} {v : Value} (h : W.cell? p = some v) (hne : some p.block ≠ own) : W2.cell? p = some v := by
  have hb := hg.block p.block (World.block_lt_of_cell? W _ h) hne
  rw [← h]
  unfold World.cell?
  rw [hb]
theorem hold5 {W W2 : World} {own : Option Nat} {p0 p1 p2 p3 p4 : Addr} {v0 v1 v2 v3 v4 : Value} (h : W.cell? p0 = some v0 ∧ W.cell? p1 = some v1 ∧ W.cell? p2 = some v2 ∧ W.cell? p3 = some v3 ∧ W.cell? p4 = some v4) (hg : W.grownBy W2 own)
    (n0 : some p0.block ≠ own) (n1 : some p1.block ≠ own) (n2 : some p2.block ≠ own) (n3 : some p3.block ≠ own) (n4 : some p4.block ≠ own) : W2.cell? p0 = some v0 ∧ W2.cell? p1 = some v1 ∧ W2.cell? p2 = some v2 ∧ W2.cell? p3 = some v3 ∧ W2.cell? p4 = some v4 :=
  ⟨hold_grow hg h.1 n0, hold_grow hg h.2.1 n1, hold_grow hg h.2.2.1 n2, hold_grow hg h.2.2.2.1 n3, hold_grow hg h.2.2.2.2 n4⟩
end Go.Proofs.Ytmonpnikdheokaa
