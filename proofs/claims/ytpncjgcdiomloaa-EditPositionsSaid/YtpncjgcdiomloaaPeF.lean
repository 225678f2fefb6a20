/-
  Edits by positions and back: plain facts for the law EditPositions. No program's code in sight.
-/
import Derived.Test.YtpncjgcdiomloaaPeC
import Derived.Test.YtpncjgcdiomloaaPeE
import Derived.Test.YtpncjgcdiomloaaEdF
namespace Go.Proofs.Ytpncjgcdiomloaa
open Go Go.Proofs
open Go.RowKit
set_option linter.unusedVariables false
set_option linter.unusedSimpArgs false

theorem map_first {off : Int} : ∀ {es : List Ed} {n p : Nat} {out : Int}, Snd n p es → off ≤ p → mapL off false out es = out
  | [], _, _, _, _, _ => rfl
  | e :: es, n, p, out, h, hp => by
    obtain ⟨h1, h2, h3, h4⟩ := h
    rw [mapL, if_neg (by omega), if_neg (by omega), if_neg (by simp)]
    exact map_first h4 (by omega)
theorem snd_wide {n m : Nat} (h : n ≤ m) : ∀ {es : List Ed} {p : Nat}, Snd n p es → Snd m p es
  | [], p, hs => by show p ≤ m; exact Nat.le_trans hs h
  | e :: es, p, ⟨h1, h2, h3, h4⟩ => ⟨h1, h2, by omega, snd_wide h h4⟩
theorem mapX_first {n : Nat} {e : Ed} {es : List Ed} (h : Snd n 0 (e :: es)) (hn : n ≤ 1000000) (hl : (e :: es).length ≤ 64) : mapX (e :: es) e.f false = e.f := by
  have hv : validL topI (e :: es) = 0 := valid_of (n := 9223372036854775807) (snd_wide (by omega) h) hl
  unfold mapX
  rw [if_pos hv]
  obtain ⟨h1, h2, h3, h4⟩ := h
  exact map_first (n := n) (p := e.f.toNat) ⟨by omega, h2, h3, h4⟩ (by omega)
def pedOf (l : List UInt8) (e : Ed) : PEd := ⟨(atC l e.f).1.1, (atC l e.f).1.2, (atC l e.t).1.1, (atC l e.t).1.2, strB e.x⟩
def bedOf (e : Ed) : BEd := ⟨e.f.toNat, e.t.toNat, strB e.x⟩
theorem ped_ok {l : List UInt8} {e : Ed} (h : BorE l e) (hft : e.f ≤ e.t) : pbE l (pedOf l e) = 0 ∧ pbB l (pedOf l e) = bedOf e := by
  obtain ⟨_, f, t, hf, ht, bf, bt⟩ := h
  rw [hf, ht] at hft
  have hle : ¬ t < f := by omega
  unfold pbE pbB pedOf bedOf
  rw [hf, ht]
  simp only [off_at bf, off_at bt, Int.toNat_natCast]
  exact ⟨by simp [hle], trivial⟩
theorem pbR_all {l : List UInt8} : ∀ {es : List Ed} {acc : List BEd}, (∀ e ∈ es, BorE l e ∧ e.f ≤ e.t) → pbR l (es.map (pedOf l)) acc = (acc ++ es.map bedOf, 0)
  | [], acc, _ => by simp [pbR]
  | e :: es, acc, h => by
    have h0 := h e (by simp)
    obtain ⟨h1, h2⟩ := ped_ok h0.1 h0.2
    rw [List.map_cons, pbR_cons, if_pos h1, h2, pbR_all fun x hx => h x (List.mem_cons_of_mem _ hx)]
    simp
theorem pbX_all {l : List UInt8} {es : List Ed} (h : ∀ e ∈ es, BorE l e ∧ e.f ≤ e.t) (hl : es.length ≤ 64) : pbX l (es.map (pedOf l)) = (es.map bedOf, 0) := by
  unfold pbX
  rw [if_neg (by rw [List.length_map]; omega), pbR_all h, List.nil_append]
theorem bed_cells : ∀ {es : List Ed}, (∀ e ∈ es, 0 ≤ e.f ∧ 0 ≤ e.t) → (es.map bedOf).flatMap bedC = edCs es
  | [], _ => rfl
  | e :: es, h => by
    have h0 := h e (by simp)
    have ih := bed_cells fun x hx => h x (List.mem_cons_of_mem _ hx)
    unfold edCs at ih ⊢
    rw [List.map_cons, List.flatMap_cons, List.flatMap_cons, ih]
    congr 1
    unfold bedC bedOf edC
    simp only
    rw [Int.toNat_of_nonneg h0.1, Int.toNat_of_nonneg h0.2]
theorem snd_ft {n : Nat} : ∀ {es : List Ed} {p : Nat}, Snd n p es → ∀ e ∈ es, 0 ≤ e.f ∧ 0 ≤ e.t ∧ e.f ≤ e.t ∧ e.t ≤ n
  | [], _, _, _, he => by simp at he
  | x :: es, p, ⟨h1, h2, h3, h4⟩, e, he => by
    rcases List.mem_cons.1 he with rfl | he
    · omega
    · exact snd_ft h4 e he
theorem ownBEd_eds {w : World} {base : Nat} {v : Value} {es : List Ed} (h : OwnBEd w base v (es.map bedOf)) (hf : ∀ e ∈ es, 0 ≤ e.f ∧ 0 ≤ e.t) : OwnEds w base v es := by
  have h' := h
  unfold OwnBEd OwnRec at h'
  rw [bed_cells hf, List.length_map] at h'
  exact h'
/-- The beginning of the first edit has the same position in both texts. -/
theorem first_at {l : List UInt8} (hW : Whole l) {e : Ed} {es : List Ed} {f : Nat} (hf : e.f = f) (hb : f ∈ bordL l 0) : atC l f = atC (applyL l 0 (e :: es)) f ∧ (atC l f).2 = 0 := by
  have hw := whole_take hW hb
  rw [Nat.sub_zero] at hw
  have hle := bord_ge hb
  have hlen : (l.take f).length = f := by rw [List.length_take]; omega
  have h := at_ahead hw (b := l.drop f) (c := e.x ++ applyL l e.t.toNat es)
  rw [hlen, List.take_append_drop] at h
  have he : applyL l 0 (e :: es) = l.take f ++ (e.x ++ applyL l e.t.toNat es) := by
    simp only [applyL, hf, Int.toNat_natCast]
    unfold cutL
    rw [List.drop_zero, Nat.sub_zero, List.append_assoc]
  rw [he]
  exact h
theorem pos_new {w W : World} {a b : Int} {t : TypeId} (h : W = w.alloc (.cells #[.int .i64 a, .int .i64 b] t)) :
    W.cell? ⟨w.heap.size, 0, none⟩ = some (.int .i64 a) ∧ W.cell? ⟨w.heap.size, 1, none⟩ = some (.int .i64 b) ∧ Below w.heap.size w W := by
  obtain ⟨h1, h2, -⟩ := pos_facts (W := W) (b := w.heap.size) (t := t) (x := .int .i64 a) (y := .int .i64 b) (by rw [h]; exact heap_alloc_new w _)
  exact ⟨h1, h2, by rw [h]; exact (Below.refl _ w).alloc (Nat.le_refl _) _⟩
def textB (xs : List Int) : ByteArray := ⟨(textL xs).toArray⟩
theorem textB_list (xs : List Int) : (textB xs).data.toList = textL xs := by unfold textB; simp
theorem textB_size (xs : List Int) : (textB xs).size ≤ 96 := by
  have := text_len xs
  show (textL xs).toArray.size ≤ _
  simpa using this
theorem text_b (a : Option Addr) (c : Nat) (xs : List Int) (w : World) (hx : SliceAt w a c (xs.map intV)) (hb : ∀ n ∈ xs, -9223372036854775808 ≤ n ∧ n ≤ 9223372036854775807) :
    Calls Try.prog 34 #[.slice a xs.length c] w fun e w' => e = .returned (.string (textB xs)) ∧ Below w.heap.size w w' := text_any a c xs w hx hb
end Go.Proofs.Ytpncjgcdiomloaa
