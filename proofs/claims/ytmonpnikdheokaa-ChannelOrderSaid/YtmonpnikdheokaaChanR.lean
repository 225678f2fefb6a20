/-
  The law ChannelOrder.
-/
import Derived.Test.YtmonpnikdheokaaChanO
import Derived.Test.YtmonpnikdheokaaChanQ
import Derived.Deep.CutBlock
namespace Go.Proofs.Ytmonpnikdheokaa
open Go Go.Proofs
open Go.RowKit
set_option linter.unusedVariables false
set_option linter.unusedSimpArgs false

/-- Memory of the law: the ends, what each has sent, what each has delivered, the packets on the link and where they go. -/
structure OW (w wr : World) (o b : Nat → Nat) (E : Nat → EndS) (eb sb gb : Nat) (S : Nat → List (List UInt8)) (g : Nat → Nat) (lv tv : Value) (qs : List Pkt) (ts : List Nat) : Prop where
  two : Two w wr o b E
  es : Blk wr o 0 eb (L2 (ptrV b))
  sent : ∃ v, Blk wr o 41 sb (L2 v) ∧ ∀ k, k < 2 → MRow wr o (42 + k) (v k) (S k)
  got : Blk wr o 40 gb (L2 (natV g))
  link : PRow wr o (fun _ => 0) 45 lv qs
  dest : RowL wr o 46 3 1 tv ts.length (ts.map fun (t : Nat) => .int .i64 (t : Int))
theorem OW.step {L : Nat → Prop} {w wr w' : World} {o o' b : Nat → Nat} {E : Nat → EndS} {eb sb gb : Nat} {S : Nat → List (List UInt8)} {g : Nat → Nat} {lv tv : Value} {qs : List Pkt} {ts : List Nat}
    (h : OW w wr o b E eb sb gb S g lv tv qs ts) (hs : Step L wr o w' o') (h0 : ∀ l, l < 47 → ¬ L l) : OW w w' o' b E eb sb gb S g lv tv qs ts := by
  obtain ⟨h1, h2, ⟨v, h3, h4⟩, h5, h6, h7⟩ := h
  exact ⟨h1.step hs (fun l hl => h0 l (by omega)), h2.step hs (h0 0 (by omega)), ⟨v, h3.step hs (h0 41 (by omega)), fun k hk => (h4 k hk).step hs (h0 _ (by omega)) (h0 0 (by omega))⟩, h5.step hs (h0 40 (by omega)),
    h6.step hs (h0 45 (by omega)) (fun _ _ => h0 0 (by omega)), h7.step hs (h0 46 (by omega))⟩
theorem OW.ends {w wr w' : World} {L : Nat → Prop} {o o' b : Nat → Nat} {E E' : Nat → EndS} {eb sb gb : Nat} {S : Nat → List (List UInt8)} {g : Nat → Nat} {lv tv : Value} {qs : List Pkt} {ts : List Nat}
    (h : OW w wr o b E eb sb gb S g lv tv qs ts) (hs : Step L wr o w' o') (h0 : ¬ L 0) (h1 : ∀ l, 40 ≤ l → l < 47 → ¬ L l) (ht : Two w w' o' b E') : OW w w' o' b E' eb sb gb S g lv tv qs ts := by
  obtain ⟨_, h2, ⟨v, h3, h4⟩, h5, h6, h7⟩ := h
  exact ⟨ht, h2.step hs h0, ⟨v, h3.step hs (h1 41 (by omega) (by omega)), fun k hk => (h4 k hk).step hs (h1 _ (by omega) (by omega)) h0⟩, h5.step hs (h1 40 (by omega) (by omega)),
    h6.step hs (h1 45 (by omega) (by omega)) (fun _ _ => h0), h7.step hs (h1 46 (by omega) (by omega))⟩

section
variable {w wr w' : World} {o o' b : Nat → Nat} {E : Nat → EndS} {eb sb gb : Nat} {S : Nat → List (List UInt8)} {g : Nat → Nat} {lv tv : Value} {qs : List Pkt} {ts : List Nat}
theorem OW.sentPut (h : OW w wr o b E eb sb gb S g lv tv qs ts) {k : Nat} (hk : k < 2) {v' : Value} (hs : Step (· = 42 + k) wr o w' o') {ms : List (List UInt8)} (hr : MRow w' o' (42 + k) v' ms) :
    OW w (w'.setCell ⟨sb, k, none⟩ v') o' b E eb sb gb (upd S k ms) g lv tv qs ts := by
  obtain ⟨h1, h2, ⟨v, h3, h4⟩, h5, h6, h7⟩ := h
  have h3' := h3.step hs (by omega)
  have hs2 : Step (· = 41) w' o' (w'.setCell ⟨sb, k, none⟩ v') o' := (Step.refl _ _ _).set (p := ⟨sb, k, none⟩) h3'.lab _
  have hL : Step (fun x => x = 42 + k ∨ x = 41) wr o (w'.setCell ⟨sb, k, none⟩ v') o' := (hs.mono fun _ h => .inl h).trans (hs2.mono fun _ h => .inr h)
  refine ⟨h1.step hL (fun l hl => by omega), h2.step hL (by omega), ⟨upd v k v', ?_, fun j hj => ?_⟩, h5.step hL (by omega), h6.step hL (by omega) (fun _ _ => by omega), h7.step hL (by omega)⟩
  · have := h3'.set k v'
    rwa [L2_set _ hk] at this
  · by_cases hjk : j = k
    · subst hjk; rw [upd_at, upd_at]; exact hr.step hs2 (by omega) (by omega)
    · rw [upd_not _ _ hjk, upd_not _ _ hjk]; exact (h4 j hj).step hL (by omega) (by omega)
theorem OW.setLink (h : OW w wr o b E eb sb gb S g lv tv qs ts) (hs : Step (· = 45) wr o w' o') {lv' : Value} {qs' : List Pkt} (hr : PRow w' o' (fun _ => 0) 45 lv' qs') : OW w w' o' b E eb sb gb S g lv' tv qs' ts := by
  obtain ⟨h1, h2, ⟨v, h3, h4⟩, h5, h6, h7⟩ := h
  exact ⟨h1.step hs (fun l hl => by omega), h2.step hs (by omega), ⟨v, h3.step hs (by omega), fun k hk => (h4 k hk).step hs (by omega) (by omega)⟩, h5.step hs (by omega), hr, h7.step hs (by omega)⟩
theorem OW.setDest (h : OW w wr o b E eb sb gb S g lv tv qs ts) (hs : Step (· = 46) wr o w' o') {tv' : Value} {ts' : List Nat} (hr : RowL w' o' 46 3 1 tv' ts'.length (ts'.map fun (t : Nat) => .int .i64 (t : Int))) : OW w w' o' b E eb sb gb S g lv tv' qs ts' := by
  obtain ⟨h1, h2, ⟨v, h3, h4⟩, h5, h6, h7⟩ := h
  exact ⟨h1.step hs (fun l hl => by omega), h2.step hs (by omega), ⟨v, h3.step hs (by omega), fun k hk => (h4 k hk).step hs (by omega) (by omega)⟩, h5.step hs (by omega), h6.step hs (by omega) (fun _ _ => by omega), hr⟩
theorem OW.gotPut (h : OW w wr o b E eb sb gb S g lv tv qs ts) {k : Nat} (hk : k < 2) (x : Nat) : OW w (wr.setCell ⟨gb, k, none⟩ (.int .i64 (x : Int))) o b E eb sb gb S (upd g k x) lv tv qs ts := by
  obtain ⟨h1, h2, ⟨v, h3, h4⟩, h5, h6, h7⟩ := h
  have hs : Step (· = 40) wr o (wr.setCell ⟨gb, k, none⟩ (.int .i64 (x : Int))) o := (Step.refl _ _ _).set (p := ⟨gb, k, none⟩) h5.lab _
  refine ⟨h1.step hs (fun l hl => by omega), h2.step hs (by omega), ⟨v, h3.step hs (by omega), fun k hk => (h4 k hk).step hs (by omega) (by omega)⟩, ?_, h6.step hs (by omega) (fun _ _ => by omega), h7.step hs (by omega)⟩
  have := h5.set k (.int .i64 (x : Int))
  rwa [L2_set _ hk, ← natV_upd] at this
end
/-- What is true between two calls. -/
structure OI (i : Nat) (E : Nat → EndS) (S : Nat → List (List UInt8)) (qs : List Pkt) (ts : List Nat) : Prop where
  good : ∀ k, k < 2 → Good (S k) (S (1 - k)) (E k) (E (1 - k)).got
  fit : ∀ k, k < 2 → Fit (E k) (1000 * i)
  sz : ∀ k, k < 2 → (S k).length ≤ i
  len : ts.length = qs.length
  many : qs.length ≤ 16 * i
  to2 : ∀ (j t : Nat), ts[j]? = some t → t < 2
  pk : ∀ (j : Nat) (q : Pkt) (t : Nat), qs[j]? = some q → ts[j]? = some t → PGood q (S (1 - t)) (E (1 - t)).got
theorem OI.mono {i : Nat} {E : Nat → EndS} {S : Nat → List (List UInt8)} {qs : List Pkt} {ts : List Nat} (h : OI i E S qs ts) : OI (i + 1) E S qs ts :=
  ⟨h.good, fun k hk => (h.fit k hk).mono (by omega), fun k hk => by have := h.sz k hk; omega, h.len, by have := h.many; omega, h.to2, h.pk⟩
theorem one_sub {k j : Nat} (hk : k < 2) (hj : j < 2) (h : j ≠ k) : 1 - j = k ∧ 1 - k = j := by omega
theorem OI.send {i : Nat} {E : Nat → EndS} {S : Nat → List (List UInt8)} {qs : List Pkt} {ts : List Nat} (h : OI i E S qs ts) (hi : i < 900) {k : Nat} (hk : k < 2) {m : List UInt8} (hm : m.length ≤ 65536) :
    sendErr (E k) m = 0 ∧ OI (i + 1) (upd E k (sendE (E k) m)) (upd S k (S k ++ [m])) qs ts := by
  have hg := (h.good k hk).send hm (by have := h.sz k hk; omega)
  have hgot : ∀ j, (upd E k (sendE (E k) m) j).got = (E j).got := by
    intro j
    by_cases hj : j = k
    · subst hj; rw [upd_at]; unfold sendE; split <;> rfl
    · rw [upd_not _ _ hj]
  refine ⟨hg.1, ⟨fun j hj => ?_, fun j hj => ?_, fun j hj => ?_, h.len, by have := h.many; omega, h.to2, fun j q t hq ht => ?_⟩⟩
  · rw [hgot]
    by_cases hjk : j = k
    · subst hjk
      rw [upd_at, upd_at, upd_not _ _ (show 1 - j ≠ j by omega)]
      exact hg.2
    · obtain ⟨e1, e2⟩ := one_sub hk hj hjk
      rw [upd_not _ _ hjk, upd_not _ _ hjk, e1, upd_at]
      have := (h.good j hj).other m
      rw [e1] at this
      exact this
  · by_cases hjk : j = k
    · subst hjk; rw [upd_at]; exact ((h.fit j hj).send m).mono (by omega)
    · rw [upd_not _ _ hjk]; exact (h.fit j hj).mono (by omega)
  · by_cases hjk : j = k
    · subst hjk; rw [upd_at]; have := h.sz j hj; simp; omega
    · rw [upd_not _ _ hjk]; have := h.sz j hj; omega
  · rw [hgot]
    have := h.pk j q t hq ht
    by_cases hjk : 1 - t = k
    · rw [hjk, upd_at]
      rw [hjk] at this
      exact this.more m
    · rw [upd_not _ _ hjk]; exact this
theorem OI.out {i : Nat} {E : Nat → EndS} {S : Nat → List (List UInt8)} {qs : List Pkt} {ts : List Nat} (h : OI i E S qs ts) {k : Nat} (hk : k < 2) (n : Nat) :
    OI (i + 1) (upd E k (outE (E k))) S (qs ++ (outP (E k)).take n) (ts ++ (List.replicate ((outP (E k)).take n).length (1 - k))) := by
  have hgot : ∀ j, (upd E k (outE (E k)) j).got = (E j).got := by
    intro j
    by_cases hj : j = k
    · subst hj; rw [upd_at]; rfl
    · rw [upd_not _ _ hj]
  have hl := outP_len (h.fit k hk).w2
  refine ⟨fun j hj => ?_, fun j hj => ?_, fun j hj => by have := h.sz j hj; omega, ?_, ?_, fun j t ht => ?_, fun j q t hq ht => ?_⟩
  · rw [hgot]
    by_cases hjk : j = k
    · subst hjk; rw [upd_at]; exact (h.good j hj).out
    · rw [upd_not _ _ hjk]; exact h.good j hj
  · by_cases hjk : j = k
    · subst hjk; rw [upd_at]; exact ((h.fit j hj).out).mono (by omega)
    · rw [upd_not _ _ hjk]; exact (h.fit j hj).mono (by omega)
  · simp [h.len]
  · have := h.many; simp; omega
  · by_cases hj : j < ts.length
    · rw [List.getElem?_append_left hj] at ht; exact h.to2 j t ht
    · rw [List.getElem?_append_right (by omega), List.getElem?_replicate] at ht
      split at ht
      · simp at ht; omega
      · cases ht
  · rw [hgot]
    by_cases hj : j < ts.length
    · rw [List.getElem?_append_left hj] at ht
      rw [List.getElem?_append_left (by rw [← h.len]; exact hj)] at hq
      exact h.pk j q t hq ht
    · rw [List.getElem?_append_right (by omega), List.getElem?_replicate] at ht
      rw [List.getElem?_append_right (by rw [← h.len]; omega), List.getElem?_take] at hq
      split at ht
      · simp at ht
        split at hq
        · have := (h.good k hk).pkts hq
          rw [← ht, show 1 - (1 - k) = k by omega]
          exact this
        · cases hq
      · cases ht
theorem OI.inn {i : Nat} {E : Nat → EndS} {S : Nat → List (List UInt8)} {qs : List Pkt} {ts : List Nat} (h : OI i E S qs ts) {j t : Nat} {q : Pkt} (hq : qs[j]? = some q) (ht : ts[j]? = some t) :
    OI (i + 1) (upd E t (inE (E t) q)) S qs ts ∧ (inE (E t) q).got = (E t).got + (inO (E t) q).length ∧ ∀ r m, (inO (E t) q)[r]? = some m → (S (1 - t))[(E t).got + r]? = some m := by
  have ht2 := h.to2 j t ht
  obtain ⟨h1, h2, h3⟩ := (h.good t ht2).inn (h.pk j q t hq ht)
  have hgot : ∀ x, (E x).got ≤ (upd E t (inE (E t) q) x).got := by
    intro x
    by_cases hx : x = t
    · subst hx; rw [upd_at]; omega
    · rw [upd_not _ _ hx]; exact Nat.le_refl _
  refine ⟨⟨fun x hx => ?_, fun x hx => ?_, fun x hx => by have := h.sz x hx; omega, h.len, by have := h.many; omega, h.to2, fun x q' t' hq' ht' => (h.pk x q' t' hq' ht').mono (hgot _)⟩, h2, h3⟩
  · by_cases hxt : x = t
    · subst hxt
      rw [upd_at, upd_not _ _ (show 1 - x ≠ x by omega)]
      exact h1
    · obtain ⟨e1, e2⟩ := one_sub ht2 hx hxt
      rw [upd_not _ _ hxt, e1, upd_at]
      have := h.good x hx
      rw [e1] at this
      refine this.mono (by omega) ?_
      have := h1.got
      rw [e2] at this
      exact this
  · by_cases hxt : x = t
    · subst hxt; rw [upd_at]; exact ((h.fit x hx).inn q).mono (by omega)
    · rw [upd_not _ _ hxt]; exact (h.fit x hx).mono (by omega)

theorem lit_two (w : World) (i : Nat) (h : i < 256) (e : Nat) : SliceAt (w.alloc (.cells #[.int .u8 (i : Int), .int .u8 3] e)) (some ⟨w.heap.size, 0, none⟩) 2 ([UInt8.ofNat i, 3].map byteV) := by
  have := slice_new (f := byteV) (xs := [UInt8.ofNat i, 3]) (w := w) (e := e) (by simp)
  have e1 : (UInt8.ofNat i).toNat = i := by rw [UInt8.toNat_ofNat']; omega
  simp only [List.map_cons, List.map_nil, byteV, e1] at this ⊢
  exact this
/-- One message more in the list of what an end has sent. -/
theorem OI.start : OI 0 (fun j => newE 1) (fun _ => []) [] [] ∨ True := .inr trivial

set_option maxRecDepth 100000 in
set_option maxHeartbeats 8000000 in
theorem channelOrder_walk (window : Int) (a : Option Addr) (cap : Nat) (xs : List Int) (w : World) (h0 : -9223372036854775808 ≤ window ∧ window ≤ 9223372036854775807) (hx : SliceAt w a cap (xs.map intV)) (hb : ∀ n ∈ xs, -9223372036854775808 ≤ n ∧ n ≤ 9223372036854775807) :
    Calls Try.prog 4 #[.int .i64 window, .slice a xs.length cap] w fun e w' => e = .returned (.bool true) ∧ Below w.heap.size w w' := by
  have hxl := hx.len
  simp only [List.length_map] at hxl
  have HX := Lib.hid hx
  have HB := Lib.hid hb
  clear hx hb
  have qn := fun (wx : World) (ad : Addr) => Lib.run_eql_slice_nil (P := Try.prog) wx 23 33 (some ad) 2 2 0 0 Try.underlying23
  go_enter Try.func4, Try.ntmps4
  go_wp2_with fail
  refine (ends_any window w h0.1 h0.2).mono ?_
  rintro e w1 ⟨eb, b1, b2, o1, rfl, hT1, hE1⟩
  obtain ⟨b, rfl, rfl⟩ : ∃ b : Nat → Nat, b1 = b 0 ∧ b2 = b 1 := ⟨pr b1 b2, rfl, rfl⟩
  have hs2 : Step (fun _ => False) w1 o1 (w1.alloc (.cells #[.slice none 0 0, .slice none 0 0] 42)) (newLab w1 o1 41) := Step.below ((Below.refl _ _).alloc (Nat.le_refl _) _) fun k hk => newLab_old _ _ _ hk
  obtain ⟨w2, hw2⟩ : ∃ w2, w2 = w1.alloc (.cells #[.slice none 0 0, .slice none 0 0] 42) := ⟨_, rfl⟩
  have hS2 : Blk w2 (newLab w1 o1 41) 41 w1.heap.size (L2 fun _ => .slice none 0 0) := ⟨_, by rw [hw2]; exact heap_alloc_new _ _, newLab_new _ _ _ (Nat.le_refl _)⟩
  have hs3 : Step (fun _ => False) w2 (newLab w1 o1 41) (w2.alloc (.cells #[.int .i64 0, .int .i64 0] 3)) (newLab w2 (newLab w1 o1 41) 40) := Step.below ((Below.refl _ _).alloc (Nat.le_refl _) _) fun k hk => newLab_old _ _ _ hk
  have hG3 : Blk (w2.alloc (.cells #[.int .i64 0, .int .i64 0] 3)) (newLab w2 (newLab w1 o1 41) 40) 40 w2.heap.size (L2 (natV fun _ => 0)) := ⟨_, heap_alloc_new _ _, newLab_new _ _ _ (Nat.le_refl _)⟩
  obtain ⟨E0, hE0⟩ : ∃ E0 : Nat → EndS, E0 = pr (newE (winN window)) (newE (winN (window.tdiv 16))) := ⟨_, rfl⟩
  have hOW : OW w (w2.alloc (.cells #[.int .i64 0, .int .i64 0] 3)) (newLab w2 (newLab w1 o1 41) 40) b E0 eb w1.heap.size w2.heap.size (fun _ => []) (fun _ => 0) (.slice none 0 0) (.slice none 0 0) [] [] := by
    rw [hw2] at *
    rw [hE0]
    refine ⟨((hT1.step hs2 (fun _ _ h => h)).step hs3 (fun _ _ h => h)).congb fun k hk => ?_, (hE1.step hs2 (fun h => h)).step hs3 (fun h => h), ⟨_, hS2.step hs3 (fun h => h), fun k hk => MRow.nil _ _ _⟩, hG3, ⟨[], RowL.nil _ _ _ _ _, PktsAt.nil _ _ _⟩, RowL.nil _ _ _ _ _⟩
    have hk : k = 0 ∨ k = 1 := by omega
    rcases hk with rfl | rfl <;> rfl
  have hOI : OI 0 E0 (fun _ => []) [] [] := by
    rw [hE0]
    have hE : ∀ k, k < 2 → ∃ W, 1 ≤ W ∧ W ≤ 16 ∧ pr (newE (winN window)) (newE (winN (window.tdiv 16))) k = newE W := by
      intro k hk
      have hk : k = 0 ∨ k = 1 := by omega
      rcases hk with rfl | rfl
      · exact ⟨_, winN_lo _, winN_hi _, rfl⟩
      · exact ⟨_, winN_lo _, winN_hi _, rfl⟩
    refine ⟨fun k hk => ?_, fun k hk => ?_, fun k hk => by simp, rfl, by simp, fun j t h => by simp at h, fun j q t h => by simp at h⟩
    · obtain ⟨W, h1, h2, h3⟩ := hE k hk
      obtain ⟨W', h1', h2', h3'⟩ := hE (1 - k) (by omega)
      rw [h3, h3']
      exact Good.new W
    · obtain ⟨W, h1, h2, h3⟩ := hE k hk
      rw [h3]
      exact (Fit.new h1 h2).mono (by omega)
  have HOW := Lib.hid hOW
  have HOI := Lib.hid hOI
  have HW2 := Lib.hid hw2
  obtain ⟨o3, ho3⟩ : ∃ o3, o3 = newLab w2 (newLab w1 o1 41) 40 := ⟨_, rfl⟩
  rw [← ho3] at HOW
  have HG0 : Hid ((fun _ => 0 : Nat → Nat) = fun k => (E0 k).got) := by
    funext k; rw [hE0]; unfold pr; split <;> rfl
  clear hs2 hs3 hS2 hG3 hT1 hE1 hOW hOI hw2 ho3 hE0
  go_wp2_with fail
  rw [← HW2.out]
  obtain ⟨gb, hgb⟩ : ∃ gb, gb = w1.heap.size + 1 := ⟨_, rfl⟩
  rw [show w2.heap.size = w1.heap.size + 1 from by rw [HW2.out]; simp] at HOW
  rw [← hgb] at HOW ⊢
  obtain ⟨sb, hsb⟩ : ∃ sb, sb = w1.heap.size := ⟨_, rfl⟩
  rw [← hsb] at HOW ⊢
  rw [HG0.out] at HOW
  clear hsb hgb
  go_loopw [8, 9, 10] (fun lv tv iv wr => ∃ (i : Nat) (o : Nat → Nat) (E : Nat → EndS) (S : Nat → List (List UInt8)) (qs : List Pkt) (ts : List Nat), i ≤ 80 ∧ i ≤ xs.length ∧ iv = .int .i64 i ∧ Hid (OI i E S qs ts) ∧ Hid (OW w wr o b E eb sb gb S (fun k => (E k).got) lv tv qs ts)) (fun _ _ iv _ => 80 - (intOf iv).toNat)
  case atStart => exact ⟨0, o3, E0, _, _, _, by omega, by omega, rfl, HOI.out, HOW.out⟩
  case round =>
    clear HOW HOI HW2 HG0
    obtain ⟨i, o, E, S, qs, ts, hi8, hix, rfl, HI, HM⟩ := hrel
    by_cases hin : i < xs.length
    · by_cases hi80 : i < 80
      · have d1 : decide ((i : Int) < xs.length) = true := decide_eq_true (by omega)
        have d2 : decide ((i : Int) < 80) = true := decide_eq_true (by omega)
        obtain ⟨xb, off, rfl⟩ := HX.out.addr (by simp; omega)
        have c1 : wr.cell? ⟨xb, off + i, none⟩ = some (.int .i64 xs[i]) := (HX.out.below HM.out.two.below).intV hin
        have hv := HB.out xs[i] (List.getElem_mem _)
        obtain ⟨v, hvx⟩ : ∃ v, xs[i] = v := ⟨_, rfl⟩
        rw [hvx] at c1 hv
        clear hvx
        have t8 := tdiv_in v 8 (by omega) hv.1 hv.2
        have a1 := aroundI_lo (v.tdiv 8) 1073741824 (by omega)
        have a2 := aroundI_hi (v.tdiv 8) 1073741824 (by omega)
        have a3 := aroundI_lo v 8 (by omega)
        have a4 := aroundI_hi v 8 (by omega)
        obtain ⟨N, hN⟩ : ∃ N : Nat, aroundI (v.tdiv 8) 1073741824 = N := ⟨(aroundI (v.tdiv 8) 1073741824).toNat, by omega⟩
        obtain ⟨s, hs⟩ : ∃ s : Nat, aroundI v 8 = s := ⟨(aroundI v 8).toNat, by omega⟩
        rw [hN] at a1 a2
        rw [hs] at a3 a4
        obtain ⟨k, hkN⟩ : ∃ k : Nat, (N : Int) % 2 = k := ⟨N % 2, by omega⟩
        have hk2 : k < 2 := by omega
        obtain ⟨t, hti⟩ : ∃ t : Nat, 1 - (k : Int) = t := ⟨1 - k, by omega⟩
        have ht2 : t < 2 := by omega
        have htk : t = 1 - k := by omega
        have HNN := Lib.hid hN
        have HSS := Lib.hid hs
        have HTK := Lib.hid htk
        clear hN hs htk a1 a3
        go_wp2_with fail
        refine (around_any (v.tdiv 8) 1073741824 _ (by omega) (by omega) t8.1 t8.2).mono ?_
        rw [HNN.out]
        rintro e w3 ⟨rfl, rfl⟩
        go_wp2_with fail
        refine (around_any v 8 _ (by omega) (by omega) hv.1 hv.2).mono ?_
        rw [HSS.out]
        rintro e w3 ⟨rfl, rfl⟩
        go_upto_block 2 with fail
        go_cut [8, 9] (fun s8 s9 wx => ∃ (o : Nat → Nat) (E : Nat → EndS) (S : Nat → List (List UInt8)) (qs : List Pkt) (ts : List Nat), Hid (OI (i + 1) E S qs ts) ∧ Hid (OW w wx o b E eb sb gb S (fun k => (E k).got) s8 s9 qs ts))
        case first =>
          have c2 : wr.cell? ⟨eb, k, none⟩ = some (.pointer (some ⟨b k, 0, none⟩)) := HM.out.es.cell (L2_get _ hk2)
          have hcase : (s = 0 ∨ s = 1) ∨ (s = 2 ∨ s = 3) ∨ 4 ≤ s := by omega
          rcases hcase with hcase | hcase | hcase
          · as_aux_lemma =>
            have hsend := HI.out.send (by omega) hk2 (m := [UInt8.ofNat i, 3]) (by simp)
            have HSE := Lib.hid hsend
            have hsa : Step (fun _ => False) wr o (wr.alloc (.cells #[.int .u8 (i : Int), .int .u8 3] 5)) (newLab wr o 0) := Step.below ((Below.refl _ _).alloc (Nat.le_refl _) _) fun k hk => newLab_old _ _ _ hk
            have HMa := Lib.hid (HM.out.step hsa (fun _ _ h => h))
            have hda : Dat (wr.alloc (.cells #[.int .u8 (i : Int), .int .u8 3] 5)) (newLab wr o 0) 0 (some ⟨wr.heap.size, 0, none⟩) 2 ([UInt8.ofNat i, 3].map byteV) := ⟨lit_two wr i (by omega) _, fun _ b off h => by simp at h; obtain ⟨rfl, rfl⟩ := h; exact newLab_new _ _ _ (Nat.le_refl _)⟩
            have HDA := Lib.hid hda
            have hF := HI.out.fit k hk2
            have HF := Lib.hid hF
            clear hsend hsa hda hF
            have hc2 : ((s : Int) == 0) = true ∨ (((s : Int) == 0) = false ∧ ((s : Int) == 1) = true) := by
              rcases hcase with h | h
              · exact .inl (by simp; omega)
              · exact .inr ⟨by simp; omega, by simp; omega⟩
            clear hcase
            rcases hc2 with hc2 | ⟨hc2, hc3⟩
            all_goals
              have c2a : (wr.alloc (.cells #[.int .u8 (i : Int), .int .u8 3] 5)).cell? ⟨eb, k, none⟩ = some (.pointer (some ⟨b k, 0, none⟩)) := HMa.out.es.cell (L2_get _ hk2)
              clear c2
              go_wp2_with fail
              refine (send_t HMa.out.two hk2 HF.out HDA.out.slice).mono ?_
              rw [HSE.out.1]
              rintro e w4 ⟨rfl, o4, hs4, hT4⟩
              have HM4 := Lib.hid (HMa.out.ends hs4 (by omega) (fun l h1 h2 => by omega) hT4)
              have HD4 := Lib.hid (HDA.out.step hs4 (by omega))
              clear hs4 hT4 c2a HMa HDA
              obtain ⟨sv, hsb, hrows⟩ := HM4.out.sent
              obtain ⟨vs, hr1, hr2⟩ := hrows k hk2
              obtain ⟨ra, rc, hvk⟩ := hr1.form
              have c4 : w4.cell? ⟨sb, k, none⟩ = some (.slice ra vs.length rc) := by rw [← hvk]; exact hsb.cell (L2_get _ hk2)
              have hvl : vs.length ≤ 80 := by rw [hr2.1]; have := HI.out.sz k hk2; omega
              rw [hvk] at hr1
              have HR1 := Lib.hid hr1
              have HR2 := Lib.hid hr2
              have HSB := Lib.hid hsb
              have HVK := Lib.hid hvk
              have c4a : ∀ ob, (w4.alloc ob).cell? ⟨sb, k, none⟩ = some (.slice ra vs.length rc) := fun ob => by rw [← hvk]; exact (hsb.step ((Step.refl (fun _ => False) w4 o4).alloc ob) (fun h => h)).cell (L2_get _ hk2)
              clear hsb hrows hvk hr1 hr2
              go_wp2_with (at_builtin; refine wpList_append_row rfl (.tmp 131) (.tmp 133) 42 rfl elemM rfl HR1.out ((Below.refl _ w4).alloc (Nat.le_refl _) _) (some ⟨w4.heap.size, 0, none⟩) 1 1 [.slice (some ⟨wr.heap.size, 0, none⟩) 2 2] rfl (row_new (cs := [.slice (some ⟨wr.heap.size, 0, none⟩) 2 2]) (by simp) (by omega)) (by simp [Value.oneCell']) (by omega) (by omega) ?_)
              intro v5 w5 hrow5 hs5
              obtain ⟨a5, k5, rfl⟩ := hrow5.form
              have hsb5 := HSB.out.step hs5 (by omega)
              have c5 : w5.cell? ⟨sb, k, none⟩ = some (.slice ra vs.length rc) := by rw [← HVK.out]; exact hsb5.cell (L2_get _ hk2)
              have f5 := hsb5.frozen k
              have hm5 : MRow w5 (newLab w4 o4 (42 + k)) (42 + k) (.slice a5 (vs.length + 1) k5) (S k ++ [[UInt8.ofNat i, 3]]) := ⟨_, by simpa using hrow5, (HR2.out.step hs5 (by omega)).snoc (Msg.step ⟨_, _, rfl, HD4.out⟩ hs5 (by omega))⟩
              have HM6 := Lib.hid (HM4.out.sentPut hk2 hs5 hm5)
              clear hsb5 hm5 hrow5 hs5 c4 c4a
              go_wp2_with fail
              go_meet
              refine ⟨newLab w4 o4 (42 + k), _, _, _, _, HSE.out.2, ?_⟩
              have e : (fun j => (upd E k (sendE (E k) [UInt8.ofNat i, 3]) j).got) = fun j => (E j).got := by
                funext j
                by_cases hj : j = k
                · subst hj; rw [upd_at]; unfold sendE; split <;> rfl
                · rw [upd_not _ _ hj]
              rw [e]
              exact HM6.out
          · as_aux_lemma =>
            have hF := HI.out.fit k hk2
            have HF := Lib.hid hF
            clear hF
            have hc2 : (((s : Int) == 0) = false ∧ ((s : Int) == 1) = false) ∧ (((s : Int) == 2) = true ∨ (((s : Int) == 2) = false ∧ ((s : Int) == 3) = true)) := by
              rcases hcase with h | h
              · exact ⟨⟨by simp; omega, by simp; omega⟩, .inl (by simp; omega)⟩
              · exact ⟨⟨by simp; omega, by simp; omega⟩, .inr ⟨by simp; omega, by simp; omega⟩⟩
            clear hcase
            obtain ⟨⟨hc0, hc1⟩, hc2⟩ := hc2
            rcases hc2 with hc2 | ⟨hc2, hc3⟩
            all_goals
              go_wp2_with fail
              refine (out_t HM.out.two 31 (fun _ => 0) hk2 HF.out (by omega) (by omega) (fun _ => .inl rfl) (fun _ => by omega)).mono ?_
              rintro e w4 ⟨vp, rfl, o4, hs4, hT4, hP⟩
              have HM4 := Lib.hid (HM.out.ends hs4 (by omega) (fun l h1 h2 => by omega) hT4)
              obtain ⟨pa, pc, rfl, hp1, hp2, -⟩ := hP.cells
              have hpl := outP_len (HI.out.fit k hk2).w2
              obtain ⟨P, hPP⟩ : ∃ P, outP (E k) = P := ⟨_, rfl⟩
              rw [hPP] at hP hp1 hpl ⊢
              obtain ⟨L, hL⟩ : ∃ L, P.length = L := ⟨_, rfl⟩
              rw [hL] at hP hp1 hpl ⊢
              have hqm := HI.out.many
              have htm := HI.out.len
              have HTM := Lib.hid htm
              have HL := Lib.hid hL
              have HPP := Lib.hid hPP
              have HP := Lib.hid hP
              clear hs4 hT4 hP hL hPP htm
              go_wp2_with fail
              go_loopw [8, 9, 15] (fun lv tv jv wr => ∃ (j : Nat) (o : Nat → Nat), j ≤ L ∧ jv = .int .i64 j ∧ Hid (OW w wr o b (upd E k (outE (E k))) eb sb gb S (fun k => (E k).got) lv tv (qs ++ P.take j) (ts ++ List.replicate j t)) ∧ Hid (PRow wr o (fun _ => 0) 31 (.slice pa L pc) P)) (fun _ _ jv _ => L - (intOf jv).toNat)
              case atStart => exact ⟨0, o4, by omega, rfl, by have h := HM4.out; unfold Hid; simpa using h, HP.out⟩
              case round =>
                clear HM4 HP
                obtain ⟨j, o, hj, rfl, HM, HP⟩ := hrel
                by_cases hjL : j < L
                · have hq : P[j]? = some (P[j]'(by rw [HL.out]; exact hjL)) := List.getElem?_eq_getElem _
                  obtain ⟨q, hqq⟩ : ∃ q, P[j]'(by rw [HL.out]; exact hjL) = q := ⟨_, rfl⟩
                  rw [hqq] at hq
                  obtain ⟨pg, ma, mc, rfl, -, -, e0, e1, e2, hd⟩ := HP.out.at hq
                  obtain ⟨ps, hr1, hr2⟩ := HM.out.link
                  obtain ⟨la, lc, rfl⟩ := hr1.form
                  have htd := HM.out.dest
                  obtain ⟨ta, tc, rfl⟩ := htd.form
                  have hl1 : (qs ++ P.take j).length = qs.length + j := by simp [HL.out]; omega
                  have hl2 : (ts ++ List.replicate j t).length = qs.length + j := by simp [HTM.out]
                  rw [hl1] at hr1 ⊢
                  rw [hl2] at htd ⊢
                  have HQ := Lib.hid hq
                  have HR1 := Lib.hid hr1
                  have HR2 := Lib.hid hr2
                  have HTD := Lib.hid htd
                  have HD := Lib.hid hd
                  have HL1 := Lib.hid hl1
                  have HL2 := Lib.hid hl2
                  clear hq hqq hr1 hr2 htd hd hl1 hl2
                  go_wp2_with (at_builtin; refine wpList_append_row rfl (.tmp 150) (.tmp 155) 35 rfl elemP rfl HR1.out ((Below.refl _ wr).alloc (Nat.le_refl _) _) (some ⟨wr.heap.size, 0, none⟩) 1 1 [.int .i64 q.seq, .int .i64 q.ack, .slice ma q.b.length mc] rfl (row_new (cs := [.int .i64 q.seq, .int .i64 q.ack, .slice ma q.b.length mc]) (by simp) (by omega)) (by simp [Value.oneCell']) (by omega) (by omega) ?_)
                  intro v5 w5 hrow5 hs5
                  obtain ⟨a5, k5, rfl⟩ := hrow5.form
                  have htk : P.take (j + 1) = P.take j ++ [q] := by
                    rw [List.take_succ_eq_append_getElem (by rw [HL.out]; exact hjL)]
                    have := HQ.out
                    rw [List.getElem?_eq_getElem (by rw [HL.out]; exact hjL)] at this
                    rw [Option.some.inj this]
                  have hp5 : PRow w5 (newLab wr o 45) (fun _ => 0) 45 (.slice a5 (qs.length + j + 1) k5) (qs ++ P.take (j + 1)) := by
                    rw [htk, ← List.append_assoc]
                    refine ⟨ps ++ [(q.seq, q.ack, .slice ma q.b.length mc)], ?_, (HR2.out.step hs5 (fun _ _ => by omega)).snoc (Msg.step ⟨_, _, rfl, HD.out⟩ hs5 (by omega))⟩
                    rw [pcells_snoc, List.length_append, HL1.out]
                    exact hrow5
                  have HM5 := Lib.hid (HM.out.setLink hs5 hp5)
                  have HP5 := Lib.hid (HP.out.step hs5 (by omega) (fun _ _ => by omega))
                  have htd5 := HTD.out.step hs5 (by omega)
                  have HTD5 := Lib.hid htd5
                  have HTK5 := Lib.hid htk
                  clear htk hp5 hrow5 hs5 htd5 e0 e1 e2
                  go_wp2_with (at_builtin; refine wpList_append_row rfl (.tmp 157) (.tmp 160) 22 rfl elemI rfl HTD5.out ((Below.refl _ w5).alloc (Nat.le_refl _) _) (some ⟨w5.heap.size, 0, none⟩) 1 1 [.int .i64 (t : Int)] rfl (row_new (cs := [.int .i64 (t : Int)]) (by simp) (by omega)) (by simp [Value.oneCell']) (by omega) (by omega) ?_)
                  intro v6 w6 hrow6 hs6
                  obtain ⟨a6, k6, rfl⟩ := hrow6.form
                  have HM6 : Hid (OW w w6 (newLab w5 (newLab wr o 45) 46) b (upd E k (outE (E k))) eb sb gb S (fun k => (E k).got) (.slice a5 (qs.length + j + 1) k5) (.slice a6 (qs.length + j + 1) k6) (qs ++ P.take (j + 1)) (ts ++ List.replicate (j + 1) t)) := by
                    refine HM5.out.setDest hs6 ?_
                    rw [List.replicate_succ', ← List.append_assoc, List.length_append, HL2.out]
                    simp only [List.map_append, List.map_replicate, List.map_cons, List.map_nil, List.append_assoc, List.length_cons, List.length_nil, Nat.zero_add]
                    exact hrow6
                  have HP6 := Lib.hid (HP5.out.step hs6 (by omega) (fun _ _ => by omega))
                  clear hrow6 hs6
                  go_wp2_with fail
                  go_roundw
                  case rel => first | exact ⟨j + 1, _, by omega, by go_num, HM6.out, HP6.out⟩ | ((repeat apply Exists.intro); refine ⟨?_, rfl⟩; exact ⟨j + 1, _, by omega, by go_num, HM6.out, HP6.out⟩)
                  case measure => simp [intOf]; omega
                · obtain rfl : j = L := by omega
                  have hOI := HI.out.out hk2 j
                  rw [HPP.out, show (P.take j).length = j from by rw [List.length_take, HL.out]; omega, ← HTK.out] at hOI
                  have HOI := Lib.hid hOI
                  clear hOI
                  go_wp2_with fail
                  go_meet
                  refine ⟨o, _, _, _, _, HOI.out, ?_⟩
                  have e : (fun x => (upd E k (outE (E k)) x).got) = fun x => (E x).got := by
                    funext x
                    by_cases hx : x = k
                    · subst hx; rw [upd_at]; rfl
                    · rw [upd_not _ _ hx]
                  rw [e]
                  exact HM.out
          · as_aux_lemma =>
            have hc0 : ((s : Int) == 0) = false := by simp; omega
            have hc1 : ((s : Int) == 1) = false := by simp; omega
            have hc2 : ((s : Int) == 2) = false := by simp; omega
            have hc3 : ((s : Int) == 3) = false := by simp; omega
            clear hcase
            by_cases hq0 : qs.length = 0
            · have hz : ((qs.length : Int) == 0) = true := by simpa using hq0
              obtain ⟨la, lc, hlv, -⟩ := HM.out.link.cells
              have HM1 := Lib.hid HM.out
              have HI1 := Lib.hid HI.out.mono
              subst hlv
              clear hq0
              go_wp2_with fail
              go_roundw
              case rel => first | exact ⟨i + 1, o, E, S, qs, ts, by omega, by omega, by go_num, HI1.out, HM1.out⟩ | ((repeat apply Exists.intro); refine ⟨?_, rfl⟩; exact ⟨i + 1, o, E, S, qs, ts, by omega, by omega, by go_num, HI1.out, HM1.out⟩)
              case measure => simp [intOf]; omega
            · have hz : ((qs.length : Int) == 0) = false := by simpa using hq0
              obtain ⟨la, lc, hlv, hlc, hlm, -⟩ := HM.out.link.cells
              obtain ⟨ta, tc, htv, htc, htm, htx, htg⟩ := HM.out.dest.cells
              subst hlv
              subst htv
              obtain ⟨L, hL⟩ : ∃ L, qs.length = L := ⟨_, rfl⟩
              have hlen := HI.out.len
              have hmany := HI.out.many
              rw [hlen] at htg htc
              rw [hL] at hz hq0 hlc htc htg hmany
              have hL0 : (0 : Int) < L := by omega
              obtain ⟨J, hJ⟩ : ∃ J : Nat, (N : Int) / 2 % (L : Int) = J := ⟨N / 2 % L, by simp⟩
              have hJL : J < L := by have := Int.emod_lt_of_pos ((N : Int) / 2) hL0; omega
              obtain ⟨q, hq⟩ : ∃ q, qs[J]? = some q := ⟨qs[J]'(by rw [hL]; exact hJL), List.getElem?_eq_getElem _⟩
              obtain ⟨d, hd⟩ : ∃ d, ts[J]? = some d := ⟨ts[J]'(by rw [hlen, hL]; exact hJL), List.getElem?_eq_getElem _⟩
              have hd2 := HI.out.to2 J d hd
              obtain ⟨lg, ma, mc, rfl, -, -, e0, e1, e2, hdat⟩ := HM.out.link.at hq
              obtain ⟨tg, rfl, -, -, htc2, -⟩ := htg (by omega)
              have e3 : wr.cell? ⟨tg, J, none⟩ = some (.int .i64 (d : Int)) := htc2 J _ (by rw [List.getElem?_map, hd]; rfl)
              have e4 : wr.cell? ⟨eb, d, none⟩ = some (.pointer (some ⟨b d, 0, none⟩)) := HM.out.es.cell (L2_get _ hd2)
              have hlL : ts.length = L := by rw [hlen, hL]
              have HLL := Lib.hid hlL
              have HL := Lib.hid hL
              obtain ⟨d', hdi⟩ : ∃ d' : Nat, 1 - (d : Int) = d' := ⟨1 - d, by omega⟩
              have hd'2 : d' < 2 := by omega
              have hdd : d' = 1 - d := by omega
              have hin3 := HI.out.inn hq hd
              rw [← hdd] at hin3
              have HIN := Lib.hid hin3
              have HFD := Lib.hid (HI.out.fit d hd2)
              have HSZ := Lib.hid (HI.out.sz d' hd'2)
              rw [hL, hlL]
              have HDA := Lib.hid hdat
              have hdne : d' ≠ d := by omega
              have HDN := Lib.hid hdne
              clear hin3 hq hd hdat hdd hdne hlen htc2 hlL hL c2
              go_upto_region 17 with fail
              have wr2 : (J : Int) < (L : Int) := by omega
              have wr3 : (0 : Int) ≤ (J : Int) := by omega
              have wr4 : (d : Int) < 2 := by omega
              have wr5 : (0 : Int) ≤ (d : Int) := by omega
              go_still_tail 8, (by kernel_rfl)
              change wpList _ _ _ _ _ wr.drew
              have hsd : Step (fun _ => False) wr o wr.drew o := (Step.refl _ _ _).drew
              obtain ⟨wd, hwd⟩ : ∃ wd, wd = wr.drew := ⟨_, rfl⟩
              rw [← hwd] at hsd ⊢
              clear hwd wr2 wr3 wr4 wr5 e0 e1 e2 e3 e4 hz
              have HMd := Lib.hid (HM.out.step hsd (fun _ _ h => h))
              have HDd := Lib.hid (HDA.out.step hsd (fun h => h))
              clear hsd HDA
              go_wp2_with fail
              refine (in_t HMd.out.two q 0 32 hd2 HFD.out (by omega) HDd.out (.inl rfl) (by omega) (by omega)).mono ?_
              rintro e w4 ⟨v, rfl, o4, hs4, hT4, hxr⟩
              have HM4 := Lib.hid (HMd.out.ends hs4 (by omega) (fun l h1 h2 => by omega) hT4)
              obtain ⟨X, hX⟩ : ∃ X, inO (E d) q = X := ⟨_, rfl⟩
              rw [hX] at hxr HIN
              obtain ⟨xa, xc, rfl, hx1, hx2, -⟩ := hxr.cells
              obtain ⟨xl, hxl⟩ : ∃ xl, X.length = xl := ⟨_, rfl⟩
              rw [hxl] at hx1 hxr ⊢
              have hxcap : (E d).got + xl ≤ 80 := by
                have h1 := HIN.out.1.good d hd2
                have h2 := h1.got
                rw [upd_at, HIN.out.2.1, hxl, show 1 - d = d' by omega] at h2
                have := HSZ.out
                omega
              have HX1 := Lib.hid hxr
              have HXL := Lib.hid hxl
              have HXX := Lib.hid hX
              clear hxr hxl hs4 hT4 hX HMd HDd
              go_wp2_with fail
              go_loopw [19] (fun rv wr => ∃ (r : Nat) (o : Nat → Nat), r ≤ xl ∧ rv = .int .i64 r ∧ Hid (OW w wr o b (upd E d (inE (E d) q)) eb sb gb S (upd (fun j => (E j).got) d ((E d).got + r)) (.slice (some ⟨lg, 0, none⟩) L lc) (.slice (some ⟨tg, 0, none⟩) L tc) qs ts) ∧ Hid (MRow wr o 32 (.slice xa xl xc) X)) (fun rv _ => xl - (intOf rv).toNat)
              case atStart =>
                refine ⟨0, o4, by omega, rfl, ?_, HX1.out⟩
                have h := HM4.out
                unfold Hid
                rw [HL.out, HLL.out] at h
                rw [show upd (fun j => (E j).got) d ((E d).got + 0) = fun j => (E j).got from upd_self (fun j => (E j).got) d]
                exact h
              case round =>
                clear HM4 HX1
                obtain ⟨r, o, hr, rfl, HM, HXR⟩ := hrel
                by_cases hrx : r < xl
                · have hxm : X[r]? = some (X[r]'(by rw [HXL.out]; exact hrx)) := List.getElem?_eq_getElem _
                  obtain ⟨m, hm⟩ : ∃ m, X[r]'(by rw [HXL.out]; exact hrx) = m := ⟨_, rfl⟩
                  rw [hm] at hxm
                  have hsm := HIN.out.2.2 r m hxm
                  obtain ⟨G, hG⟩ : ∃ G, (E d).got + r = G := ⟨_, rfl⟩
                  rw [hG] at hsm
                  obtain ⟨sv, hsb, hrows⟩ := HM.out.sent
                  have hrow := hrows d' hd'2
                  obtain ⟨sa, sc, hsv, hs1, hs2, -⟩ := hrow.cells
                  rw [hsv] at hrow
                  have hsb' := hsb.cell (L2_get sv hd'2)
                  rw [hsv] at hsb'
                  obtain ⟨sl, hsl⟩ : ∃ sl, (S d').length = sl := ⟨_, rfl⟩
                  have hGl := (List.getElem?_eq_some_iff.1 hsm).1
                  rw [hsl] at hsb' hrow hGl hs1
                  have hslz : sl ≤ 80 := by have := HSZ.out; omega
                  obtain ⟨sg, ma2, mc2, rfl, -, -, q0, hd2'⟩ := hrow.at hsm
                  obtain ⟨xg, ma1, mc1, rfl, -, -, q1, hd1'⟩ := HXR.out.at hxm
                  have q2 : wr.cell? ⟨gb, d, none⟩ = some (.int .i64 (G : Int)) := by
                    have := HM.out.got.cell (L2_get (natV (upd (fun j => (E j).got) d ((E d).got + r))) hd2)
                    rw [show natV (upd (fun j => (E j).got) d ((E d).got + r)) d = .int .i64 (((E d).got + r : Nat) : Int) from by unfold natV; rw [upd_at], hG] at this
                    exact this
                  have q3 := HM.out.got.frozen d
                  have HD1 := Lib.hid hd1'.slice
                  have HD2 := Lib.hid hd2'.slice
                  have HG := Lib.hid hG
                  clear hxm hm hsm hrow hrows hsb hsv hsl hd1' hd2' hG
                  go_upto_region 21 with fail
                  have wr0 : IntKind.i64.wrap (d' : Int) = d' := IntWalk.i64_in _ (by omega)
                  have wr1 : IntKind.i64.wrap (1 - (d : Int)) = d' := by rw [IntWalk.i64_in _ (by omega)]; omega
                  have wr2 : (d : Int) < 2 := by omega
                  have wr3 : (0 : Int) ≤ (d : Int) := by omega
                  have wr4 : (d' : Int) < 2 := by omega
                  have wr5 : (0 : Int) ≤ (d' : Int) := by omega
                  have wr6 : (r : Int) < (xl : Int) := by omega
                  have wr7 : (0 : Int) ≤ (r : Int) := by omega
                  have wr8 : (G : Int) < (sl : Int) := by omega
                  have wr9 : (0 : Int) ≤ (G : Int) := by omega
                  have wr10 : decide (sl ≤ G) = false := decide_eq_false (by omega)
                  go_still_tail 27, (by kernel_rfl)
                  change wpList _ _ _ _ _ wr.drew
                  have hsd : Step (fun _ => False) wr o wr.drew o := (Step.refl _ _ _).drew
                  obtain ⟨wd, hwd⟩ : ∃ wd, wd = wr.drew := ⟨_, rfl⟩
                  rw [← hwd] at hsd ⊢
                  clear hwd wr0 wr1 wr2 wr3 wr4 wr5 wr6 wr7 wr8 wr9 wr10 q0 q1 q2 q3
                  have HMd := Lib.hid (HM.out.step hsd (fun _ _ h => h))
                  have HXd := Lib.hid (HXR.out.step hsd (fun h => h) (fun h => h))
                  have HD1d := Lib.hid (HD1.out.mono fun p v h => Below.kept (hsd.toBelow (Nat.le_refl _) fun _ _ h => h) (Nat.le_refl _) h)
                  have HD2d := Lib.hid (HD2.out.mono fun p v h => Below.kept (hsd.toBelow (Nat.le_refl _) fun _ _ h => h) (Nat.le_refl _) h)
                  clear hsd HM HXR HD1 HD2
                  go_wp2_with fail
                  refine (sameBytes_any ma1 ma2 mc1 mc2 m m wd HD1d.out HD2d.out).mono ?_
                  rw [show decide (m = m) = true from by simp]
                  rintro e w5 ⟨rfl, hb5⟩
                  have hs5 : Step (fun _ => False) wd o w5 o := Step.same hb5
                  have HM5 := Lib.hid (HMd.out.step hs5 (fun _ _ h => h))
                  have HX5 := Lib.hid (HXd.out.step hs5 (fun h => h) (fun h => h))
                  clear hs5 hb5 HMd HXd HD1d HD2d
                  have q2 : w5.cell? ⟨gb, d, none⟩ = some (.int .i64 (G : Int)) := by
                    have := HM5.out.got.cell (L2_get (natV (upd (fun j => (E j).got) d ((E d).got + r))) hd2)
                    rw [show natV (upd (fun j => (E j).got) d ((E d).got + r)) d = .int .i64 (((E d).got + r : Nat) : Int) from by unfold natV; rw [upd_at], HG.out] at this
                    exact this
                  have q3 := HM5.out.got.frozen d
                  have HM6 := HM5.out.gotPut hd2 (G + 1)
                  rw [upd_upd, show ((G + 1 : Nat) : Int) = (G : Int) + 1 from by omega, show G + 1 = (E d).got + (r + 1) from by have := HG.out; omega] at HM6
                  have hs6 : Step (· = 40) w5 o (w5.setCell ⟨gb, d, none⟩ (.int .i64 ((G : Int) + 1))) o := (Step.refl _ _ _).set (p := ⟨gb, d, none⟩) HM5.out.got.lab _
                  have HX6 := Lib.hid (HX5.out.step hs6 (by omega) (by omega))
                  have HM6 := Lib.hid HM6
                  clear hs6 HM5 HX5
                  go_wp2_with fail
                  go_roundw
                  case rel => first | exact ⟨r + 1, o, by omega, by go_num, HM6.out, HX6.out⟩ | ((repeat apply Exists.intro); refine ⟨?_, rfl⟩; exact ⟨r + 1, o, by omega, by go_num, HM6.out, HX6.out⟩)
                  case measure => simp [intOf]; omega
                · obtain rfl : r = xl := by omega
                  go_wp2_with fail
                  go_meet
                  refine ⟨o, _, _, _, _, HIN.out.1, ?_⟩
                  have e : (fun x => (upd E d (inE (E d) q) x).got) = upd (fun j => (E j).got) d ((E d).got + r) := by
                    funext x
                    by_cases hx : x = d
                    · subst hx; rw [upd_at, upd_at, HIN.out.2.1, HXL.out]
                    · rw [upd_not _ _ hx, upd_not _ _ hx]
                  unfold Hid
                  rw [e]
                  exact HM.out
        case rest => as_aux_lemma =>
          clear HI HM hkN hti HTK HSS HNN
          obtain ⟨o, E, S, qs, ts, HI, HM⟩ := hcut
          go_wp2_with fail
          go_loopw [20] (fun jv wr => ∃ (j : Nat) (o : Nat → Nat), j ≤ 2 ∧ jv = .int .i64 j ∧ Hid (OW w wr o b E eb sb gb S (fun k => (E k).got) u8 u9 qs ts)) (fun jv _ => 2 - (intOf jv).toNat)
          case atStart => exact ⟨0, o, by omega, rfl, HM.out⟩
          case round =>
            clear HM
            obtain ⟨j, o, hj, rfl, HM⟩ := hrel
            by_cases hj2 : j < 2
            · have d3 : decide ((j : Int) < 2) = true := decide_eq_true (by omega)
              obtain ⟨j', hji⟩ : ∃ j' : Nat, 1 - (j : Int) = j' := ⟨1 - j, by omega⟩
              have hj'2 : j' < 2 := by omega
              have hjj : j' = 1 - j := by omega
              obtain ⟨sv, hsb, hrows⟩ := HM.out.sent
              obtain ⟨sa, sc, hsv, hs1, hs2, -⟩ := (hrows j hj2).cells
              have q0 := hsb.cell (L2_get sv hj2)
              rw [hsv] at q0
              have hg := HI.out.good j hj2
              rw [← hjj] at hg
              have hgl := hg.len
              have hga := hg.acked
              have hgg := hg.go_le
              have hsz := HI.out.sz j hj2
              obtain ⟨sl, hsl⟩ : ∃ sl, (S j).length = sl := ⟨_, rfl⟩
              obtain ⟨wl, hwl⟩ : ∃ wl, (E j).waiting.length = wl := ⟨_, rfl⟩
              obtain ⟨gl, hgl'⟩ : ∃ gl, (E j').got = gl := ⟨_, rfl⟩
              rw [hsl] at q0 hs1 hgl hgg hsz
              rw [hwl] at hgl
              rw [hgl'] at hga hgg
              have q1 : wr.cell? ⟨gb, j', none⟩ = some (.int .i64 (gl : Int)) := by rw [← hgl']; exact HM.out.got.cell (L2_get (natV fun k => (E k).got) hj'2)
              have q2 : wr.cell? ⟨eb, j, none⟩ = some (.pointer (some ⟨b j, 0, none⟩)) := HM.out.es.cell (L2_get _ hj2)
              have hsd : Step (fun _ => False) wr o wr.drew o := (Step.refl _ _ _).drew
              have HMd := Lib.hid (HM.out.step hsd (fun _ _ h => h))
              have k0 : Hid (Calls Try.prog 23 #[.pointer (some ⟨b j, 0, none⟩)] wr.drew fun e w'' => e = .returned (.int .i64 (wl : Int)) ∧ w'' = wr.drew) :=
                (waiting_t HMd.out.two (k := j) hj2).mono fun e w' ⟨h1, h2⟩ => ⟨by rw [h1, hwl], h2.symm⟩
              have hw1 : wl ≤ sl := by omega
              have hw2 : sl ≤ wl + gl := by omega
              have hw3 : gl ≤ sl := by omega
              have hw4 : sl ≤ 81 := by omega
              clear hsd hsb hrows hsv hg hsl hwl hgl' hjj hgl hga hgg hsz
              go_upto_region 41 with fail
              have wr0 : IntKind.i64.wrap (j' : Int) = j' := IntWalk.i64_in _ (by omega)
              have wr1 : IntKind.i64.wrap (1 - (j : Int)) = j' := by rw [IntWalk.i64_in _ (by omega)]; omega
              have wr2 : (j : Int) < 2 := by omega
              have wr3 : (0 : Int) ≤ (j : Int) := by omega
              have wr4 : (j' : Int) < 2 := by omega
              have wr5 : (0 : Int) ≤ (j' : Int) := by omega
              have wr6 : IntKind.i64.wrap ((sl : Int) - (gl : Int)) = (sl : Int) - (gl : Int) := IntWalk.i64_in _ (by omega)
              have wr7 : decide (sl < wl) = false := decide_eq_false (by omega)
              have wr8 : decide ((wl : Int) < (sl : Int) - (gl : Int)) = false := decide_eq_false (by omega)
              refine wp_region_still_lit (by kernel_rfl) (by kernel_rfl) ?_
              repeat still_step
              still_call k0.out
              repeat still_step
              still_call k0.out
              repeat still_step
              refine wpStill_nil ?_
              change Exit.then _ _ _ _ wr.drew
              obtain ⟨wd, hwd⟩ : ∃ wd, wd = wr.drew := ⟨_, rfl⟩
              rw [← hwd] at HMd ⊢
              clear hwd wr0 wr1 wr2 wr3 wr4 wr5 wr6 k0 q0 q1 q2
              go_wp2_with fail
              go_roundw
              case rel => first | exact ⟨j + 1, o, by omega, by go_num, HMd.out⟩ | ((repeat apply Exists.intro); refine ⟨?_, rfl⟩; exact ⟨j + 1, o, by omega, by go_num, HMd.out⟩)
              case measure => simp [intOf]; omega
            · obtain rfl : j = 2 := by omega
              go_wp2_with fail
              go_roundw
              case rel => first | exact ⟨i + 1, o, E, S, qs, ts, by omega, by omega, by go_num, HI.out, HM.out⟩ | ((repeat apply Exists.intro); refine ⟨?_, rfl⟩; exact ⟨i + 1, o, E, S, qs, ts, by omega, by omega, by go_num, HI.out, HM.out⟩)
              case measure => simp [intOf]; omega
      · obtain rfl : i = 80 := by omega
        have d1 : decide ((80 : Int) < xs.length) = true := decide_eq_true (by omega)
        have hin' : (80 : Int) < xs.length := by omega
        go_wp2_with fail
        refine (lives_any wr).mono ?_
        rintro e w9 ⟨rfl, hb9⟩
        go_wp2_with fail
        go_ret
        exact ⟨rfl, HM.out.two.below.trans (hb9.mono HM.out.two.since.size)⟩
    · obtain rfl : i = xs.length := by omega
      go_wp2_with fail
      refine (lives_any wr).mono ?_
      rintro e w9 ⟨rfl, hb9⟩
      go_wp2_with fail
      go_ret
      exact ⟨rfl, HM.out.two.below.trans (hb9.mono HM.out.two.since.size)⟩
end Go.Proofs.Ytmonpnikdheokaa
