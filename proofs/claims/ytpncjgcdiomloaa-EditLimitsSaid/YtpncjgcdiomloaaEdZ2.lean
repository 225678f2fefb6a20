/-
  The contract of edit.both: what two lists keep, one after the other.
-/
import Derived.Test.YtpncjgcdiomloaaEdZ
import Derived.Test.YtpncjgcdiomloaaRngQ
import Derived.Sort.CutIn
namespace Go.Proofs.Ytpncjgcdiomloaa
open Go Go.Proofs
open Go.RowKit
set_option linter.unusedVariables false
set_option linter.unusedSimpArgs false

theorem parts_new {n : Nat} {es : List Ed} : ∀ {p q : Nat}, Snd n p es → (∀ e ∈ es, e.x.length ≤ 1000000) → ∀ P ∈ partsL n p q es, P.2.1 + P.2.2 ≤ q + (n - p) + es.length * 1000000 := by
  induction es with
  | nil =>
    intro p q h _ P hP
    simp only [partsL, List.mem_singleton] at hP
    subst hP
    simp
  | cons e es ih =>
    intro p q h hx P hP
    obtain ⟨h1, h2, h3, h4⟩ := h
    have hxe := hx e (by simp)
    simp only [partsL, List.mem_cons] at hP
    have hl : (e :: es).length * 1000000 = es.length * 1000000 + 1000000 := by simp only [List.length_cons]; omega
    rw [hl]
    rcases hP with rfl | hP
    · simp; omega
    · have := ih h4 (fun e he => hx e (List.mem_cons_of_mem _ he)) P hP
      omega
structure PrtB (P : Prt) : Prop where
  a : P.1 + P.2.2 ≤ 2000000000
  b : P.2.1 + P.2.2 ≤ 2000000000
theorem parts_bound {n : Nat} {es : List Ed} (h : Snd n 0 es) (hz : n ≤ 1000000000) (h64 : es.length ≤ 64) (hx : ∀ e ∈ es, e.x.length ≤ 1000000) : ∀ P ∈ partsL n 0 0 es, PrtB P := by
  intro P hP
  have h1 := parts_ge h P hP
  have h2 := parts_new h hx P hP
  exact ⟨by omega, by omega⟩
/-- What one part of the first list yields, B's first parts being done. -/
def rowP (P : Prt) (qs : List Prt) : List Prt := (qs.map (capP P)).filter fun R => decide (0 < R.2.2)
theorem bothL_snoc (pre B : List Prt) (P : Prt) : bothL (pre ++ [P]) B = bothL pre B ++ rowP P B := by simp [bothL, rowP]
theorem rowP_snoc (P Q : Prt) (qs : List Prt) : rowP P (qs ++ [Q]) = rowP P qs ++ if 0 < (capP P Q).2.2 then [capP P Q] else [] := by
  unfold rowP
  rw [List.map_append, List.filter_append]
  congr 1
  by_cases h : 0 < (capP P Q).2.2
  · simp [h]
  · simp [h]
theorem both_next {A B pre qs : List Prt} {P Q : Prt} (hA : pre ++ [P] <+: A) (hB : qs ++ [Q] <+: B) (hp : 0 < (capP P Q).2.2) : (bothL pre B ++ rowP P qs) ++ [capP P Q] <+: bothL A B := by
  obtain ⟨A', rfl⟩ := hA
  have e1 : ∀ L, bothL (pre ++ [P] ++ A') L = bothL pre L ++ rowP P L ++ bothL A' L := by intro L; simp [bothL, rowP]
  obtain ⟨B', rfl⟩ := hB
  have e2 : rowP P (qs ++ [Q] ++ B') = rowP P qs ++ [capP P Q] ++ rowP P B' := by
    rw [show qs ++ [Q] ++ B' = qs ++ [Q] ++ B' from rfl]
    have : rowP P (qs ++ [Q] ++ B') = rowP P (qs ++ [Q]) ++ rowP P B' := by unfold rowP; rw [List.map_append, List.filter_append]
    rw [this, rowP_snoc, if_pos hp]
  rw [e1, e2]
  exact ⟨rowP P B' ++ bothL A' (qs ++ [Q] ++ B'), by simp only [List.append_assoc]⟩

/-- The part that both keep, as numbers. -/
theorem cap_nums {P Q : Prt} (hP : PrtB P) (hQ : PrtB Q) : ∃ fr tt : Nat, max P.2.1 Q.1 = fr ∧ min (P.2.1 + P.2.2) (Q.1 + Q.2.2) = tt ∧ fr ≤ 2000000000 ∧ tt ≤ 2000000000 ∧
    (fr < tt → 0 < (capP P Q).2.2 ∧ ((P.1 : Int) + fr) - P.2.1 = (capP P Q).1 ∧ ((Q.2.1 : Int) + fr) - Q.1 = (capP P Q).2.1 ∧ (tt : Int) - fr = (capP P Q).2.2 ∧ PrtB (capP P Q)) ∧ (¬ fr < tt → ¬ 0 < (capP P Q).2.2) := by
  have h1 := hP.a
  have h2 := hP.b
  have h3 := hQ.a
  have h4 := hQ.b
  refine ⟨_, _, rfl, rfl, by omega, by omega, fun h => ?_, fun h => ?_⟩
  · unfold capP
    simp only
    refine ⟨by omega, by omega, by omega, by omega, ⟨by simp only; omega, by simp only; omega⟩⟩
  · unfold capP
    simp only
    omega

/-- What both's walk keeps in sight. -/
structure BothS (X : Nat → Prop) (Bl By B1 Ba Bm Bb l size middle : Nat) (a : Option Addr) (ca : Nat) (es : List Ed) (b : Option Addr) (cb : Nat) (fs : List Ed) (n0 : Nat) (W : World) : Prop where
  cl : ClB Bl W
  y : SafeB X Bl W By (.cells #[.func (.yield l) #[] #[]] 100 (0, 0))
  s1 : SafeB X Bl W B1 (.cells #[.int .i64 size] 3 (0, 0))
  sa : SafeB X Bl W Ba (.cells #[.slice a es.length ca] 22 (0, 0))
  sm : SafeB X Bl W Bm (.cells #[.int .i64 middle] 3 (0, 0))
  sb : SafeB X Bl W Bb (.cells #[.slice b fs.length cb] 22 (0, 0))
  ea : SEds X Bl W a ca es
  eb : SEds X Bl W b cb fs
  n : n0 ≤ W.heap.size
theorem BothS.kp {X : Nat → Prop} {Bl By B1 Ba Bm Bb l size middle : Nat} {a : Option Addr} {ca : Nat} {es : List Ed} {b : Option Addr} {cb : Nat} {fs : List Ed} {n0 : Nat} {W W' : World} (h : BothS X Bl By B1 Ba Bm Bb l size middle a ca es b cb fs n0 W) (hk : KpB X Bl W W') :
    BothS X Bl By B1 Ba Bm Bb l size middle a ca es b cb fs n0 W' :=
  ⟨hk.cl h.cl, hk.safe _ _ h.y, hk.safe _ _ h.s1, hk.safe _ _ h.sa, hk.safe _ _ h.sm, hk.safe _ _ h.sb, h.ea.kp hk, h.eb.kp hk, Nat.le_trans h.n hk.size⟩
section
attribute [local go_sem] Oper.semAt_some
set_option maxRecDepth 100000 in
set_option maxHeartbeats 4000000 in
theorem both_seq (n : Nat) (X : Nat → Prop) (Bl B1 Ba Bm Bb size middle : Nat) (a : Option Addr) (ca : Nat) (es : List Ed) (b : Option Addr) (cb : Nat) (fs : List Ed) (w : World) (hX : ∀ k, X k → k < w.heap.size) (hcl : ClB Bl w)
    (h1 : SafeB X Bl w B1 (.cells #[.int .i64 size] 3 (0, 0))) (ha : SafeB X Bl w Ba (.cells #[.slice a es.length ca] 22 (0, 0)))
    (hm : SafeB X Bl w Bm (.cells #[.int .i64 middle] 3 (0, 0))) (hb : SafeB X Bl w Bb (.cells #[.slice b fs.length cb] 22 (0, 0)))
    (hea : SEds X Bl w a ca es) (heb : SEds X Bl w b cb fs)
    (hsa : Snd size 0 es) (hsb : Snd middle 0 fs) (hz : size ≤ 1000000000) (hz' : middle ≤ 1000000000) (h64 : es.length ≤ 64) (h64' : fs.length ≤ 64) (hx : ∀ e ∈ es, e.x.length ≤ 1000000) (hx' : ∀ e ∈ fs, e.x.length ≤ 1000000) :
    SeqO Fence.wide n Try.prog 63 #[.pointer (some ⟨B1, 0, none⟩), .pointer (some ⟨Ba, 0, none⟩), .pointer (some ⟨Bm, 0, none⟩), .pointer (some ⟨Bb, 0, none⟩)] encP (KpB X Bl) (bothL (partsL size 0 0 es) (partsL middle 0 0 fs)) w := by
  intro l J W hW hJ hY h0
  obtain ⟨A, hA⟩ : ∃ A, partsL size 0 0 es = A := ⟨_, rfl⟩
  obtain ⟨B, hB⟩ : ∃ B, partsL middle 0 0 fs = B := ⟨_, rfl⟩
  have hbA := parts_bound hsa hz h64 hx
  have hbB := parts_bound hsb hz' h64' hx'
  have kA := fun (X' : World) (Bs' Bb' : Nat) h1 h2 h3 h4 h5 => kept_seq (n - 1) X Bl Bs' Bb' size a ca es X' h1 h2 h3 h4 h5 hsa hz h64 hx
  have kB := fun (X' : World) (Bs' Bb' : Nat) h1 h2 h3 h4 h5 => kept_seq (n - 1 - 1 - 1) X Bl Bs' Bb' middle b cb fs X' h1 h2 h3 h4 h5 hsb hz' h64' hx'
  rw [hA] at hY hbA kA ⊢
  rw [hB] at hY hbB kB ⊢
  have hk0 : KpB X Bl w W := KpB.below hW
  obtain ⟨W1, hW1⟩ : ∃ W1, W.alloc (.cells #[.func (.yield l) #[] #[]] 100) = W1 := ⟨_, rfl⟩
  have hk1 : KpB X Bl W W1 := by rw [← hW1]; exact KpB.alloc _ _
  have hX1 : ∀ k, X k → k < W.heap.size := fun k hk => Nat.lt_of_lt_of_le (hX k hk) hW.size
  have hS1 : BothS X Bl W.heap.size B1 Ba Bm Bb l size middle a ca es b cb fs W.heap.size W1 := by
    have hk2 := hk0.trans hk1
    refine ⟨hk2.cl hcl, ?_, hk2.safe _ _ h1, hk2.safe _ _ ha, hk2.safe _ _ hm, hk2.safe _ _ hb, hea.kp hk2, heb.kp hk2, hk1.size⟩
    rw [← hW1]
    exact SafeB.new (hk0.cl hcl) (fun h => by have := hX1 _ h; omega) _ rfl
  have hJ1 : J [] W1 := by rw [← hW1]; exact hJ.alloc _ h0
  obtain ⟨By, hBy⟩ : ∃ By, W.heap.size = By := ⟨_, rfl⟩
  have HX := Lib.hid hX1
  have HY := Lib.hid hY
  have HJ := Lib.hid hJ
  have HS1 := Lib.hid hS1
  have HJ1 := Lib.hid hJ1
  have HBA := Lib.hid hbA
  have HBB := Lib.hid hbB
  have HKA := Lib.hid kA
  have HKB := Lib.hid kB
  have c1 := hS1.s1.box.cell
  have ca' := hS1.sa.box.cell
  rw [hBy] at HX HY HJ HS1
  clear hX hcl h1 ha hm hb hea heb hsa hsb hW hY hJ h0 hbA hbB kA kB hk0 hk1 hX1 hS1 hJ1 hA hB hx hx' h64 h64'
  refine callsIn_of_wp_marks Try.func63 rfl trivial ?_ rfl
  simp only [Try.ntmps63, List.size_toArray, List.length_cons, List.length_nil, Nat.reduceAdd, Nat.reduceSub, Array.replicate_succ, Array.replicate_zero, List.push_toArray, List.append_toArray, List.nil_append, List.cons_append]
  gi_wp2_with (refine ⟨trivial, fun h => (by cases h), ?_⟩; gi_at_call 64; refine (callsIn_wide.2 (kept_any _ _ _ _ _)).mono ?_; rintro e W2 ⟨rfl, hW2⟩)
  -- THE LOOPS
  obtain ⟨g1, hg1⟩ : ∃ g1, W1.heap.size = g1 := ⟨_, rfl⟩
  have hcW : KpB X Bl W1 W2 := by rw [← hW2]; exact (KpB.alloc _ _).trans (KpB.alloc _ _)
  have hXg : ∀ k, X k → k < g1 := fun k hk => by have := HX.out k hk; have := HS1.out.n; omega
  have hn1 : SafeB X Bl W2 g1 (.cells #[.int .i64 size] 3 (0, 0)) := by
    rw [← hW2, ← hg1]
    exact (KpB.alloc _ _).safe _ _ (SafeB.new HS1.out.cl (fun h => by have := hXg _ h; omega) _ rfl)
  have hz2 : W2.heap.size = g1 + 2 := by rw [← hW2, ← hg1]; simp
  have hn2 : SafeB X Bl W2 (g1 + 1) (.cells #[.slice a es.length ca] 22 (0, 0)) := by
    have := SafeB.new (X := X) (W := W1.alloc (.cells #[.int .i64 size] 3)) ((KpB.alloc (X := X) W1 (.cells #[.int .i64 size] 3)).cl HS1.out.cl) (fun h => by have := hXg _ h; simp at this; omega) (.cells #[.slice a es.length ca] 22) rfl
    rw [World.size_alloc, hg1, hW2] at this
    exact this
  have hS2 := HS1.out.kp hcW
  have hJ2 : J [] W2 := by rw [← hW2]; exact HJ.out.alloc _ (HJ.out.alloc _ HJ1.out)
  have hXs : ∀ k, X k → k < W2.heap.size := fun k hk => by have := hXg k hk; omega
  have KA := HKA.out W2 g1 (g1 + 1) hXs hS2.cl hn1 hn2 hS2.ea
  rw [hg1]
  have HJ2 := Lib.hid hJ2
  have HS2 := Lib.hid hS2
  have HXs := Lib.hid hXs
  have hBz : By ≤ W2.heap.size := hS2.n
  clear hW2 hW1 hcW hXg hn1 hn2 hS2 hJ2 hXs HKA HS1 HJ1 c1 ca' hg1 hBy hz2
  refine rangeO_out rfl rfl (xs := A) (I := fun pre W' => J (bothL pre B) W' ∧ BothS X Bl By B1 Ba Bm Bb l size middle a ca es b cb fs By W') (Below.refl _ W2) ⟨HJ2.out, HS2.out⟩
    (OwnFrom.and (fun s A' B' row hs hg hr => HJ.out _ _ _ _ hs hg fun r e => ⟨by have := (hr r e).1; omega, (hr r e).2⟩) ((own_kp fun _ _ _ hk hs => hs.kp hk).from _))
    rfl trivial (enters_of Try.func71 (by kernel_rfl) rfl) KA (fun _ => rfl) (fun h h' => h.trans h') (fun W' k r r' h => KpB.loop W' k r r' h)
    (fun x a' W' => ∃ Bx, SafeB X Bl W' Bx (.cells #[.int .i64 x.1, .int .i64 x.2.1, .int .i64 x.2.2] 74 (0, 0)) ∧ a' = { tmps := #[.func (.yield l) #[] #[], .pointer (some ⟨B1, 0, none⟩), .pointer (some ⟨Ba, 0, none⟩), .pointer (some ⟨Bm, 0, none⟩), .pointer (some ⟨Bb, 0, none⟩), .pointer (some ⟨By, 0, none⟩), .pointer (some ⟨Bx, 0, none⟩), undef, undef, undef, .int .i64 size, .slice a es.length ca, .func (.func 71) #[] #[.pointer (some ⟨g1 + 1, 0, none⟩), .pointer (some ⟨g1, 0, none⟩)], .agg #[.int .i64 x.1, .int .i64 x.2.1, .int .i64 x.2.2], undef, undef, undef, undef, undef, undef, undef, undef, undef, undef, undef, undef, undef, undef, undef, undef, undef, undef, undef, undef, undef, undef, undef, undef, undef, undef, undef, undef, undef, undef, undef, undef, undef, undef, undef, undef, undef, undef, undef, undef, undef, undef, undef, undef, undef, undef], defers := [] })
    (fun x a' => (own_kp fun _ _ _ hk hs => hs.imp fun Bx h => ⟨hk.safe _ _ h.1, h.2⟩).from _)
    ?assign ?body ?done
  case assign =>
    rintro pre x W' K ⟨hJ', hS'⟩ hp hK
    have hk := KpB.alloc (X := X) (Bl := Bl) W' (.cells #[.int .i64 x.1, .int .i64 x.2.1, .int .i64 x.2.2] 74)
    have hsn := SafeB.new (X := X) hS'.cl (fun h => by have := HXs.out _ h; have := HX.out _ h; have := hS'.n; omega) (.cells #[.int .i64 x.1, .int .i64 x.2.1, .int .i64 x.2.2] 74) rfl
    have HSN := Lib.hid hsn
    have HK := Lib.hid hk
    have HJ' := Lib.hid hJ'
    have HS' := Lib.hid hS'
    clear hk hsn hJ' hS'
    unfold encP
    gi_wp2
    exact hK _ _ ((KeepsOthers.alloc _ _).from _) HK.out ⟨HJ.out.alloc _ HJ'.out, HS'.out.kp HK.out⟩ ⟨_, HSN.out, rfl⟩
  case body =>
    rintro pre x a' W' ⟨r, hr⟩ ⟨hJ', hS'⟩ ⟨Bx, hbx, rfl⟩ hp
    have cm := hS'.sm.box.cell
    have cb' := hS'.sb.box.cell
    have hbP : PrtB x := HBA.out x (hp.subset (by simp))
    obtain ⟨g2, hg2⟩ : ∃ g2, W'.heap.size = g2 := ⟨_, rfl⟩
    have HJ' := Lib.hid hJ'
    have HS' := Lib.hid hS'
    have HBX := Lib.hid hbx
    have HR := Lib.hid hr
    have HG2 := Lib.hid hg2
    have HBP := Lib.hid hbP
    clear hJ' hS' hbx hr hbP
    gi_wp2_with (refine ⟨trivial, fun h => (by cases h), ?_⟩; gi_at_call 64; refine (CallsIn.inRound _ (callsIn_wide.2 (kept_any _ _ _ _ _))).mono ?_; rintro e W3 ⟨rfl, hW3⟩)
    have hcW : KpB X Bl W' W3 := by rw [← hW3]; exact (KpB.alloc _ _).trans (KpB.alloc _ _)
    have hz3 : W3.heap.size = g2 + 2 := by rw [← hW3, ← hg2]; simp
    have hXg : ∀ k, X k → k < g2 := fun k hk => by have := HX.out k hk; have := HS'.out.n; omega
    have hn1 : SafeB X Bl W3 g2 (.cells #[.int .i64 middle] 3 (0, 0)) := by
      rw [← hW3, ← hg2]
      exact (KpB.alloc _ _).safe _ _ (SafeB.new HS'.out.cl (fun h => by have := hXg _ h; omega) _ rfl)
    have hn2 : SafeB X Bl W3 (g2 + 1) (.cells #[.slice b fs.length cb] 22 (0, 0)) := by
      have := SafeB.new (X := X) (W := W'.alloc (.cells #[.int .i64 middle] 3)) ((KpB.alloc (X := X) W' (.cells #[.int .i64 middle] 3)).cl HS'.out.cl) (fun h => by have := hXg _ h; simp at this; omega) (.cells #[.slice b fs.length cb] 22) rfl
      rw [World.size_alloc, hg2, hW3] at this
      exact this
    have hS3 := HS'.out.kp hcW
    have hJ3 : J (bothL pre B) W3 := by rw [← hW3]; exact HJ.out.alloc _ (HJ.out.alloc _ HJ'.out)
    have hXs3 : ∀ k, X k → k < W3.heap.size := fun k hk => by have := hXg k hk; omega
    have KB := HKB.out W3 g2 (g2 + 1) hXs3 hS3.cl hn1 hn2 hS3.eb
    have hr3 : W3.heap[W2.heap.size + 1]? = some (.loop r) := by
      have hlt := (Array.getElem?_eq_some_iff.1 HR.out).1
      rw [← hW3]
      exact (Below.heap_alloc _ _ _ (by simp; omega)).trans ((Below.heap_alloc W' _ _ hlt).trans HR.out)
    have hkf3 : KeepsFrom W2.heap.size W' W3 := by rw [← hW3]; exact ((KeepsOthers.alloc _ _).trans (KeepsOthers.alloc _ _)).from _
    have HS3 := Lib.hid hS3
    have HJ3 := Lib.hid hJ3
    have HXs3 := Lib.hid hXs3
    have hBx3 := Lib.hid (hcW.safe _ _ HBX.out)
    have hcW' := Lib.hid hcW
    have hkf' := Lib.hid hkf3
    have hgz : W'.heap.size ≤ W3.heap.size := hcW.size
    have hBz3 : By ≤ W3.heap.size := hS3.n
    clear hW3 hn1 hn2 hS3 hJ3 hXs3 hcW hkf3 cm cb' hXg hz3
    refine rangeO_in rfl (l₀ := W2.heap.size + 1) (r₀ := r) rfl hr3 (xs := B) (I := fun qs V => J (bothL pre B ++ rowP x qs) V ∧ BothS X Bl By B1 Ba Bm Bb l size middle a ca es b cb fs By V ∧ SafeB X Bl V Bx (.cells #[.int .i64 x.1, .int .i64 x.2.1, .int .i64 x.2.2] 74 (0, 0)) ∧ KpB X Bl W' V ∧ KeepsFrom W2.heap.size W' V)
      (Below.refl _ W3) ⟨by simpa [rowP] using HJ3.out, HS3.out, hBx3.out, hcW'.out, hkf'.out⟩
      (OwnFrom.and (fun s A' B' row hs hg hr => HJ.out _ _ _ _ hs hg fun r e => ⟨by have := (hr r e).1; omega, (hr r e).2⟩) (OwnFrom.and ((own_kp fun _ _ _ hk hs => hs.kp hk).from _) (OwnFrom.and ((own_kp fun _ _ _ hk hs => hk.safe _ _ hs).from _) (OwnFrom.and ((own_kp fun _ _ _ hk hs => hs.trans hk).from _) (ownFrom_keepsFrom hgz)))))
      rfl trivial (enters_of Try.func71 (by kernel_rfl) rfl) (show SeqO (Fence.wide.inRound (W2.heap.size + 1)) (n - 1 - 1 - 1) _ _ _ _ _ _ _ from KB) (fun _ => rfl) (fun h h' => h.trans h') (fun V k r r' h => KpB.loop V k r r' h)
      (fun y a'' V => ∃ Bv, SafeB X Bl V Bv (.cells #[.int .i64 y.1, .int .i64 y.2.1, .int .i64 y.2.2] 74 (0, 0)) ∧ a'' = { tmps := #[.func (.yield l) #[] #[], .pointer (some ⟨B1, 0, none⟩), .pointer (some ⟨Ba, 0, none⟩), .pointer (some ⟨Bm, 0, none⟩), .pointer (some ⟨Bb, 0, none⟩), .pointer (some ⟨By, 0, none⟩), .pointer (some ⟨Bx, 0, none⟩), .pointer (some ⟨Bv, 0, none⟩), undef, undef, .int .i64 size, .slice a es.length ca, .func (.func 71) #[] #[.pointer (some ⟨g1 + 1, 0, none⟩), .pointer (some ⟨g1, 0, none⟩)], .agg #[.int .i64 x.1, .int .i64 x.2.1, .int .i64 x.2.2], .int .i64 middle, .slice b fs.length cb, .func (.func 71) #[] #[.pointer (some ⟨g2 + 1, 0, none⟩), .pointer (some ⟨g2, 0, none⟩)], .agg #[.int .i64 y.1, .int .i64 y.2.1, .int .i64 y.2.2], undef, undef, undef, undef, undef, undef, undef, undef, undef, undef, undef, undef, undef, undef, undef, undef, undef, undef, undef, undef, undef, undef, undef, undef, undef, undef, undef, undef, undef, undef, undef, undef, undef, undef, undef, undef, undef, undef, undef, undef, undef, undef], defers := [] })
      (fun x a' => (own_kp fun _ _ _ hk hs => hs.imp fun Bx h => ⟨hk.safe _ _ h.1, h.2⟩).from _)
      ?assign2 ?body2 ?done2
    case assign2 =>
      rintro qs y V K ⟨hJv, hSv, hbv, hkv, hfv⟩ hq hK
      have hk := KpB.alloc (X := X) (Bl := Bl) V (.cells #[.int .i64 y.1, .int .i64 y.2.1, .int .i64 y.2.2] 74)
      have hsn := SafeB.new (X := X) hSv.cl (fun h => by have := HX.out _ h; have := hSv.n; omega) (.cells #[.int .i64 y.1, .int .i64 y.2.1, .int .i64 y.2.2] 74) rfl
      have hIv := Lib.hid (show _ ∧ _ ∧ _ ∧ _ ∧ _ from ⟨HJ.out.alloc (.cells #[.int .i64 y.1, .int .i64 y.2.1, .int .i64 y.2.2] 74) hJv, hSv.kp hk, hk.safe _ _ hbv, hkv.trans hk, hfv.trans ((KeepsOthers.alloc V (.cells #[.int .i64 y.1, .int .i64 y.2.1, .int .i64 y.2.2] 74)).from _)⟩)
      have HSN := Lib.hid hsn
      have HK := Lib.hid hk
      clear hk hsn hJv hSv hbv hkv hfv
      unfold encP
      gi_wp2
      exact hK _ _ ((KeepsOthers.alloc _ _).from _) HK.out hIv.out ⟨_, HSN.out, rfl⟩
    case body2 =>
      rintro qs y a'' V ⟨r2, hr2⟩ ⟨hJv, hSv, hbxv, hkv, hfv⟩ ⟨Bv, hbv, rfl⟩ hq
      have hbQ : PrtB y := HBB.out y (hq.subset (by simp))
      obtain ⟨fr, tt, hfr, htt, hf1, hf2, hlt, hnl⟩ := cap_nums HBP.out hbQ
      have hPa := HBP.out.a
      have hPb := HBP.out.b
      have hQa := hbQ.a
      have hQb := hbQ.b
      obtain ⟨x1, x2, x3⟩ := x
      obtain ⟨y1, y2, y3⟩ := y
      simp only at *
      have p0 := hbxv.cell (j := 0) rfl
      have p1 := hbxv.cell (j := 1) rfl
      have p2 := hbxv.cell (j := 2) rfl
      have r0 := hbv.cell (j := 0) rfl
      have r1 := hbv.cell (j := 1) rfl
      have r2' := hbv.cell (j := 2) rfl
      have hy0 := hSv.y.box.cell
      have HJV := Lib.hid hJv
      have HSV := Lib.hid hSv
      have HBXV := Lib.hid hbxv
      have HKV := Lib.hid hkv
      have HFV := Lib.hid hfv
      have HBV := Lib.hid hbv
      have HHP := Lib.hid hp
      have HHQ := Lib.hid hq
      have HFR := Lib.hid hfr
      have HTT := Lib.hid htt
      have HLT := Lib.hid hlt
      have HNL := Lib.hid hnl
      clear hJv hSv hbxv hkv hfv hbv hp hq hfr htt hlt hnl hbQ
      gi_upto_region 5 with fail
      refine region_quiet_round (F := Fence.wide) W3.heap.size rfl (by kernel_rfl) (by kernel_rfl) (by kernel_rfl) ?_
      repeat (quiet_step_in (fail))
      refine wpQuietIn_nil ?_
      intro _ hw'
      obtain ⟨nq, rfl⟩ := hw'
      have hM : max (x2 : Int) (y1 : Int) = (fr : Int) := by have := HFR.out; omega
      have hw1 : IntKind.i64.wrap ((x2 : Int) + x3) = (x2 : Int) + x3 := IntWalk.i64_in _ (by omega)
      have hw2 : IntKind.i64.wrap ((y1 : Int) + y3) = (y1 : Int) + y3 := IntWalk.i64_in _ (by omega)
      have hm : min (IntKind.i64.wrap ((x2 : Int) + x3)) (IntKind.i64.wrap ((y1 : Int) + y3)) = (tt : Int) := by rw [hw1, hw2]; have := HTT.out; omega
      rw [hM, hm]
      obtain ⟨V1, hV1⟩ : ∃ V1, V.drewN nq = V1 := ⟨_, rfl⟩
      have hbe : Below V.heap.size V V1 := by rw [← hV1]; exact Below.drewN nq
      have hkd : KpB X Bl V V1 := KpB.below hbe
      have hfd : KeepsFrom W2.heap.size V V1 := by rw [← hV1]; exact ⟨Nat.le_refl _, fun k o _ h _ => h⟩
      have hfd3 : KeepsFrom W3.heap.size V V1 := by rw [← hV1]; exact ⟨Nat.le_refl _, fun k o _ h _ => h⟩
      have HJ1 := Lib.hid (OwnFrom.below HJ.out HJV.out hbe)
      have HS1 := Lib.hid (HSV.out.kp hkd)
      have HBX1 := Lib.hid (hkd.safe _ _ HBXV.out)
      have HBV1 := Lib.hid (hkd.safe _ _ HBV.out)
      have HKV1 := Lib.hid (HKV.out.trans hkd)
      have HFV1 := Lib.hid (HFV.out.trans hfd)
      have HKD := Lib.hid hkd
      have HFD := Lib.hid hfd3
      rw [hV1]
      clear hM hw1 hw2 hm hbe hkd hfd hfd3 hV1 p0 p1 p2 r0 r1 r2' hy0 HJV HSV HBXV HBV HKV HFV
      by_cases hlt' : fr < tt
      · obtain ⟨hpos, hA1, hA2, hA3, hCB⟩ := HLT.out hlt'
        have hnx := both_next HHP.out HHQ.out hpos
        obtain ⟨fn, tmps, assign, body, hy, hR⟩ := HY.out (n - 1 - 1 - 1 - 1 - 1) _ _ V1 HJ1.out hnx
        have hrw := rowP_snoc (x1, x2, x3) (y1, y2, y3) qs
        rw [if_pos hpos] at hrw
        obtain ⟨C, hC⟩ : ∃ C, capP (x1, x2, x3) (y1, y2, y3) = C := ⟨_, rfl⟩
        rw [hC] at hA1 hA2 hA3 hCB hy hR hrw
        obtain ⟨C1, C2, C3⟩ := C
        have hCa := hCB.a
        have hCb := hCB.b
        unfold encP at hy
        simp only at hy hA1 hA2 hA3 hCa hCb
        have p0 := HBX1.out.cell (j := 0) rfl
        have p1 := HBX1.out.cell (j := 1) rfl
        have r0 := HBV1.out.cell (j := 0) rfl
        have r1 := HBV1.out.cell (j := 1) rfl
        have hy0 := HS1.out.y.box.cell
        have z1 : (fr : Int) < (tt : Int) := by omega
        have HRW := Lib.hid hrw
        have HHC := Lib.hid hC
        clear hnx hrw hC hCB hpos
        gi_wp2
        refine ⟨fun h => (by cases h), hR.mono ?_⟩
        rintro e V3 ⟨rfl, hJ3, hk3, hf3⟩
        have HJ3' := Lib.hid hJ3
        have HI3 := Lib.hid (show _ ∧ _ ∧ _ ∧ _ from ⟨HS1.out.kp hk3, hk3.safe _ _ HBX1.out, HKV1.out.trans hk3, HFV1.out.trans ⟨hf3.size, fun k o hk => hf3.same k o (by omega)⟩⟩)
        have HKD3 := Lib.hid (HKD.out.trans hk3)
        have HFD3 := Lib.hid (HFD.out.trans ⟨hf3.size, fun k o hk => hf3.same k o (by omega)⟩)
        clear hJ3 hk3 hf3
        gi_wp2
        refine ⟨HFD3.out, HKD3.out, ?_, HI3.out⟩
        rw [HRW.out, ← List.append_assoc]
        exact HJ3'.out
      · have hrw := rowP_snoc (x1, x2, x3) (y1, y2, y3) qs
        rw [if_neg (HNL.out hlt'), List.append_nil] at hrw
        have z1 : decide ((fr : Int) < (tt : Int)) = false := by simp; omega
        have HRW := Lib.hid hrw
        clear hrw
        gi_wp2
        refine ⟨fun _ h => (by cases h), ?_⟩
        gi_wp2
        refine ⟨HFD.out, HKD.out, ?_, HS1.out, HBX1.out, HKV1.out, HFV1.out⟩
        rw [HRW.out]
        exact HJ1.out
    case done2 =>
      rintro V ⟨hJv, hSv, hbxv, hkv, hfv⟩
      gi_wp2
      exact ⟨hfv, hkv, by rw [bothL_snoc]; exact hJv, hSv⟩
  case done =>
    rintro W' ⟨hJ', hS'⟩ hK
    have HJ' := Lib.hid (OwnFrom.putObj HJ.out (.deferred none) hJ' hBz hK rfl)
    clear hJ' hS'
    gi_wp2
    refine ⟨by simp, .inl ⟨_, _, rfl, run_takeDeferred hK, ?_⟩⟩
    exact ⟨_, results_none rfl _ _ _, ⟨_, rfl⟩, HJ'.out⟩
end
end Go.Proofs.Ytpncjgcdiomloaa
