/-
  Contracts of package hash: Sum, Bytes, Pair.
-/
import Derived.Test.YtpncjgcdiomloaaHashIter
namespace Go.Proofs.Ytpncjgcdiomloaa
open Go Go.Proofs
open Go.RowKit Go.Shelf
set_option linter.unusedVariables false
attribute [local go_sem] Oper.semAt_some

theorem wordsS_stops (Bn n₀ : Nat) (s : ByteArray) (w : World) (hs : s.size ≤ 140737488351232) (hBn : Boxed w Bn 9 (.string s)) :
    SeqStopsK Fence.wide 2 Try.prog 72 #[.pointer (some ⟨Bn, 0, none⟩)] (fun x : Nat => #[u64V x]) (KeepsBox n₀ Bn 9 (.string s)) (fun ys => ys = wordsN s.data.toList) (fun pre => pre <+: wordsN s.data.toList) (wordsN s.data.toList).length w := fun l J Jx W hW _ _ hY h0 =>
  wordsS1_in Fence.wide 2 trivial rfl (by omega) l Bn n₀ s J Jx hY W hs (Boxed.below hBn hW) h0
theorem wordsB_stops (Bn n₀ : Nat) (sa : Option Addr) (sc : Nat) (s : List UInt8) (w : World) (hs : s.length ≤ 140737488351232) (hBn : Boxed w Bn 62 (.slice sa s.length sc)) (hsl : SliceAt w sa sc (s.map byteV)) (hold : 0 < (s.map byteV).length → ∀ b off, sa = some ⟨b, off, none⟩ → b < n₀) :
    SeqStopsK Fence.wide 2 Try.prog 67 #[.pointer (some ⟨Bn, 0, none⟩)] (fun x : Nat => #[u64V x]) (KeepsBox n₀ Bn 62 (.slice sa s.length sc)) (fun ys => ys = wordsN s) (fun pre => pre <+: wordsN s) (wordsN s).length w := fun l J Jx W hW _ _ hY h0 =>
  wordsB1_in Fence.wide 2 trivial rfl (by omega) l Bn n₀ sa sc s J Jx hY W hs (Boxed.below hBn hW) (hsl.below hW) hold h0

set_option maxRecDepth 100000 in
set_option maxHeartbeats 2000000 in
theorem sum_any (s : ByteArray) (a : Option Addr) (c : Nat) (xs : List Int) (w : World) (hs : s.size ≤ 140737488351232) (hx : SliceAt w a c (xs.map intV)) :
    Calls Try.prog 57 #[.string s, .slice a xs.length c] w fun e w' => e = .returned (.int .u64 (sumI s.data.toList xs)) ∧ Below w.heap.size w w' := by
  refine (callsIn_wide (n := 3)).1 ?_
  refine callsIn_of_wp_marks Try.func57 rfl trivial ?_ rfl
  simp only [Try.ntmps57, List.size_toArray, List.length_cons, List.length_nil, Nat.reduceAdd, Nat.reduceSub, Array.replicate_succ, Array.replicate_zero, List.push_toArray, List.append_toArray, List.nil_append, List.cons_append]
  gi_wp2_with (refine ⟨trivial, ?_⟩; gi_at_call 68; refine (callsIn_wide.2 (wordsS_any _ _)).mono ?_; rintro e w' ⟨rfl, rfl⟩)
  have hc0 := Boxed.new w 60 (.int .u64 0)
  have hb := Boxed.new (w.alloc (.cells #[.int .u64 0] 60)) 9 (.string s)
  rw [World.size_alloc] at hb
  have hB0 : Below w.heap.size w ((w.alloc (.cells #[.int .u64 0] 60)).alloc (.cells #[.string s] 9)) := ((Below.refl _ w).alloc (Nat.le_refl _) _).alloc (by simp) _
  refine wpIn_rangeFunc_ownF rfl (by omega) (gf := 72) (lb := #[.pointer (some ⟨w.heap.size + 1, 0, none⟩)]) rfl trivial (enters_of Try.func72 (by kernel_rfl) rfl)
    (wordsS_stops (w.heap.size + 1) w.heap.size s _ hs hb) keepsBox_t (keepsBox_b (by simp; omega)) (Below.refl _ _) (fun _ => rfl)
    (fun pre W => Boxed W w.heap.size 60 (.int .u64 (foldW 0 pre)) ∧ Below w.heap.size w W)
    (fun _ _ _ => False)
    (OwnFrom.and (Own.from (boxed_own w.heap.size 60 fun pre => .int .u64 (foldW 0 pre)) _) (ownFrom_below (Nat.le_refl _) (by simp; omega)))
    (fun _ _ _ _ _ hs _ _ => hs)
    ⟨hc0.alloc _, hB0⟩
    (fun x => { tmps := #[.string s, .slice a xs.length c, undef, undef, .int .u64 0, .pointer (some ⟨w.heap.size, 0, none⟩), .int .u64 x, undef, undef, .string s, .func (.func 72) #[] #[.pointer (some ⟨w.heap.size + 1, 0, none⟩)], .int .u64 x, undef, undef, undef, undef, undef, undef, undef, undef, undef, undef, undef, undef, undef, undef, undef, undef, undef, undef, undef, undef, undef, undef, undef, undef, undef], defers := [] }) ?assign ?body ?done ?stop
  case assign =>
    intro l x W K hK
    gi_wp2
    exact hK
  case body =>
    rintro l pre x W ⟨hc, hB⟩ _
    have hcc := hc.cell
    have hcf := hc.frozen
    gi_wp2_with (refine ⟨trivial, ?_⟩; gi_at_call 69; refine (CallsIn.inRound l (callsIn_wide.2 (mix_any _ _ _))).mono ?_; rintro e w' ⟨rfl, rfl⟩)
    exact ⟨KeepsOthers.setCell _ _ _, ⟨(Below.refl _ W).setCell (p := ⟨w.heap.size, 0, none⟩) (Nat.le_refl _) _, fun c => Boxed.other c (by omega) _⟩, by rw [foldW_snoc]; exact hc.set _, hB.setCell (p := ⟨w.heap.size, 0, none⟩) (Nat.le_refl _) _⟩
  case done =>
    rintro D ys W hD rfl ⟨hc, hB⟩ hK
    have hcc := hc.cell
    have hcf := hc.frozen
    have hlx := hx.len
    simp only [List.length_map] at hlx
    gi_wp2_with (refine ⟨trivial, ?_⟩; gi_at_call 69; refine (callsIn_wide.2 (mix_any _ _ _)).mono ?_; rintro e w' ⟨rfl, rfl⟩)
    gi_loopw [8, 26] (fun _ i wr => ∃ (k : Nat) (v : Int), k ≤ xs.length ∧ i = .int .i64 k ∧ Boxed wr w.heap.size 60 (.int .u64 v) ∧
        Hid (v = (xs.take k).foldl mixI (mixI (mixI (foldW 0 (wordsN s.data.toList)) s.data.toList.length) xs.length)) ∧ Below w.heap.size w wr ∧ wr.heap[D]? = some (.deferred (some [])))
      (fun _ i wr => xs.length - (intOf i).toNat)
    case atStart => exact ⟨0, _, by omega, rfl, hc.set _, by simp [Hid], hB.setCell (p := ⟨w.heap.size, 0, none⟩) (Nat.le_refl _) _, (KeepsOthers.setCell W ⟨w.heap.size, 0, none⟩ _).same D _ hK rfl⟩
    case round =>
      obtain ⟨k, v, hk, rfl, hv, HV, hBr, hKr⟩ := hrel
      have hvc := hv.cell
      have hvf := hv.frozen
      by_cases hkn : k < xs.length
      · obtain ⟨b, off, rfl⟩ := hx.addr (by simp; omega)
        have f1 := (hx.below hBr).intV hkn
        have f2 := foldM_take (mixI (mixI (foldW 0 (wordsN s.data.toList)) s.data.toList.length) xs.length) xs hkn
        have F2 := Lib.hid f2
        clear f2
        gi_wp2_with (refine ⟨trivial, ?_⟩; gi_at_call 69; refine (callsIn_wide.2 (mix_any _ _ _)).mono ?_; rintro e w' ⟨rfl, rfl⟩)
        go_roundw
        case rel => exact ⟨k + 1, _, by omega, by go_num, hv.set _, by rw [Hid, F2.out, mixI_wrap, ← HV.out], hBr.setCell (p := ⟨w.heap.size, 0, none⟩) (Nat.le_refl _) _, (KeepsOthers.setCell _ ⟨w.heap.size, 0, none⟩ _).same D _ hKr rfl⟩
        case measure => simp [intOf]; omega
      · gi_wp2_with (refine ⟨trivial, ?_⟩; gi_at_call 69; refine (callsIn_wide.2 (mix_any _ _ _)).mono ?_; rintro e w' ⟨rfl, rfl⟩)
        refine ⟨by simp, .inl ⟨_, _, rfl, run_takeDeferred hKr, ?_⟩⟩
        refine ⟨_, results_tmp rfl _ _ _, ?_, hBr.trans (belowK_b (w := w) (Nat.le_refl _) wr D _ _ (by simp at hD; omega) hKr rfl rfl)⟩
        have h := HV.out
        rw [List.take_of_length_le (by omega)] at h
        exact ret_int (by rw [h]; rfl)
  case stop =>
    rintro D c pre W _ _ h _
    exact h.elim

theorem elemI' : (Try.prog.info? 3).map (fun i => (i.zero, i.size, i.bytes)) = some (some (.int .i64 0), 1, 8) := by kernel_rfl
set_option maxRecDepth 100000 in
set_option maxHeartbeats 2000000 in
theorem bytes_any (s : ByteArray) (a : Option Addr) (c : Nat) (bs : List UInt8) (w : World) (hs : s.size ≤ 140737488351232) (hx : SliceAt w a c (bs.map byteV)) (hl : bs.length ≤ 1000000000) :
    Calls Try.prog 38 #[.string s, .slice a bs.length c] w fun e w' => e = .returned (.int .u64 (bytesI s.data.toList bs)) ∧ Below w.heap.size w w' := by
  refine (callsIn_wide (n := 3)).1 ?_
  refine callsIn_of_wp_marks Try.func38 rfl trivial ?_ rfl
  simp only [Try.ntmps38, List.size_toArray, List.length_cons, List.length_nil, Nat.reduceAdd, Nat.reduceSub, Array.replicate_succ, Array.replicate_zero, List.push_toArray, List.append_toArray, List.nil_append, List.cons_append]
  gi_wp2_with (refine ⟨trivial, ?_⟩; gi_at_call 56; refine (callsIn_wide.2 (wordsB_any _ _ _ _)).mono ?_; rintro e w' ⟨rfl, rfl⟩)
  have hc0 := Boxed.new w 23 (.slice none 0 0)
  have hb := Boxed.new (w.alloc (.cells #[.slice none 0 0] 23)) 62 (.slice a bs.length c)
  rw [World.size_alloc] at hb
  have hB0 : Below w.heap.size w ((w.alloc (.cells #[.slice none 0 0] 23)).alloc (.cells #[.slice a bs.length c] 62)) := ((Below.refl _ w).alloc (Nat.le_refl _) _).alloc (by simp) _
  have hwl := wordsN_length bs
  have HWL := Lib.hid hwl
  clear hwl
  refine wpIn_rangeFunc_ownG rfl (by omega) (gf := 67) (lb := #[.pointer (some ⟨w.heap.size + 1, 0, none⟩)]) rfl trivial (enters_of Try.func67 (by kernel_rfl) rfl)
    (wordsB_stops (w.heap.size + 1) w.heap.size a c bs _ (by omega) hb (hx.below hB0) hx.lt) keepsBox_t (keepsBox_b (by simp; omega)) (Below.refl _ _) (fun _ => rfl)
    (fun pre W => (∃ v, Boxed W w.heap.size 23 v ∧ W.ownsRow w.heap.size 3 1 v pre.length ((pre.map wordI).map intV) ∧ True) ∧ Below w.heap.size w W)
    (fun _ _ _ => False)
    (OwnFrom.and (Own.from (holdsRow_own w.heap.size w.heap.size 23 3 1 (fun (pre : List Nat) => pre.length) (fun pre => (pre.map wordI).map intV) (fun pre v => True)) _) (ownFrom_below (Nat.le_refl _) (by simp; omega)))
    (fun _ _ _ _ _ hs _ _ => hs)
    ⟨⟨_, hc0.alloc _, World.ownsRow_nil _ _ _ _, trivial⟩, hB0⟩
    (fun x => { tmps := #[.string s, .slice a bs.length c, undef, undef, .int .u64 0, .pointer (some ⟨w.heap.size, 0, none⟩), .int .u64 x, .slice a bs.length c, .func (.func 67) #[] #[.pointer (some ⟨w.heap.size + 1, 0, none⟩)], .int .u64 x, undef, undef, undef, undef, undef, undef, undef, undef, undef, undef, undef, undef], defers := [] }) ?assign ?body ?done ?stop
  case assign =>
    intro l x W K hK
    gi_wp2
    exact hK
  case body =>
    rintro l pre x W ⟨⟨v, hv, hrow, -⟩, hB⟩ hlt
    have hc := hv.cell
    rw [HWL.out] at hlt
    gi_wp2_with (gi_at_builtin; refine wpListIn_append_src _ rfl _ _ 23 rfl elemI w.heap.size _ _ _ rfl (hrow.alloc _) (some ⟨W.heap.size, 0, none⟩) 1 1 [.int .i64 (wrap64 (x : Int))] rfl (row_new (cs := [.int .i64 (wrap64 (x : Int))]) (by simp) (by omega)) (by simp [Value.oneCell']) (by omega) (by omega) (by have := hB.size; simp; omega) ?_; intro v' w1 hown' hbel' hgrow; obtain ⟨g', cap', rfl⟩ := ownsRow_succ hown'; obtain ⟨hv1, hv2, hr2, hk2, hb2⟩ := hv.appended (by decide) hrow hB.size (Nat.le_refl _) hown' hgrow; have hc1 := hv1.cell; have hf1 := hv1.frozen)
    refine ⟨hk2.from _, ⟨hb2, fun c => ?_⟩, ⟨_, hv2, ?_, trivial⟩, hB.trans hb2⟩
    · exact Boxed.other ((c.alloc _).kept hgrow (c.not_row (by decide) hrow)) (by omega) _
    · simpa [intV, wordI] using hr2
  case done =>
    rintro D ys W hD rfl ⟨⟨v, hv, hrow, -⟩, hB⟩ hK
    have hc := hv.cell
    gi_wp2_with (gi_at_builtin; refine wpListIn_append_src _ rfl _ _ 23 rfl elemI w.heap.size _ _ _ rfl (hrow.alloc _) (some ⟨W.heap.size, 0, none⟩) 1 1 [.int .i64 (bs.length : Int)] rfl (row_new (cs := [.int .i64 (bs.length : Int)]) (by simp) (by omega)) (by simp [Value.oneCell']) (by rw [HWL.out]; omega) (by rw [HWL.out]; omega) (by have := hB.size; simp; omega) ?_)
    intro v' w1 hown' hbel' hgrow
    obtain ⟨L, hL⟩ : ∃ L, L = (wordsN bs).map wordI ++ [(bs.length : Int)] := ⟨_, rfl⟩
    obtain ⟨a', c', rfl, hsl⟩ := ownsRow_sliceMap (f := intV) (xs := L) (by rw [hL]; simpa [intV] using hown')
    have HL := Lib.hid hL
    clear hL hown'
    have hne : some D ≠ v.ownBlock := by
      intro e
      rcases hrow.2 with ⟨hv0, _⟩ | ⟨g, cap, cur, hv0, _, hgb, _⟩
      · rw [hv0] at e; simp [Value.ownBlock] at e
      · rw [hv0] at e
        obtain rfl : D = g := by simpa [Value.ownBlock] using e
        rw [hgb] at hK; cases hK
    have hD1 : w1.heap[D]? = some (.deferred (some [])) := by
      rw [hgrow.block D (by have := (Array.getElem?_eq_some_iff.1 hK).1; simp; omega) hne]
      exact (Below.heap_alloc W _ D (Array.getElem?_eq_some_iff.1 hK).1).trans hK
    have hB1 : Below w.heap.size w w1 := (hB.alloc hB.size _).trans hbel'
    clear hgrow hrow hbel' hne
    gi_wp2_with (refine ⟨trivial, ?_⟩; gi_at_call 57; refine (callsIn_wide.2 (sum_any _ _ _ L _ hs hsl)).mono ?_; rintro e w2 ⟨rfl, hb2⟩)
    have hD2 : w2.heap[D]? = some (.deferred (some [])) := (hb2.block D (Array.getElem?_eq_some_iff.1 hD1).1).trans hD1
    have hB2 : Below w.heap.size w w2 := hB1.trans (hb2.mono hB1.size)
    refine ⟨by simp, .inl ⟨_, _, rfl, run_takeDeferred hD2, ?_⟩⟩
    exact ⟨_, results_tmp rfl _ _ _, (by rw [bytesI, ← HL.out]; rfl), hB2.trans (belowK_b (w := w) (Nat.le_refl _) w2 D _ _ (by simp at hD; omega) hD2 rfl rfl)⟩
  case stop =>
    rintro D c pre W _ _ h _
    exact h.elim

end Go.Proofs.Ytpncjgcdiomloaa
