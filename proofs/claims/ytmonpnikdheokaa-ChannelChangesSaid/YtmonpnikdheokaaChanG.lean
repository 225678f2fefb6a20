/-
  The documented example of a channel, which every law ends with.
-/
import Derived.Test.YtmonpnikdheokaaChanF
import Derived.Lib.SlBytesConst
namespace Go.Proofs.Ytmonpnikdheokaa
open Go Go.Proofs
open Go.RowKit
set_option linter.unusedVariables false
set_option linter.unusedSimpArgs false

theorem new_two (i : Nat) (w : World) (o : Nat → Nat) (hi : 1 ≤ i) :
    Calls Try.prog 26 #[.int .i64 2] w fun e w' => ∃ b, e = .returned (.tuple #[.pointer (some ⟨b, 0, none⟩), .int .i64 0]) ∧ ∃ o', Step (Own i) w o w' o' ∧ EndAt w' o' i b (newE 2) :=
  new_yes 2 i w o (by omega) (by omega) hi

def aE : EndS := ⟨2, [[97], [98], [99]], 0, 0, [], false⟩
def bE1 : EndS := ⟨2, [], 0, 0, [(2, [98])], true⟩
def bE2 : EndS := ⟨2, [], 0, 2, [], true⟩
def bE3 : EndS := ⟨2, [], 0, 2, [], false⟩
def aE2 : EndS := ⟨2, [[99]], 2, 0, [], false⟩
theorem ex1 : sendE (sendE (sendE (newE 2) [97]) [98]) [99] = aE := rfl
theorem ex2 : outP aE = [⟨1, 0, [97]⟩, ⟨2, 0, [98]⟩] := rfl
theorem ex3 : outE aE = aE := rfl
theorem ex4 : inE (newE 2) ⟨2, 0, [98]⟩ = bE1 := rfl
theorem ex5 : inO (newE 2) ⟨2, 0, [98]⟩ = [] := rfl
theorem ex6 : inE bE1 ⟨1, 0, [97]⟩ = bE2 := rfl
theorem ex7 : inO bE1 ⟨1, 0, [97]⟩ = [[97], [98]] := rfl
theorem ex8 : outP bE2 = [⟨0, 2, []⟩] := rfl
theorem ex9 : outE bE2 = bE3 := rfl
theorem ex10 : inE aE ⟨0, 2, []⟩ = aE2 := rfl
theorem ex11 : outP aE2 = [⟨3, 0, [99]⟩] := rfl
theorem ex12 : outE aE2 = aE2 := rfl

theorem lit_mark (w : World) (c : UInt8) (e : Nat) : SliceAt (w.alloc (.cells #[.int .u8 c.toNat] e (1, 2))) (some ⟨w.heap.size, 0, none⟩) 1 ([c].map byteV) := by
  refine ⟨by simp, by omega, by simp, fun _ => ⟨w.heap.size, 0, rfl, fun i v hi => ?_⟩⟩
  rw [Nat.zero_add]
  refine (World.cell?_alloc_mark w #[.int .u8 c.toNat] e (1, 2) i).trans ?_
  cases i with
  | zero => simpa [byteV] using hi
  | succ i => simp at hi
theorem fitA : Fit aE 0 := ((((Fit.new (k := 2) (by omega) (by omega)).send [97]).send [98]).send [99])
theorem fitB1 : Fit bE1 1000 := (Fit.new (k := 2) (by omega) (by omega)).inn ⟨2, 0, [98]⟩
theorem fitB2 : Fit bE2 2000 := fitB1.inn ⟨1, 0, [97]⟩
theorem fitA2 : Fit aE2 1000 := fitA.inn ⟨0, 2, []⟩

set_option maxRecDepth 100000 in
set_option maxHeartbeats 4000000 in
theorem lives_any (w : World) : Calls Try.prog 24 #[] w fun e w' => e = .returned (.bool true) ∧ Below w.heap.size w w' := by
  have kc := fun (w : World) (C : Array Value) (n c : Nat) => Lib.run_convert_bytes_const (P := Try.prog) w 31 5 C n c Try.underlying31 Try.underlying5
  go_enter Try.func24, Try.ntmps24
  go_wp2_with fail
  refine (new_two 1 w (fun _ => 0) (by omega)).mono ?_
  rintro e w1 ⟨b1, rfl, o1, hs1, hA1⟩
  have HS1 := Lib.hid hs1
  have HA1 := Lib.hid hA1
  clear hs1 hA1
  go_wp2_with fail
  refine (new_two 2 w1 o1 (by omega)).mono ?_
  rintro e w2 ⟨b2, rfl, o2, hs2, hB2⟩
  have T2 := Lib.hid (Two.made HS1.out HA1.out hs2 hB2)
  clear hs2 hB2 HA1 HS1
  go_wp2_with fail
  refine (send_t (k := 0) (T2.out.step ((Step.refl _ _ _).alloc _) (fun _ _ h => h)) (by omega) (Fit.new (by omega) (by omega)) (lit_mark _ 97 _)).mono ?_
  rintro e w3 ⟨rfl, o3, -, h3⟩
  have T3 := Lib.hid h3.pr0
  clear h3
  go_wp2_with fail
  refine (send_t (k := 0) (T3.out.step ((Step.refl _ _ _).alloc _) (fun _ _ h => h)) (by omega) ((Fit.new (k := 2) (by omega) (by omega)).send [97]) (lit_mark _ 98 _)).mono ?_
  rintro e w4 ⟨rfl, o4, -, h4⟩
  have T4 := Lib.hid h4.pr0
  clear h4
  go_wp2_with fail
  refine (send_t (k := 0) (T4.out.step ((Step.refl _ _ _).alloc _) (fun _ _ h => h)) (by omega) (((Fit.new (k := 2) (by omega) (by omega)).send [97]).send [98]) (lit_mark _ 99 _)).mono ?_
  rintro e w5 ⟨rfl, o5, -, h5⟩
  have T5 : Hid (Two w w5 o5 (pr b1 b2) (pr aE (newE 2))) := Lib.hid h5.pr0
  clear h5
  go_wp2_with fail
  refine (out_t (k := 0) T5.out 31 (fun _ => 0) (by omega) fitA (by omega) (by omega) (fun _ => .inl rfl) (fun _ => by omega)).mono ?_
  rintro e w6 ⟨v, rfl, o6, -, h6, hp⟩
  have T6 : Hid (Two w w6 o6 (pr b1 b2) (pr aE (newE 2))) := Lib.hid h6.pr0
  have hp' : PRow w6 o6 (fun _ => 0) 31 v [⟨1, 0, [97]⟩, ⟨2, 0, [98]⟩] := hp
  obtain ⟨pa, pc, rfl, hp1, hp2, hp3⟩ := hp'.cells
  obtain ⟨pg, rfl, hp4, hp5⟩ := hp3 (by simp)
  obtain ⟨ma0, mc0, e00, e01, e02, hd0⟩ := hp5 0 ⟨1, 0, [97]⟩ rfl
  obtain ⟨ma1, mc1, e10, e11, e12, hd1⟩ := hp5 1 ⟨2, 0, [98]⟩ rfl
  have HP := Lib.hid hp'
  have HD0 := Lib.hid hd0
  have HD1 := Lib.hid hd1
  clear h6 hp hp' hp3 hp5 hd0 hd1
  simp only [List.length_cons, List.length_nil, Nat.zero_add, Nat.reduceAdd, Nat.zero_mul, Nat.reduceMul, Nat.one_mul] at *
  go_wp2_with fail
  refine (in_t (k := 1) T6.out ⟨2, 0, [98]⟩ 0 32 (by omega) (Fit.new (by omega) (by omega)) (by omega) HD1.out (.inl rfl) (by omega) (by omega)).mono ?_
  rintro e w7 ⟨v, rfl, o7, hs7, h7, hx⟩
  have T7 : Hid (Two w w7 o7 (pr b1 b2) (pr aE bE1)) := Lib.hid h7.pr1
  have hx' : MRow w7 o7 32 v [] := hx
  obtain ⟨xa, xc, rfl, hx1, hx2, -⟩ := hx'.cells
  have hp7 := HP.out.step hs7 (by omega) (fun j hj => by omega)
  obtain ⟨pa7, pc7, hv7, hp71, hp72, hp73⟩ := hp7.cells
  obtain ⟨pg7, rfl, hp74, hp75⟩ := hp73 (by simp)
  simp only [List.length_cons, List.length_nil, Nat.zero_add, Nat.reduceAdd, Value.slice.injEq, Option.some.injEq, Addr.mk.injEq, and_true, true_and] at hv7
  obtain ⟨rfl, rfl⟩ := hv7
  obtain ⟨ma0, mc0, e00, e01, e02, hd0⟩ := hp75 0 ⟨1, 0, [97]⟩ rfl
  have HD0 := Lib.hid hd0
  clear h7 hx hx' hp7 hp73 hp75 hd0 hs7 HP
  simp only [List.length_cons, List.length_nil, Nat.zero_add, Nat.reduceAdd, Nat.zero_mul, Nat.reduceMul, Nat.one_mul] at *
  go_wp2_with fail
  refine (in_t (k := 1) T7.out ⟨1, 0, [97]⟩ 0 33 (by omega) fitB1 (by omega) HD0.out (.inl rfl) (by omega) (by omega)).mono ?_
  rintro e w8 ⟨v, rfl, o8, hs8, h8, hy⟩
  have T8 : Hid (Two w w8 o8 (pr b1 b2) (pr aE bE2)) := Lib.hid h8.pr1
  have HY : Hid (MRow w8 o8 33 v [[97], [98]]) := hy
  clear h8 hy hs8
  go_wp2_with fail
  refine (out_t (k := 1) T8.out 34 (fun _ => 0) (by omega) fitB2 (by omega) (by omega) (fun _ => .inl rfl) (fun _ => by omega)).mono ?_
  rintro e w9 ⟨vq, rfl, o9, hs9, h9, hq⟩
  have T9 : Hid (Two w w9 o9 (pr b1 b2) (pr aE bE3)) := Lib.hid h9.pr1
  have hy9 := HY.out.step hs9 (by omega) (by omega)
  obtain ⟨ya, yc, rfl, hy1, hy2, hy3⟩ := hy9.cells
  obtain ⟨yg, rfl, hy4, hy5⟩ := hy3 (by simp)
  obtain ⟨ma1, mc1, e11, hd1⟩ := hy5 1 [98] rfl
  have hcv := run_string_of (P := Try.prog) w9 Try.underlying31 Try.underlying5 Try.underlying9 ma1 mc1 [98] hd1.slice
  have hq' : PRow w9 o9 (fun _ => 0) 34 vq [⟨0, 2, []⟩] := hq
  obtain ⟨qa, qc, rfl, hq1, hq2, hq3⟩ := hq'.cells
  obtain ⟨qg, rfl, hq4, hq5⟩ := hq3 (by simp)
  obtain ⟨mq, nq, f0, f1, f2, hdq⟩ := hq5 0 ⟨0, 2, []⟩ rfl
  have HDQ := Lib.hid hdq
  clear h9 hs9 hq hq' hq3 hq5 hdq hy9 hy3 hy5 hd1 HY
  simp only [List.length_cons, List.length_nil, Nat.zero_add, Nat.reduceAdd, Nat.zero_mul, Nat.reduceMul, Nat.one_mul] at *
  go_wp2_with fail
  refine (in_t (k := 0) T9.out ⟨0, 2, []⟩ 0 35 (by omega) fitA (by omega) HDQ.out (.inl rfl) (by omega) (by omega)).mono ?_
  rintro e w10 ⟨v, rfl, o10, -, h10, -⟩
  have T10 : Hid (Two w w10 o10 (pr b1 b2) (pr aE2 bE3)) := Lib.hid h10.pr0
  clear h10
  go_wp2_with fail
  refine (out_t (k := 0) T10.out 36 (fun _ => 0) (by omega) fitA2 (by omega) (by omega) (fun _ => .inl rfl) (fun _ => by omega)).mono ?_
  rintro e w11 ⟨vr, rfl, o11, -, h11, hr⟩
  have T11 : Hid (Two w w11 o11 (pr b1 b2) (pr aE2 bE3)) := Lib.hid h11.pr0
  have hr' : PRow w11 o11 (fun _ => 0) 36 vr [⟨3, 0, [99]⟩] := hr
  obtain ⟨ra, rc, rfl, hr1, hr2, hr3⟩ := hr'.cells
  obtain ⟨rg, rfl, hr4, hr5⟩ := hr3 (by simp)
  obtain ⟨ma2, mc2, g0, g1, g2, hd2⟩ := hr5 0 ⟨3, 0, [99]⟩ rfl
  have hcv2 := run_string_of (P := Try.prog) w11 Try.underlying31 Try.underlying5 Try.underlying9 ma2 mc2 [99] hd2.slice
  clear h11 hr hr' hr3 hr5 hd2 hcv
  simp only [List.length_cons, List.length_nil, Nat.zero_add, Nat.reduceAdd, Nat.zero_mul, Nat.reduceMul, Nat.one_mul] at *
  go_wp2_with fail
  refine (waiting_t (k := 0) T11.out (by omega)).mono ?_
  rintro e w12 ⟨rfl, rfl⟩
  go_wp2_with fail
  go_ret
  exact ⟨rfl, T11.out.below⟩
end Go.Proofs.Ytmonpnikdheokaa
