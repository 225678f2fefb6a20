/-
  The law ChannelWindow.
-/
import Derived.Test.YtmonpnikdheokaaChanH
import Derived.Deep.DeepCutAuto
import Derived.Laws.MakeOwn
namespace Go.Proofs.Ytmonpnikdheokaa
open Go Go.Proofs
open Go.RowKit
set_option linter.unusedVariables false
set_option linter.unusedSimpArgs false

/-- One end, object 1, in block b, made since w. -/
structure One (w w' : World) (o' : Nat → Nat) (b : Nat) (E : EndS) : Prop where
  since : Step (fun x => x ≠ 0) w (fun _ => 0) w' o'
  at1 : EndAt w' o' 1 b E
theorem One.step {L : Nat → Prop} {w w' w'' : World} {o' o'' : Nat → Nat} {b : Nat} {E : EndS} (h : One w w' o' b E) (hs : Step L w' o' w'' o'') (h0 : ∀ l, l < 30 → ¬ L l) : One w w'' o'' b E :=
  ⟨h.since.trans (hs.mono fun l hl e => h0 l (by omega) hl), h.at1.step hs (h0 0 (by omega)) fun l hl => h0 l (by unfold Own at hl; omega)⟩
theorem One.upd {w w' w'' : World} {o' o'' : Nat → Nat} {b l : Nat} {E E' : EndS} (h : One w w' o' b E) (hs : Step (fun x => Own 1 x ∨ x = l) w' o' w'' o'') (hl : 30 ≤ l) (he : EndAt w'' o'' 1 b E') : One w w'' o'' b E' :=
  ⟨h.since.trans (hs.mono fun l h e => by rcases h with h | h <;> (try unfold Own at h) <;> omega), he⟩
theorem One.below {w w' : World} {o' : Nat → Nat} {b : Nat} {E : EndS} (h : One w w' o' b E) : Below w.heap.size w w' := h.since.toBelow (Nat.le_refl _) fun k _ h => h rfl
section
variable {w wr : World} {o : Nat → Nat} {b n : Nat} {E : EndS}
theorem send_1 (hT : One w wr o b E) (hF : Fit E n) {a : Option Addr} {c : Nat} {m : List UInt8} (hm : SliceAt wr a c (m.map byteV)) :
    Calls Try.prog 14 #[.pointer (some ⟨b, 0, none⟩), .slice a m.length c] wr fun e w' => e = .returned (.int .i64 (sendErr E m)) ∧ ∃ o', One w w' o' b (sendE E m) := by
  refine (send_c 1 b n E a c m wr o (by omega) hT.at1 hF hm).mono ?_
  rintro e w' ⟨rfl, o', hs, he⟩
  exact ⟨rfl, o', hT.upd (l := 30) (hs.mono fun l h => .inl h) (Nat.le_refl _) he⟩
theorem out_1 (hT : One w wr o b E) (hF : Fit E n) (hn : n ≤ 1000000) :
    Calls Try.prog 16 #[.pointer (some ⟨b, 0, none⟩)] wr fun e w' => ∃ v, e = .returned v ∧ ∃ o', One w w' o' b (outE E) ∧ PRow w' o' (fun _ => 0) 31 v (outP E) := by
  refine (out_c 1 b n E wr o 31 (fun _ => 0) (by omega) hT.at1 hF hn (by unfold Own; omega) (fun j => by unfold Own; omega) (fun _ => by omega) (by omega)).mono ?_
  rintro e w' ⟨v, rfl, o', hs, he, hr⟩
  exact ⟨v, rfl, o', hT.upd hs (by omega) he, hr⟩
theorem in_1 (hT : One w wr o b E) (p : Pkt) (hF : Fit E n) (hn : n ≤ 1000000) {a : Option Addr} {c : Nat} (hm : Dat wr o 0 a c (p.b.map byteV)) :
    Calls Try.prog 20 #[.pointer (some ⟨b, 0, none⟩), .agg #[.int .i64 p.seq, .int .i64 p.ack, .slice a p.b.length c]] wr fun e w' =>
      ∃ v, e = .returned v ∧ ∃ o', One w w' o' b (inE E p) ∧ MRow w' o' 32 v (inO E p) := by
  refine (in_c 1 b n E p a c 0 32 wr o (by omega) hT.at1 hF hn hm (by unfold Own; omega) (by unfold Own; omega) (by omega) (by omega)).mono ?_
  rintro e w' ⟨v, rfl, o', hs, he, hr⟩
  exact ⟨v, rfl, o', hT.upd hs (by omega) he, hr⟩
theorem waiting_1 (hT : One w wr o b E) :
    Calls Try.prog 23 #[.pointer (some ⟨b, 0, none⟩)] wr fun e w' => e = .returned (.int .i64 E.waiting.length) ∧ wr = w' :=
  waiting_any 1 b E wr o hT.at1
end

theorem send_big {w wr : World} {o : Nat → Nat} {b n : Nat} {E : EndS} (hT : One w wr o b E) (hF : Fit E n) {a : Option Addr} {c l : Nat} {m : List UInt8} (hl : m.length = l) (hm : SliceAt wr a c (m.map byteV)) (hb : 65536 < l) :
    Calls Try.prog 14 #[.pointer (some ⟨b, 0, none⟩), .slice a l c] wr fun e w' => e = .returned (.int .i64 4) ∧ ∃ o', One w w' o' b E := by
  subst hl
  refine (send_1 hT hF hm).mono ?_
  rintro e w' ⟨rfl, o', h⟩
  rw [show sendErr E m = 4 from if_pos (.inl hb)]
  rw [show sendE E m = E from if_pos (.inl hb)] at h
  exact ⟨rfl, o', h⟩
theorem make_big : ∃ X : Array Value, (∀ i, i < 65537 → X[i]? = some (byteV 0)) ∧ ∀ w : World, (Instr.makeSlice 31 (.int .i64 65537) (.int .i64 65537)).run Try.prog w = .ok (.slice (some ⟨w.heap.size, 0, none⟩) 65537 65537) (w.alloc (.cells X 5)) := by
  obtain ⟨i, hi, hz0, hz1, hz2⟩ := elemB.info
  refine ⟨madeCells (Value.int .u8 0).cells (65537 * i.size), fun j hj => ?_, fun w => ?_⟩
  · rw [hz1, show (Value.int .u8 0).cells = #[.int .u8 0] from rfl, Nat.mul_one, Array.getElem?_eq_getElem (by rw [size_madeCells]; exact hj)]
    simp [madeCells, Nat.mod_one, byteV]
  · exact run_make w _ _ i _ Try.underlying31 hi hz0 .i64 .i64 65537 65537 (by omega) (by omega) (by rw [hz2]; omega) (by omega)
theorem big_slice {X : Array Value} (hX : ∀ i, i < 65537 → X[i]? = some (byteV 0)) (w : World) (e : Nat) : ∃ m : List UInt8, m.length = 65537 ∧ SliceAt (w.alloc (.cells X e)) (some ⟨w.heap.size, 0, none⟩) 65537 (m.map byteV) := by
  refine ⟨List.replicate 65537 0, List.length_replicate, ?_, by omega, by simp, fun _ => ⟨w.heap.size, 0, rfl, fun i v hi => ?_⟩⟩
  · rw [List.length_map, List.length_replicate]; omega
  · rw [Nat.zero_add, cell_of_row _ w.heap.size i X e (0, 0) (heap_alloc_new w _)]
    rw [List.getElem?_map, List.getElem?_replicate] at hi
    split at hi
    · rw [hX i (by assumption), ← hi]; rfl
    · simp at hi
/-- An end with n empty messages, of which k were acknowledged ahead. -/
def wE (W k n : Nat) : EndS := ⟨W, List.replicate n [], k, 0, [], false⟩
theorem wE_fit {W k n : Nat} (h1 : 1 ≤ W) (h2 : W ≤ 16) (hn : n ≤ 1000) (hk : k ≤ 1000) : Fit (wE W k n) 1000 :=
  ⟨h1, h2, by simpa [wE] using hn, fun m hm => by have := (List.mem_replicate.1 hm).2; subst this; simp, hk, by simp [wE]⟩
theorem wE_err {W n : Nat} (hn : n < 1000) : sendErr (wE W 0 n) [] = 0 := by unfold sendErr; rw [if_neg]; simp [wE]; omega
theorem wE_err' {W n : Nat} (hn : 1000 ≤ n) : sendErr (wE W 0 n) [] = 4 := by unfold sendErr; rw [if_pos]; simp [wE]; omega
theorem wE_send {W n : Nat} (hn : n < 1000) : sendE (wE W 0 n) [] = wE W 0 (n + 1) := by
  unfold sendE; rw [if_neg (by simp [wE]; omega)]
  simp [wE, List.replicate_succ']
theorem wE_send' {W n : Nat} (hn : 1000 ≤ n) : sendE (wE W 0 n) [] = wE W 0 n := by unfold sendE; rw [if_pos]; simp [wE]; omega
theorem wE_out (W k n : Nat) : outP (wE W k n) = pktsFrom 0 k (List.replicate (min W n) []) := by
  unfold outP
  rw [if_neg (by simp [wE])]
  simp [wE, List.take_replicate]
theorem wE_outE (W k n : Nat) : outE (wE W k n) = wE W k n := rfl
theorem wE_in (W n : Nat) : inE (wE W 0 n) ⟨0, n + 1, []⟩ = wE W 0 n := by
  unfold inE; rw [if_pos]; simp [refuses, wE]; right; omega
theorem wE_ack {W n k : Nat} (hk : k ≤ n) : inE (wE W 0 n) ⟨0, k, []⟩ = wE W k (n - k) := by
  unfold inE
  rw [if_neg (by simp [refuses, wE, pvalid]; omega), if_pos rfl]
  unfold ackE wE
  by_cases h : 0 < k
  · rw [if_pos (by simp; omega)]; simp
  · obtain rfl : k = 0 := by omega
    simp

set_option maxRecDepth 100000 in
set_option maxHeartbeats 4000000 in
theorem channelWindow_walk (window many ack : Int) (w : World) (h0 : -9223372036854775808 ≤ window ∧ window ≤ 9223372036854775807) (h1 : -9223372036854775808 ≤ many ∧ many ≤ 9223372036854775807) (h2 : -9223372036854775808 ≤ ack ∧ ack ≤ 9223372036854775807) :
    Calls Try.prog 6 #[.int .i64 window, .int .i64 many, .int .i64 ack] w fun e w' => e = .returned (.bool true) ∧ Below w.heap.size w w' := by
  by_cases hbad : window < 1 ∨ 16 < window
  · rcases hbad with hb | hb
    · go_enter Try.func6, Try.ntmps6
      go_wp2_with fail
      refine (new_no window w (.inl hb)).mono ?_
      rintro e w1 ⟨rfl, rfl⟩
      go_wp2_with fail
      refine (lives_any w).mono ?_
      rintro e w1 ⟨rfl, hb⟩
      go_wp2_with fail
      go_ret
      exact ⟨rfl, hb⟩
    · have hb' : ¬ window < 1 := by omega
      go_enter Try.func6, Try.ntmps6
      go_wp2_with fail
      refine (new_no window w (.inr hb)).mono ?_
      rintro e w1 ⟨rfl, rfl⟩
      go_wp2_with fail
      refine (lives_any w).mono ?_
      rintro e w1 ⟨rfl, hb⟩
      go_wp2_with fail
      go_ret
      exact ⟨rfl, hb⟩
  · obtain ⟨W, rfl⟩ : ∃ W : Nat, window = W := ⟨window.toNat, by omega⟩
    have hW1 : 1 ≤ (W : Int) := by omega
    have hW2 : (W : Int) ≤ 16 := by omega
    clear hbad
    have a1 := aroundI_lo many 1003 (by omega)
    have a2 := aroundI_hi many 1003 (by omega)
    obtain ⟨N, hN⟩ : ∃ N : Nat, aroundI many 1003 = N := ⟨(aroundI many 1003).toNat, by omega⟩
    rw [hN] at a1 a2
    have HN := Lib.hid hN
    clear hN a1
    go_enter Try.func6, Try.ntmps6
    go_wp2_with fail
    refine (new_yes W 1 w (fun _ => 0) (by omega) (by omega) (by omega)).mono ?_
    rintro e w1 ⟨b, rfl, o1, hs1, hA1⟩
    have T1 : Hid (One w w1 o1 b (wE W 0 0)) := Lib.hid ⟨hs1.mono fun l h e => by unfold Own at h; omega, hA1⟩
    clear hs1 hA1
    go_wp2_with fail
    refine (around_any many 1003 _ (by omega) (by omega) h1.1 h1.2).mono ?_
    rw [HN.out]
    rintro e w2 ⟨rfl, rfl⟩
    go_wp2_with fail
    go_loopw [10] (fun i wr => ∃ (k : Nat) (o : Nat → Nat), k ≤ N ∧ i = .int .i64 k ∧ Hid (One w wr o b (wE W 0 (min k 1000)))) (fun i _ => N - (intOf i).toNat)
    case atStart => exact ⟨0, o1, by omega, rfl, T1.out⟩
    case round =>
      obtain ⟨k, o, hk, rfl, HT⟩ := hrel
      by_cases hkN : k < N
      · by_cases hk1 : k < 1000
        · have e1 : min k 1000 = k := by omega
          rw [e1] at HT
          clear e1
          have d1 : decide ((k : Int) < 1000) = true := decide_eq_true (by omega)
          go_wp2_with fail
          refine (send_1 HT.out (wE_fit (by omega) (by omega) (by omega) (by omega)) (m := []) (slice_nil byteV _)).mono ?_
          rw [wE_err hk1, wE_send hk1]
          rintro e w3 ⟨rfl, o3, hT3⟩
          have T3 := Lib.hid hT3
          clear hT3
          go_wp2_with fail
          go_roundw
          case rel => exact ⟨k + 1, o3, by omega, by go_num, by rw [show min (k + 1) 1000 = k + 1 from by omega]; exact T3⟩
          case measure => simp [intOf]; omega
        · have e1 : min k 1000 = 1000 := by omega
          rw [e1] at HT
          clear e1
          have d1 : decide ((k : Int) < 1000) = false := decide_eq_false (by omega)
          go_wp2_with fail
          refine (send_1 HT.out (wE_fit (by omega) (by omega) (by omega) (by omega)) (m := []) (slice_nil byteV _)).mono ?_
          rw [wE_err' (by omega), wE_send' (by omega)]
          rintro e w3 ⟨rfl, o3, hT3⟩
          have T3 := Lib.hid hT3
          clear hT3
          go_wp2_with fail
          go_roundw
          case rel => exact ⟨k + 1, o3, by omega, by go_num, by rw [show min (k + 1) 1000 = 1000 from by omega]; exact T3⟩
          case measure => simp [intOf]; omega
      · obtain rfl : k = N := by omega
        clear T1 hkN hk
        go_upto_region 12 with fail
        go_cut [9] (fun s9 wx => ∃ M : Nat, Hid (M = min k 1000) ∧ s9 = .int .i64 M ∧ wx = wr)
        case first =>
          by_cases h : (k : Int) ≤ 1000
          · go_wp2_with fail
            go_meet
            exact ⟨k, by unfold Hid; omega, rfl, rfl⟩
          · go_wp2_with fail
            go_meet
            exact ⟨1000, by unfold Hid; omega, rfl, rfl⟩
        case rest =>
          obtain ⟨M, HM, rfl, rfl⟩ := hcut
          rw [← HM.out] at HT
          have hM : M ≤ 1000 := by have := HM.out; omega
          have b1 := aroundI_lo ack ((M : Int) + 1) (by omega)
          have b2 := aroundI_hi ack ((M : Int) + 1) (by omega)
          obtain ⟨K, hK⟩ : ∃ K : Nat, aroundI ack ((M : Int) + 1) = K := ⟨(aroundI ack ((M : Int) + 1)).toNat, by omega⟩
          rw [hK] at b1 b2
          have HK := Lib.hid hK
          clear hK b1
          go_wp2_with fail
          refine (around_any ack ((M : Int) + 1) _ (by omega) (by omega) h2.1 h2.2).mono ?_
          rw [HK.out]
          rintro e w2 ⟨rfl, rfl⟩
          go_wp2_with fail
          go_loopw [12] (fun i wr => ∃ (j : Nat) (o : Nat → Nat), j ≤ 2 ∧ i = .int .i64 j ∧ Hid (One w wr o b (wE W 0 M))) (fun i _ => 2 - (intOf i).toNat)
          case atStart => exact ⟨0, o, by omega, rfl, HT.out⟩
          case round =>
            clear HT
            obtain ⟨j, o, hj, rfl, HT⟩ := hrel
            by_cases hj2 : j < 2
            · go_wp2_with fail
              refine (out_1 HT.out (wE_fit (by omega) (by omega) (by omega) (by omega)) (by omega)).mono ?_
              rw [wE_outE, wE_out]
              rintro e w3 ⟨v, rfl, o3, hT3, hP⟩
              have T3 := Lib.hid hT3
              have HP := Lib.hid hP
              obtain ⟨pa, pc, rfl, hp1, hp2, hp3⟩ := hP.cells
              obtain ⟨L, hL⟩ : ∃ L, (pktsFrom 0 0 (List.replicate (min W M) [])).length = L := ⟨_, rfl⟩
              rw [hL] at hp1 hp3 ⊢
              have hL2 : L = min W M := by rw [← hL, pktsFrom_length]; simp
              have HL := Lib.hid hL2
              have HP3 := Lib.hid hp3
              have hL3 : L ≤ 16 := by omega
              clear hT3 hP hp3 hL hL2
              go_upto_region 18 with fail
              go_cut [72] (fun s72 wx => s72 = .bool false ∧ wx = w3)
              case first =>
                by_cases h : (M : Int) ≤ W
                · have hl : ((L : Int) != (M : Int)) = false := by have := HL.out; simp; omega
                  go_wp2_with fail
                  go_meet
                  exact ⟨rfl, rfl⟩
                · have hl : ((L : Int) != (W : Int)) = false := by have := HL.out; simp; omega
                  go_wp2_with fail
                  go_meet
                  exact ⟨rfl, rfl⟩
              case rest =>
                obtain ⟨rfl, rfl⟩ := hcut
                go_wp2_with fail
                go_loop [14] (fun i => ∃ q : Nat, q ≤ L ∧ i = .int .i64 q) (fun i => L - (intOf i).toNat)
                case atStart => exact ⟨0, by omega, rfl⟩
                case round =>
                  obtain ⟨q, hq, rfl⟩ := hrel
                  by_cases hqL : q < L
                  · obtain ⟨g, rfl, -, hc⟩ := HP3.out (by omega)
                    have hget : (pktsFrom 0 0 (List.replicate (min W M) []))[q]? = some ⟨(q : Int) + 1, 0, []⟩ := by
                      rw [pktsFrom_get, List.getElem?_replicate, if_pos (by have := HL.out; omega)]
                      simp
                    obtain ⟨ma, mc, e0, e1, -, -⟩ := hc q _ hget
                    simp only at e0 e1
                    clear hc hget
                    go_wp2_with fail
                    go_round
                    case rel => exact ⟨q + 1, by omega, by go_num⟩
                    case measure => simp [intOf]; omega
                  · obtain rfl : q = L := by omega
                    go_wp2_with fail
                    go_roundw
                    case rel => exact ⟨j + 1, o3, by omega, by go_num, T3.out⟩
                    case measure => simp [intOf]; omega
            · obtain rfl : j = 2 := by omega
              have HM0 : Hid (Dat wr o 0 none 0 (([] : List UInt8).map byteV)) := Dat.nil byteV _ _ _
              go_wp2_with fail
              refine (in_1 HT.out ⟨0, (M : Int) + 1, []⟩ (wE_fit (by omega) (by omega) (by omega) (by omega)) (by omega) HM0.out).mono ?_
              rw [wE_in]
              rintro e w3 ⟨v, rfl, o3, hT3, -⟩
              have T3 := Lib.hid hT3
              clear hT3 HT HM0
              go_wp2_with fail
              refine (waiting_1 T3.out).mono ?_
              rw [show (wE W 0 M).waiting.length = M from by simp [wE]]
              rintro e w4 ⟨rfl, rfl⟩
              have HM0 : Hid (Dat w3 o3 0 none 0 (([] : List UInt8).map byteV)) := Dat.nil byteV _ _ _
              go_wp2_with fail
              refine (in_1 T3.out ⟨0, (K : Int), []⟩ (wE_fit (by omega) (by omega) (by omega) (by omega)) (by omega) HM0.out).mono ?_
              rw [wE_ack (show K ≤ M by omega)]
              rintro e w5 ⟨v, rfl, o5, hT5, -⟩
              have T5 := Lib.hid hT5
              clear hT5 T3 HM0
              go_wp2_with fail
              refine (out_1 T5.out (wE_fit (by omega) (by omega) (by omega) (by omega)) (by omega)).mono ?_
              rw [wE_outE, wE_out]
              rintro e w6 ⟨v, rfl, o6, hT6, hP⟩
              have T6 := Lib.hid hT6
              obtain ⟨pa, pc, rfl, hp1, hp2, hp3⟩ := hP.cells
              obtain ⟨L, hL⟩ : ∃ L, (pktsFrom 0 K (List.replicate (min W (M - K)) [])).length = L := ⟨_, rfl⟩
              rw [hL] at hp1 hp3 ⊢
              have hL2 : L = min W (M - K) := by rw [← hL, pktsFrom_length]; simp
              have HL := Lib.hid hL2
              have HP3 := Lib.hid hp3
              have hL3 : L ≤ 16 := by omega
              clear hT6 hP hp3 hL hL2
              go_wp2_with fail
              refine (waiting_1 T6.out).mono ?_
              rw [show (((wE W K (M - K)).waiting.length : Nat) : Int) = (M : Int) - K from by simp [wE]; omega]
              rintro e w7 ⟨rfl, rfl⟩
              obtain ⟨X, hX, hmk⟩ := make_big
              obtain ⟨big, hbig, hbs⟩ := big_slice hX w6 5
              have HBL := Lib.hid hbig
              have HBS := Lib.hid hbs
              clear hX hbig hbs
              have hmin : ∃ z : Int, (((M : Int) - K ≤ W ∧ z = (M : Int) - K) ∨ (¬ (M : Int) - K ≤ W ∧ z = W)) ∧ (L : Int) = z := ⟨L, by have := HL.out; omega, rfl⟩
              obtain ⟨z, hz, hLz⟩ := hmin
              have hw : ∀ wx : World, wx = wx := fun _ => rfl
              rcases hz with ⟨hz, rfl⟩ | ⟨hz, rfl⟩
              all_goals
                by_cases hL0 : L = 0
                · have t0 : ((L : Int) == 0) = true := by simpa using hL0
                  have t1 := (beq_iff_eq (a := (L : Int))).2 hLz
                  clear hLz hL0 hw
                  go_wp2_with fail
                  refine (send_big (T6.out.step ((Step.refl (fun _ => False) _ _).alloc _) (fun _ _ h => h)) (wE_fit (by omega) (by omega) (by omega) (by omega)) HBL.out HBS.out (by omega)).mono ?_
                  rintro e w8 ⟨rfl, o8, hT8⟩
                  have T8 := Lib.hid hT8
                  clear hT8
                  go_wp2_with fail
                  refine (lives_any w8).mono ?_
                  rintro e w9 ⟨rfl, hb9⟩
                  go_wp2_with fail
                  go_ret
                  exact ⟨rfl, T8.out.below.trans (hb9.mono T8.out.since.size)⟩
                · have t0 : ((L : Int) == 0) = false := by simpa using hL0
                  have t1 := (beq_iff_eq (a := (L : Int))).2 hLz
                  obtain ⟨g, rfl, -, hc⟩ := HP3.out (by omega)
                  have hget : (pktsFrom 0 K (List.replicate (min W (M - K)) []))[0]? = some ⟨(K : Int) + 1, 0, []⟩ := by
                    rw [pktsFrom_get, List.getElem?_replicate, if_pos (by have := HL.out; omega)]
                    simp
                  obtain ⟨ma, mc, e0, -, -, -⟩ := hc 0 _ hget
                  have hL1 : 0 < L := by omega
                  simp only [Nat.zero_mul] at e0
                  clear hc hget hLz hL0 hw
                  go_wp2_with fail
                  refine (send_big (T6.out.step ((Step.refl (fun _ => False) _ _).alloc _) (fun _ _ h => h)) (wE_fit (by omega) (by omega) (by omega) (by omega)) HBL.out HBS.out (by omega)).mono ?_
                  rintro e w8 ⟨rfl, o8, hT8⟩
                  have T8 := Lib.hid hT8
                  clear hT8
                  go_wp2_with fail
                  refine (lives_any w8).mono ?_
                  rintro e w9 ⟨rfl, hb9⟩
                  go_wp2_with fail
                  go_ret
                  exact ⟨rfl, T8.out.below.trans (hb9.mono T8.out.since.size)⟩
end Go.Proofs.Ytmonpnikdheokaa
