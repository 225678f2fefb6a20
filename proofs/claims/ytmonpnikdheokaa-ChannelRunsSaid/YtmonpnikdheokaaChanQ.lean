/-
  The law ChannelProgress.
-/
import Derived.Test.YtmonpnikdheokaaChanP
import Derived.Deep.DeepCutAuto
import Derived.StillTailTactics
import Derived.IntWalk
namespace Go.Proofs.Ytmonpnikdheokaa
open Go Go.Proofs
open Go.RowKit
set_option linter.unusedVariables false
set_option linter.unusedSimpArgs false

/-- Two cells, by their index. -/
def L2 (f : Nat → Value) : List Value := [f 0, f 1]
theorem L2_get (f : Nat → Value) {k : Nat} (hk : k < 2) : (L2 f)[k]? = some (f k) := by
  have hk : k = 0 ∨ k = 1 := by omega
  rcases hk with rfl | rfl <;> rfl
theorem L2_set (f : Nat → Value) {k : Nat} (hk : k < 2) (v : Value) : (L2 f).set k v = L2 (upd f k v) := by
  have hk : k = 0 ∨ k = 1 := by omega
  rcases hk with rfl | rfl <;> rfl
def ptrV (b : Nat → Nat) : Nat → Value := fun k => .pointer (some ⟨b k, 0, none⟩)
def natV (n : Nat → Nat) : Nat → Value := fun k => .int .i64 (n k)
theorem natV_upd (g : Nat → Nat) (t x : Nat) : natV (upd g t x) = upd (natV g) t (.int .i64 x) := by
  funext j; unfold natV upd
  by_cases h : j = t <;> simp [h]
theorem byte_mod (i : Nat) : (byteV (UInt8.ofNat i)) = .int .u8 ((i : Int) % 256) := by
  unfold byteV; simp

theorem lit_nat (w : World) (i : Nat) (h : i < 256) (e : Nat) : SliceAt (w.alloc (.cells #[.int .u8 (i : Int)] e)) (some ⟨w.heap.size, 0, none⟩) 1 ([UInt8.ofNat i].map byteV) := by
  have := slice_new (f := byteV) (xs := [UInt8.ofNat i]) (w := w) (e := e) (by simp)
  have e1 : (UInt8.ofNat i).toNat = i := by rw [UInt8.toNat_ofNat']; omega
  simp only [List.map_cons, List.map_nil, byteV, e1] at this ⊢
  exact this
/-- What the law's world holds: the ends, their list, the numbers of messages. -/
structure PW (w wr : World) (o : Nat → Nat) (b : Nat → Nat) (E : Nat → EndS) (eb mb : Nat) (n : Nat → Nat) : Prop where
  two : Two w wr o b E
  es : Blk wr o 0 eb (L2 (ptrV b))
  many : Blk wr o 0 mb (L2 (natV n))
theorem PW.step {L : Nat → Prop} {w wr w' : World} {o o' : Nat → Nat} {b : Nat → Nat} {E : Nat → EndS} {eb mb : Nat} {n : Nat → Nat} (h : PW w wr o b E eb mb n) (hs : Step L wr o w' o') (h0 : ∀ l, l < 30 → ¬ L l) : PW w w' o' b E eb mb n :=
  ⟨h.two.step hs h0, h.es.step hs (h0 0 (by omega)), h.many.step hs (h0 0 (by omega))⟩
theorem PW.next {L : Nat → Prop} {w wr w' : World} {o o' : Nat → Nat} {b : Nat → Nat} {E E' : Nat → EndS} {eb mb : Nat} {n : Nat → Nat} (h : PW w wr o b E eb mb n) (hs : Step L wr o w' o') (h0 : ¬ L 0) (ht : Two w w' o' b E') : PW w w' o' b E' eb mb n :=
  ⟨ht, h.es.step hs h0, h.many.step hs h0⟩
theorem PW.cong {w wr : World} {o : Nat → Nat} {b : Nat → Nat} {E E' : Nat → EndS} {eb mb : Nat} {n : Nat → Nat} (h : PW w wr o b E eb mb n) (he : ∀ k, k < 2 → E' k = E k) : PW w wr o b E' eb mb n := ⟨h.two.cong he, h.es, h.many⟩

def eF (Wf n a g : Nat → Nat) (bb : Nat → Bool) : Nat → EndS := fun j => prE (Wf j) (n j) (a j) (g j) (bb j)
/-- The ends while end t takes the packets of end k: behind i of them. -/
def eI (Wf n a g : Nat → Nat) (bb : Nat → Bool) (k t i : Nat) : Nat → EndS :=
  upd (upd (eF Wf n a g bb) k (prE (Wf k) (n k) (a k) (g k) false)) t (prE (Wf t) (n t) (rA (a t) (g k) i) (rG (Wf k) (n k) (a k) (g t) i) (rB (Wf k) (n k) (a k) (bb t) i))
theorem rG_zero {W n a gr : Nat} (h : a ≤ gr) : rG W n a gr 0 = gr := by unfold rG; split <;> omega
theorem eI_zero {Wf n a g : Nat → Nat} {bb : Nat → Bool} {k t : Nat} (hkt : t ≠ k) (h : a k ≤ g t) : eI Wf n a g bb k t 0 = upd (eF Wf n a g bb) k (prE (Wf k) (n k) (a k) (g k) false) := by
  unfold eI
  rw [rG_zero h]
  have e : prE (Wf t) (n t) (rA (a t) (g k) 0) (g t) (rB (Wf k) (n k) (a k) (bb t) 0) = upd (eF Wf n a g bb) k (prE (Wf k) (n k) (a k) (g k) false) t := by
    rw [upd_not _ _ hkt]; rfl
  rw [e, upd_self]
theorem eI_t {Wf n a g : Nat → Nat} {bb : Nat → Bool} {k t i : Nat} : eI Wf n a g bb k t i t = prE (Wf t) (n t) (rA (a t) (g k) i) (rG (Wf k) (n k) (a k) (g t) i) (rB (Wf k) (n k) (a k) (bb t) i) := upd_at _ _ _

set_option maxRecDepth 100000 in
set_option maxHeartbeats 4000000 in
theorem channelProgress_walk (window one two lost : Int) (w : World) (h0 : -9223372036854775808 ≤ window ∧ window ≤ 9223372036854775807) (h1 : -9223372036854775808 ≤ one ∧ one ≤ 9223372036854775807) (h2 : -9223372036854775808 ≤ two ∧ two ≤ 9223372036854775807) (h3 : -9223372036854775808 ≤ lost ∧ lost ≤ 9223372036854775807) :
    Calls Try.prog 5 #[.int .i64 window, .int .i64 one, .int .i64 two, .int .i64 lost] w fun e w' => e = .returned (.bool true) ∧ Below w.heap.size w w' := by
  have a1 := aroundI_lo one 41 (by omega)
  have a2 := aroundI_hi one 41 (by omega)
  have a3 := aroundI_lo two 41 (by omega)
  have a4 := aroundI_hi two 41 (by omega)
  have a5 := aroundI_lo lost 5 (by omega)
  have a6 := aroundI_hi lost 5 (by omega)
  obtain ⟨n, hn0, hn1⟩ : ∃ n : Nat → Nat, aroundI one 41 = n 0 ∧ aroundI two 41 = n 1 := ⟨pr (aroundI one 41).toNat (aroundI two 41).toNat, by simp [pr]; omega, by simp [pr]; omega⟩
  obtain ⟨N, hN⟩ : ∃ N : Nat, aroundI lost 5 = N := ⟨(aroundI lost 5).toNat, by omega⟩
  obtain ⟨Wf, hW0, hW1⟩ : ∃ Wf : Nat → Nat, winN window = Wf 0 ∧ winN (window.tdiv 16) = Wf 1 := ⟨pr (winN window) (winN (window.tdiv 16)), rfl, rfl⟩
  have hW : ∀ j, j < 2 → 1 ≤ Wf j ∧ Wf j ≤ 16 := by
    intro j hj
    have hj : j = 0 ∨ j = 1 := by omega
    rcases hj with rfl | rfl
    · rw [← hW0]; exact ⟨winN_lo _, winN_hi _⟩
    · rw [← hW1]; exact ⟨winN_lo _, winN_hi _⟩
  have hn : ∀ j, j < 2 → n j ≤ 40 := by
    intro j hj
    have hj : j = 0 ∨ j = 1 := by omega
    rcases hj with rfl | rfl <;> omega
  have HW := Lib.hid hW
  have HN := Lib.hid hn
  have HW0 := Lib.hid hW0
  have HW1 := Lib.hid hW1
  have HN0 := Lib.hid hn0
  have HN1 := Lib.hid hn1
  have HNL := Lib.hid hN
  have hN5 : N < 5 := by omega
  clear hW hn hW0 hW1 hn0 hn1 hN a1 a2 a3 a4 a5 a6
  have qn := fun (wx : World) (ad : Addr) => Lib.run_eql_slice_nil (P := Try.prog) wx 23 33 (some ad) 2 2 0 0 Try.underlying23
  go_enter Try.func5, Try.ntmps5
  go_wp2_with fail
  refine (ends_any window w h0.1 h0.2).mono ?_
  rintro e w1 ⟨eb, b1, b2, o1, rfl, hT1, hE1⟩
  obtain ⟨b, rfl, rfl⟩ : ∃ b : Nat → Nat, b1 = b 0 ∧ b2 = b 1 := ⟨pr b1 b2, rfl, rfl⟩
  have HT1 := Lib.hid hT1
  have HE1 := Lib.hid hE1
  clear hT1 hE1
  go_wp2_with fail
  refine (around_any one 41 _ (by omega) (by omega) h1.1 h1.2).mono ?_
  rw [HN0.out]
  rintro e w2 ⟨rfl, rfl⟩
  go_wp2_with fail
  refine (around_any two 41 _ (by omega) (by omega) h2.1 h2.2).mono ?_
  rw [HN1.out]
  rintro e w2 ⟨rfl, rfl⟩
  go_wp2_with fail
  have hs2 : Step (fun _ => False) w1 o1 (w1.alloc (.cells #[.int .i64 (n 0), .int .i64 (n 1)] 3)) (newLab w1 o1 0) := Step.below ((Below.refl _ _).alloc (Nat.le_refl _) _) fun k hk => newLab_old _ _ _ hk
  have HP2 : Hid (PW w (w1.alloc (.cells #[.int .i64 (n 0), .int .i64 (n 1)] 3)) (newLab w1 o1 0) b (fun j => prE (Wf j) (if j < 0 then n j else 0) 0 0 false) eb w1.heap.size n) := by
    refine ⟨((HT1.out.step hs2 (fun _ _ h => h)).congb (b' := b) fun k hk => ?_).cong fun k hk => ?_, (HE1.out.step hs2 (fun h => h)), ⟨_, heap_alloc_new _ _, newLab_new _ _ _ (Nat.le_refl _)⟩⟩
    · have hk : k = 0 ∨ k = 1 := by omega
      rcases hk with rfl | rfl <;> rfl
    have hk : k = 0 ∨ k = 1 := by omega
    rcases hk with rfl | rfl
    · simp only [← HW0.out]; rfl
    · simp only [← HW1.out]; rfl
  obtain ⟨o2, ho2⟩ : ∃ o2, o2 = newLab w1 o1 0 := ⟨_, rfl⟩
  rw [← ho2] at HP2
  clear ho2 hs2 HT1 HE1
  go_wp2_with fail
  obtain ⟨mb, hmb⟩ : ∃ mb, mb = w1.heap.size := ⟨_, rfl⟩
  rw [← hmb] at HP2 ⊢
  have HMB := Lib.hid hmb
  clear hmb
  go_loopw [11] (fun i wr => ∃ (k : Nat) (o : Nat → Nat), k ≤ 2 ∧ i = .int .i64 k ∧ Hid (PW w wr o b (fun j => prE (Wf j) (if j < k then n j else 0) 0 0 false) eb mb n)) (fun i _ => 2 - (intOf i).toNat)
  case atStart => exact ⟨0, o2, by omega, rfl, HP2.out⟩
  case round =>
    clear HP2
    obtain ⟨k, o, hk, rfl, HP⟩ := hrel
    by_cases hk2 : k < 2
    · have hnk := HN.out k hk2
      have d2 : decide ((k : Int) < 2) = true := decide_eq_true (by omega)
      go_wp2_with fail
      go_loopw [12] (fun i wr => ∃ (i' : Nat) (o : Nat → Nat), i' ≤ n k ∧ i = .int .i64 i' ∧ Hid (PW w wr o b (upd (fun j => prE (Wf j) (if j < k then n j else 0) 0 0 false) k (prE (Wf k) i' 0 0 false)) eb mb n)) (fun i _ => n k - (intOf i).toNat)
      case atStart =>
        refine ⟨0, o, by omega, rfl, HP.out.cong fun j hj => ?_⟩
        by_cases h : j = k
        · subst h; rw [upd_at, if_neg (by omega)]
        · rw [upd_not _ _ h]
      case round =>
        clear HP
        obtain ⟨i, o, hi, rfl, HP⟩ := hrel
        have c1 : wr.cell? ⟨mb, k, none⟩ = some (.int .i64 (n k)) := HP.out.many.cell (L2_get _ hk2)
        have c2 : wr.cell? ⟨eb, k, none⟩ = some (.pointer (some ⟨b k, 0, none⟩)) := HP.out.es.cell (L2_get _ hk2)
        by_cases hin : i < n k
        · have hal : Step (fun _ => False) wr o (wr.alloc (.cells #[.int .u8 (i : Int)] 5)) o := (Step.refl _ _ _).alloc _
          have HP1 := Lib.hid (HP.out.step hal (fun _ _ h => h))
          obtain ⟨f1, f2⟩ := HW.out k hk2
          have e1 := prE_send (W := Wf k) (show i < 1000 by omega)
          have E1 := Lib.hid e1
          clear e1 hal
          go_wp2_with fail
          refine (send_t HP1.out.two (n := 1000) hk2 (by rw [upd_at]; exact prE_fit f1 f2 (by omega) (by omega) (by omega)) (lit_nat wr i (by omega) _)).mono ?_
          rw [upd_at, E1.out.1, E1.out.2]
          rintro e w3 ⟨rfl, o3, hs3, hT3⟩
          have HP3 := Lib.hid ((HP1.out.next hs3 (by omega) hT3).cong (E' := upd (fun j => prE (Wf j) (if j < k then n j else 0) 0 0 false) k (prE (Wf k) (i + 1) 0 0 false)) fun j hj => by
            by_cases h : j = k
            · subst h; rw [upd_at, upd_at]
            · rw [upd_not _ _ h, upd_not _ _ h, upd_not _ _ h])
          clear hs3 hT3
          go_wp2_with fail
          go_roundw
          case rel => exact ⟨i + 1, o3, by omega, by go_num, HP3.out⟩
          case measure => simp [intOf]; omega
        · have HP4 := Lib.hid (HP.out.cong (E' := fun j => prE (Wf j) (if j < k + 1 then n j else 0) 0 0 false) fun j hj => by
            by_cases h : j = k
            · subst h; rw [upd_at, if_pos (by omega), show i = n j by omega]
            · rw [upd_not _ _ h]; simp only [show (j < k + 1) = (j < k) from by simp; omega])
          go_wp2_with fail
          go_roundw
          case rel => exact ⟨k + 1, o, by omega, by go_num, HP4.out⟩
          case measure => simp [intOf]; omega
    · obtain rfl : k = 2 := by omega
      have HP0 := Lib.hid (HP.out.cong (E' := fun j => prE (Wf j) (n j) 0 0 false) fun j hj => by simp only [if_pos hj])
      clear HP hk hk2
      go_wp2_with fail
      go_loopw [13] (fun i wr => ∃ (i' : Nat) (o : Nat → Nat), i' ≤ N ∧ i = .int .i64 i' ∧ Hid (PW w wr o b (fun j => prE (Wf j) (n j) 0 0 false) eb mb n)) (fun i _ => N - (intOf i).toNat)
      case atStart => exact ⟨0, o, by omega, rfl, HP0.out⟩
      case round =>
        clear HP0
        obtain ⟨i, o, hi, rfl, HP⟩ := hrel
        go_wp2_with fail
        refine (around_any lost 5 _ (by omega) (by omega) h3.1 h3.2).mono ?_
        rw [HNL.out]
        rintro e w3 ⟨rfl, rfl⟩
        by_cases hiN : i < N
        · have hk2 : i % 2 < 2 := by omega
          have c2 : wr.cell? ⟨eb, i % 2, none⟩ = some (.pointer (some ⟨b (i % 2), 0, none⟩)) := HP.out.es.cell (L2_get _ hk2)
          obtain ⟨f1, f2⟩ := HW.out _ hk2
          have f3 := HN.out _ hk2
          go_wp2_with fail
          refine (out_t HP.out.two (n := 1000) 31 (fun _ => 0) hk2 (prE_fit f1 f2 (by omega) (by omega) (by omega)) (by omega) (by omega) (fun _ => .inl rfl) (fun _ => by omega)).mono ?_
          rintro e w3 ⟨v, rfl, o3, hs3, hT3, -⟩
          have HP3 := Lib.hid ((HP.out.next hs3 (by omega) hT3).cong (E' := fun j => prE (Wf j) (n j) 0 0 false) fun j hj => by
            by_cases h : j = i % 2
            · subst h; rw [upd_at]; rfl
            · rw [upd_not _ _ h])
          clear hs3 hT3
          go_wp2_with fail
          go_roundw
          case rel => first | exact ⟨i + 1, o3, by omega, by go_num, HP3.out⟩ | ((repeat apply Exists.intro); refine ⟨?_, rfl⟩; exact ⟨i + 1, o3, by omega, by go_num, HP3.out⟩)
          case measure => simp [intOf]; omega
        · obtain rfl : i = N := by omega
          obtain ⟨R, hR⟩ : ∃ R : Nat, ((n 0 ≤ n 1 ∧ R = n 1) ∨ (¬ n 0 ≤ n 1 ∧ R = n 0)) := ⟨max (n 0) (n 1), by omega⟩
          have HR := Lib.hid hR
          have hR40 : R ≤ 40 := by have := HN.out 0 (by omega); have := HN.out 1 (by omega); omega
          have hs3 : Step (fun _ => False) wr o (wr.alloc (.cells #[.int .i64 0, .int .i64 0] 3)) (newLab wr o 40) := Step.below ((Below.refl _ _).alloc (Nat.le_refl _) _) fun k hk => newLab_old _ _ _ hk
          have HP3 := Lib.hid (HP.out.step hs3 (fun _ _ h => h))
          have HG3 : Hid (Blk (wr.alloc (.cells #[.int .i64 0, .int .i64 0] 3)) (newLab wr o 40) 40 wr.heap.size (L2 (natV fun _ => 0))) := ⟨_, heap_alloc_new _ _, newLab_new _ _ _ (Nat.le_refl _)⟩
          obtain ⟨o3, ho3⟩ : ∃ o3, o3 = newLab wr o 40 := ⟨_, rfl⟩
          rw [← ho3] at HP3 HG3
          clear ho3 hs3 HP hR
          go_wp2_with fail
          obtain ⟨gb, hgb⟩ : ∃ gb, gb = wr.heap.size := ⟨_, rfl⟩
          rw [← hgb] at HG3 ⊢
          clear hgb
          go_loopw [15] (fun i wr => ∃ (r : Nat) (a g : Nat → Nat) (bb : Nat → Bool) (o : Nat → Nat), r ≤ R + 1 ∧ i = .int .i64 r ∧ Hid (RI n a g bb r) ∧ Hid (PW w wr o b (eF Wf n a g bb) eb mb n) ∧ Hid (Blk wr o 40 gb (L2 (natV g)))) (fun i _ => R + 1 - (intOf i).toNat)
          case atStart => exact ⟨0, _, _, _, o3, by omega, rfl, RI.start n, HP3.out, HG3.out⟩
          case round =>
            clear HP3 HG3
            obtain ⟨r, a, g, bb, o, hr, rfl, HRI, HP, HG⟩ := hrel
            have c0 : wr.cell? ⟨mb, 0, none⟩ = some (.int .i64 (n 0)) := HP.out.many.cell (L2_get (natV n) (k := 0) (by omega))
            have c1 : wr.cell? ⟨mb, 1, none⟩ = some (.int .i64 (n 1)) := HP.out.many.cell (L2_get (natV n) (k := 1) (by omega))
            go_upto_region 19 with fail
            go_cut [72] (fun s72 wx => ∃ y : Bool, Hid (y = decide (r ≤ R)) ∧ s72 = .bool y ∧ Hid (Step (fun _ => False) wr o wx o))
            case first =>
              by_cases hm : (n 0 : Int) ≤ n 1
              all_goals
                have HM := Lib.hid hm
                go_quiet (fail)
                go_wp2
                all_goals
                  go_meet
                  refine ⟨_, ?_, rfl, Step.same (Below.drewN _)⟩
                  unfold Hid
                  rw [Bool.eq_iff_iff]
                  simp only [decide_eq_true_eq]
                  have := HR.out
                  have := HM.out
                  omega
            case rest =>
              obtain ⟨y, HY, rfl, HS⟩ := hcut
              have HP1 := Lib.hid (HP.out.step HS.out (fun _ _ h => h))
              have HG1 := Lib.hid (HG.out.step HS.out (fun h => h))
              obtain ⟨wq, hwq⟩ : ∃ x, x = wc := ⟨_, rfl⟩
              subst hwq
              clear HP HG HS c0 c1
              cases y with
              | true =>
                have hrR : r ≤ R := by have := HY.out; simpa using this.symm
                clear HY
                go_wp2_with fail
                go_loopw [16] (fun s wr => ∃ (k : Nat) (a g : Nat → Nat) (bb : Nat → Bool) (o : Nat → Nat), k ≤ 2 ∧ s = .int .i64 k ∧ Hid (RP n a g bb r k) ∧ Hid (PW w wr o b (eF Wf n a g bb) eb mb n) ∧ Hid (Blk wr o 40 gb (L2 (natV g)))) (fun s _ => 2 - (intOf s).toNat)
                case atStart => exact ⟨0, a, g, bb, o, by omega, rfl, .inl ⟨rfl, HRI.out⟩, HP1.out, HG1.out⟩
                case round =>
                  clear HP1 HG1 HRI
                  obtain ⟨k, a, g, bb, o, hk, rfl, HRP, HP, HG⟩ := hrel
                  by_cases hk2 : k < 2
                  · have d2 : decide ((k : Int) < 2) = true := decide_eq_true (by omega)
                    obtain ⟨t, ht⟩ : ∃ t : Nat, t = 1 - k := ⟨_, rfl⟩
                    have hti : 1 - (k : Int) = t := by omega
                    have ht2 : t < 2 := by omega
                    have htk : t ≠ k := by omega
                    have hb1 := HRP.out.both k hk2
                    have hb2 := HRP.out.both t ht2
                    rw [← ht] at hb1
                    rw [show 1 - t = k by omega] at hb2
                    have HT := Lib.hid ht
                    clear ht
                    have c2 : wr.cell? ⟨eb, k, none⟩ = some (.pointer (some ⟨b k, 0, none⟩)) := HP.out.es.cell (L2_get _ hk2)
                    obtain ⟨f1, f2⟩ := HW.out k hk2
                    obtain ⟨f4, f5⟩ := HW.out t ht2
                    have f3 := HN.out k hk2
                    have f6 := HN.out t ht2
                    go_wp2_with fail
                    refine (out_t HP.out.two (n := 1000) 31 (fun _ => 0) hk2 (prE_fit f1 f2 (by omega) (by omega) (by omega)) (by omega) (by omega) (fun _ => .inl rfl) (fun _ => by omega)).mono ?_
                    rintro e w3 ⟨v, rfl, o3, hs3, hT3, hPr⟩
                    have HP3 : Hid (PW w w3 o3 b (eI Wf n a g bb k t 0) eb mb n) := by rw [eI_zero htk hb1.1]; exact HP.out.next hs3 (by omega) hT3
                    have HG3 : Hid (Blk w3 o3 40 gb (L2 (natV (upd g t (rG (Wf k) (n k) (a k) (g t) 0))))) := by rw [rG_zero hb1.1, upd_self]; exact HG.out.step hs3 (by omega)
                    obtain ⟨qs, hqs⟩ : ∃ qs, outP (eF Wf n a g bb k) = qs := ⟨_, rfl⟩
                    rw [hqs] at hPr
                    have hqL : qs.length = prL (Wf k) (n k) (a k) (bb k) := by rw [← hqs]; exact prE_len _ _ _ _ _
                    obtain ⟨pa, pc, rfl, hp1, hp2, -⟩ := hPr.cells
                    obtain ⟨L, hL⟩ : ∃ L, L = prL (Wf k) (n k) (a k) (bb k) := ⟨_, rfl⟩
                    rw [hqL, ← hL] at hp1 hPr ⊢
                    have hL41 : L ≤ 41 := by rw [hL]; unfold prL; split <;> (try split) <;> omega
                    have HL := Lib.hid hL
                    have HQ := Lib.hid hqs
                    have HPR := Lib.hid hPr
                    clear hs3 hT3 hPr hqs hqL hL HP HG
                    go_wp2_with fail
                    go_loopw [18] (fun s wr => ∃ (i : Nat) (o : Nat → Nat), i ≤ L ∧ s = .int .i64 i ∧ Hid (PW w wr o b (eI Wf n a g bb k t i) eb mb n) ∧ Hid (Blk wr o 40 gb (L2 (natV (upd g t (rG (Wf k) (n k) (a k) (g t) i))))) ∧ Hid (PRow wr o (fun _ => 0) 31 (.slice pa L pc) qs)) (fun s _ => L - (intOf s).toNat)
                    case atStart => exact ⟨0, o3, by omega, rfl, HP3.out, HG3.out, HPR.out⟩
                    case round =>
                      clear HP3 HG3 HPR c2
                      obtain ⟨i, o, hi, rfl, HP, HG, HPR⟩ := hrel
                      by_cases hiL : i < L
                      · have hstep := recv_step (W := Wf k) (n := n k) (a := a k) (gs := g k) (Wr := Wf t) (nr := n t) (ar := a t) (gr := g t) (bs := bb k) (br := bb t) hb1.1 hb1.2 hb2.1 hb2.2 (by omega) (i := i) (by rw [← HL.out]; exact hiL)
                        obtain ⟨q, hq1, hq2, hq3⟩ := hstep
                        obtain ⟨pg, ma, mc, rfl, -, -, e0, e1, e2, hd⟩ := HPR.out.at (by rw [← HQ.out]; exact hq1)
                        have c3 : wr.cell? ⟨eb, t, none⟩ = some (.pointer (some ⟨b t, 0, none⟩)) := HP.out.es.cell (L2_get _ ht2)
                        have HQ1 := Lib.hid hq1
                        have HQ2 := Lib.hid hq2
                        have HQ3 := Lib.hid hq3
                        have HD := Lib.hid hd
                        clear hq1 hq2 hq3 hd
                        go_upto_region 28 with fail
                        have wr1 : IntKind.i64.wrap (1 - (k : Int)) = t := by rw [IntWalk.i64_in _ (by omega)]; omega
                        have wr0 : IntKind.i64.wrap (t : Int) = t := IntWalk.i64_in _ (by omega)
                        have wr2 : (t : Int) < 2 := by omega
                        have wr3 : (0 : Int) ≤ (t : Int) := by omega
                        have wr4 : (i : Int) < (L : Int) := by omega
                        have wr5 : (0 : Int) ≤ (i : Int) := by omega
                        go_still_tail 9, (by kernel_rfl)
                        change wpList _ _ _ _ _ wr.drew
                        have hsd : Step (fun _ => False) wr o wr.drew o := (Step.refl _ _ _).drew
                        obtain ⟨wd, hwd⟩ : ∃ wd, wd = wr.drew := ⟨_, rfl⟩
                        rw [← hwd] at hsd ⊢
                        clear hwd wr0 wr1 wr2 wr3 wr4 wr5 e0 e1 e2 c3
                        have HPd := Lib.hid (HP.out.step hsd (fun _ _ h => h))
                        have HGd := Lib.hid (HG.out.step hsd (fun h => h))
                        have HPRd := Lib.hid (HPR.out.step hsd (fun h => h) (fun _ _ h => h))
                        have HDd := Lib.hid (HD.out.step hsd (fun h => h))
                        clear hsd HP HG HPR HD
                        have hfit : Fit (eI Wf n a g bb k t i t) 1000 := by
                          rw [eI_t]
                          have hA : rA (a t) (g k) i ≤ 1000 := by unfold rA; split <;> omega
                          have hG : rG (Wf k) (n k) (a k) (g t) i ≤ 1000 := by unfold rG; split <;> omega
                          exact prE_fit f4 f5 (by omega) hA hG
                        have HF := Lib.hid hfit
                        clear hfit
                        go_wp2_with fail
                        refine (in_t HPd.out.two q 0 32 ht2 HF.out (by omega) HDd.out (.inl rfl) (by omega) (by omega)).mono ?_
                        rintro e w4 ⟨v, rfl, o4, hs4, hT4, hx⟩
                        have HP4 : Hid (PW w w4 o4 b (eI Wf n a g bb k t (i + 1)) eb mb n) := by
                          have h := HPd.out.next hs4 (by omega) hT4
                          have e : upd (eI Wf n a g bb k t i) t (inE (eI Wf n a g bb k t i t) q) = eI Wf n a g bb k t (i + 1) := by
                            rw [eI_t, HQ2.out]; unfold eI; rw [upd_upd]
                          rw [e] at h
                          exact h
                        have HG4 := Lib.hid (HGd.out.step hs4 (by omega))
                        have HPR4 := Lib.hid (HPRd.out.step hs4 (by omega) (fun _ _ => by omega))
                        obtain ⟨X, hX⟩ : ∃ X, inO (eI Wf n a g bb k t i t) q = X := ⟨_, rfl⟩
                        rw [hX] at hx
                        obtain ⟨G, hG⟩ : ∃ G, rG (Wf k) (n k) (a k) (g t) i = G := ⟨_, rfl⟩
                        have hXX : X.length ≤ 1 ∧ rG (Wf k) (n k) (a k) (g t) (i + 1) = G + X.length ∧ ∀ j m, X[j]? = some m → j = 0 ∧ m = [UInt8.ofNat G] ∧ G < n k := by
                          have h := HQ3.out
                          rw [← hX, ← hG]
                          rw [eI_t]
                          rcases h with ⟨h1, h2⟩ | ⟨h1, h2, h3⟩
                          · rw [h1, h2]; exact ⟨by simp, rfl, fun j m h => by simp at h⟩
                          · rw [h1, h2]
                            refine ⟨by simp, rfl, fun j m h => ?_⟩
                            cases j with
                            | zero => simp at h; exact ⟨rfl, h.symm, h3⟩
                            | succ j => simp at h
                        obtain ⟨xa, xc, rfl, hx1, hx2, -⟩ := hx.cells
                        rw [hG] at HG4
                        have HX := Lib.hid hx
                        have HXX := Lib.hid hXX
                        have hX1 := hXX.1
                        clear hX hG hXX hx hs4 hT4 HPd HGd HPRd HDd HF HQ1 HQ2 HQ3
                        obtain ⟨xl, hxl⟩ : ∃ xl, X.length = xl := ⟨_, rfl⟩
                        rw [hxl] at hX1 hx1 HXX HX ⊢
                        have HXL := Lib.hid hxl
                        clear hxl
                        go_wp2_with fail
                        go_loopw [20] (fun s wr => ∃ (j : Nat) (o : Nat → Nat), j ≤ xl ∧ s = .int .i64 j ∧ Hid (PW w wr o b (eI Wf n a g bb k t (i + 1)) eb mb n) ∧ Hid (Blk wr o 40 gb (L2 (natV (upd g t (G + j))))) ∧ Hid (PRow wr o (fun _ => 0) 31 (.slice (some ⟨pg, 0, none⟩) L pc) qs) ∧ Hid (MRow wr o 32 (.slice xa xl xc) X)) (fun s _ => xl - (intOf s).toNat)
                        case atStart => exact ⟨0, o4, by omega, rfl, HP4.out, HG4.out, HPR4.out, HX.out⟩
                        case round =>
                          clear HP4 HG4 HPR4 HX
                          obtain ⟨j, o, hj, rfl, HP, HG, HPR, HX⟩ := hrel
                          by_cases hjx : j < xl
                          · have hjX : X[j]? = some (X[j]'(by rw [HXL.out]; exact hjx)) := List.getElem?_eq_getElem _
                            obtain ⟨hj0, hm, hGn⟩ := HXX.out.2.2 j _ hjX
                            rw [hm] at hjX
                            clear hm
                            obtain ⟨xg, ma, mc, rfl, -, -, e0, hd⟩ := HX.out.at hjX
                            obtain ⟨mbk, mo, rfl⟩ := hd.slice.addr (by simp)
                            have e1 : wr.cell? ⟨mbk, mo, none⟩ = some (.int .u8 (G : Int)) := by
                              have := hd.slice.byteV (i := 0) (by simp)
                              have e1 : (UInt8.ofNat G).toNat = G := by rw [UInt8.toNat_ofNat']; omega
                              simpa [e1] using this
                            have e2 : wr.cell? ⟨gb, t, none⟩ = some (.int .i64 (G : Int)) := by
                              have := HG.out.cell (L2_get (natV (upd g t (G + j))) ht2)
                              rw [show natV (upd g t (G + j)) t = .int .i64 ((G + j : Nat) : Int) from by unfold natV; rw [upd_at], hj0] at this
                              exact this
                            have e3 : wr.frozen? ⟨gb, t, none⟩ = false := HG.out.frozen t
                            have hd1 := hd.slice.le
                            simp only [List.length_map, List.length_cons, List.length_nil] at e0 hd1
                            have HJ0 := Lib.hid hj0
                            clear hj0 hjX hd
                            go_upto_region 32 with fail
                            have wr1 : IntKind.i64.wrap (1 - (k : Int)) = t := by rw [IntWalk.i64_in _ (by omega)]; omega
                            have wr0 : IntKind.i64.wrap (t : Int) = t := IntWalk.i64_in _ (by omega)
                            have wr2 : (t : Int) < 2 := by omega
                            have wr3 : (0 : Int) ≤ (t : Int) := by omega
                            have wr4 : (j : Int) < (xl : Int) := by omega
                            have wr5 : (0 : Int) ≤ (j : Int) := by omega
                            have wr6 : (0 : Int) < 1 := by omega
                            go_quiet (fail)
                            clear wr0 wr1 wr2 wr3 wr4 wr5
                            go_wp2_with fail
                            have hsn : Step (fun _ => False) wr o (wr.drewN nq) o := Step.same (Below.drewN nq)
                            have hgd := HG.out.step hsn (fun h => h)
                            have hss : Step (· = 40) (wr.drewN nq) o ((wr.drewN nq).setCell ⟨gb, t, none⟩ (.int .i64 ((G : Int) + 1))) o := (Step.refl _ _ _).set (p := ⟨gb, t, none⟩) hgd.lab _
                            have hgs := hgd.set t (.int .i64 ((G : Int) + 1))
                            rw [L2_set _ ht2, natV_upd, upd_upd] at hgs
                            have hs' := (hsn.mono (L' := (· = 40)) fun _ h => h.elim).trans hss
                            have e9 : upd (natV g) t (Value.int .i64 ((G : Int) + 1)) = natV (upd g t (G + (j + 1))) := by
                              rw [natV_upd, HJ0.out]; rfl
                            rw [e9] at hgs
                            have HP9 := Lib.hid (HP.out.step hs' (by omega))
                            have HPR9 := Lib.hid (HPR.out.step hs' (by omega) (fun _ _ => by omega))
                            have HX9 := Lib.hid (HX.out.step hs' (by omega) (by omega))
                            have HG9 := Lib.hid hgs
                            clear hsn hgd hss hgs hs' e9
                            go_roundw
                            case rel => first | exact ⟨j + 1, o, by omega, by go_num, HP9.out, HG9.out, HPR9.out, HX9.out⟩ | ((repeat apply Exists.intro); refine ⟨?_, rfl⟩; exact ⟨j + 1, o, by omega, by go_num, HP9.out, HG9.out, HPR9.out, HX9.out⟩)
                            case measure => simp [intOf]; omega
                          · obtain rfl : j = xl := by omega
                            have HG9 : Hid (Blk wr o 40 gb (L2 (natV (upd g t (rG (Wf k) (n k) (a k) (g t) (i + 1)))))) := by rw [HXX.out.2.1]; exact HG.out
                            go_wp2_with fail
                            go_roundw
                            case rel => first | exact ⟨i + 1, o, by omega, by go_num, HP.out, HG9.out, HPR.out⟩ | ((repeat apply Exists.intro); refine ⟨?_, rfl⟩; exact ⟨i + 1, o, by omega, by go_num, HP.out, HG9.out, HPR.out⟩)
                            case measure => simp [intOf]; omega
                      · obtain rfl : i = L := by omega
                        have HRP9 := Lib.hid (HRP.out.step hk2 (fun j hj => (HW.out j hj).1))
                        rw [← HT.out, ← HL.out] at HRP9
                        have HP9 := Lib.hid (HP.out.cong (E' := eF Wf n (upd a t (rA (a t) (g k) i)) (upd g t (rG (Wf k) (n k) (a k) (g t) i)) (upd (upd bb k false) t (rB (Wf k) (n k) (a k) (bb t) i))) fun j hj => by
                          have hj : j = t ∨ j = k := by have := HT.out; omega
                          rcases hj with rfl | rfl
                          · rw [eI_t]; unfold eF; rw [upd_at, upd_at, upd_at]
                          · unfold eI eF; rw [upd_not _ _ (fun e => htk e.symm), upd_not _ _ (fun e => htk e.symm), upd_not _ _ (fun e => htk e.symm), upd_not _ _ (fun e => htk e.symm), upd_at, upd_at])
                        go_wp2_with fail
                        go_roundw
                        case rel => first | exact ⟨k + 1, _, _, _, o, by omega, by go_num, HRP9.out, HP9.out, HG.out⟩ | ((repeat apply Exists.intro); refine ⟨?_, rfl⟩; exact ⟨k + 1, _, _, _, o, by omega, by go_num, HRP9.out, HP9.out, HG.out⟩)
                        case measure => simp [intOf]; omega
                  · obtain rfl : k = 2 := by omega
                    have HRI9 : Hid (RI n a g bb (r + 1)) := by
                      rcases HRP.out with ⟨h, _⟩ | ⟨h, _⟩ | ⟨_, h⟩
                      · omega
                      · omega
                      · exact h
                    go_wp2_with fail
                    go_roundw
                    case rel => first | exact ⟨r + 1, a, g, bb, o, by omega, by go_num, HRI9.out, HP.out, HG.out⟩ | ((repeat apply Exists.intro); refine ⟨?_, rfl⟩; exact ⟨r + 1, a, g, bb, o, by omega, by go_num, HRI9.out, HP.out, HG.out⟩)
                    case measure => simp [intOf]; omega
              | false =>
                have hrR : R < r := by have := HY.out; simp at this; omega
                have hdone := HRI.out.done (by have := HR.out; omega) (by have := HR.out; omega)
                obtain ⟨d1, d2, d3, d4⟩ := hdone
                have c0 : wq.cell? ⟨mb, 0, none⟩ = some (.int .i64 (n 0)) := HP1.out.many.cell (L2_get (natV n) (k := 0) (by omega))
                have c1 : wq.cell? ⟨mb, 1, none⟩ = some (.int .i64 (n 1)) := HP1.out.many.cell (L2_get (natV n) (k := 1) (by omega))
                have p0 : wq.cell? ⟨eb, 0, none⟩ = some (.pointer (some ⟨b 0, 0, none⟩)) := HP1.out.es.cell (L2_get (ptrV b) (k := 0) (by omega))
                have p1 : wq.cell? ⟨eb, 1, none⟩ = some (.pointer (some ⟨b 1, 0, none⟩)) := HP1.out.es.cell (L2_get (ptrV b) (k := 1) (by omega))
                have q0 : wq.cell? ⟨gb, 0, none⟩ = some (.int .i64 (n 1)) := by rw [← d1]; exact HG1.out.cell (L2_get (natV g) (k := 0) (by omega))
                have q1 : wq.cell? ⟨gb, 1, none⟩ = some (.int .i64 (n 0)) := by rw [← d2]; exact HG1.out.cell (L2_get (natV g) (k := 1) (by omega))
                have w0 : (eF Wf n a g bb 0).waiting.length = 0 := by unfold eF; rw [prE_wait, d3]; omega
                have w1' : (eF Wf n a g bb 1).waiting.length = 0 := by unfold eF; rw [prE_wait, d4]; omega
                have W0 := Lib.hid w0
                have W1 := Lib.hid w1'
                clear d1 d2 d3 d4 w0 w1' HY HG1
                have hsd : Step (fun _ => False) wq o wq.drew o := (Step.refl _ _ _).drew
                have HPd := Lib.hid (HP1.out.step hsd (fun _ _ h => h))
                have k0 : Hid (Calls Try.prog 23 #[.pointer (some ⟨b 0, 0, none⟩)] wq.drew fun e w'' => e = .returned (.int .i64 0) ∧ w'' = wq.drew) :=
                  (waiting_t HPd.out.two (k := 0) (by omega)).mono fun e w' ⟨h1, h2⟩ => ⟨by rw [h1, W0.out]; rfl, h2.symm⟩
                have k1 : Hid (Calls Try.prog 23 #[.pointer (some ⟨b 1, 0, none⟩)] wq.drew fun e w'' => e = .returned (.int .i64 0) ∧ w'' = wq.drew) :=
                  (waiting_t HPd.out.two (k := 1) (by omega)).mono fun e w' ⟨h1, h2⟩ => ⟨by rw [h1, W1.out]; rfl, h2.symm⟩
                clear hsd
                go_upto_region 35 with fail
                go_still_tail 31, (by kernel_rfl)
                still_call k0.out
                repeat still_step
                still_call k1.out
                repeat still_step
                try refine wpStill_nil ?_
                change wpList _ _ _ _ _ wq.drew
                obtain ⟨wd, hwd⟩ : ∃ wd, wd = wq.drew := ⟨_, rfl⟩
                rw [← hwd] at HPd ⊢
                clear hwd k0 k1 c0 c1 p0 p1 q0 q1
                go_wp2_with fail
                refine (lives_any wd).mono ?_
                rintro e w9 ⟨rfl, hb9⟩
                go_wp2_with fail
                go_ret
                exact ⟨rfl, HPd.out.two.below.trans (hb9.mono HPd.out.two.since.size)⟩
end Go.Proofs.Ytmonpnikdheokaa
