/-
  The law's example (lives) of package schemalenslaw37.
-/
import Derived.Test.YtaonhmdifinadaaSesG
import Derived.Test.YtaonhmdifinadaaSesH
namespace Go.Proofs.Ytaonhmdifinadaa
open Go Go.Proofs
open Go.RowKit
set_option linter.unusedVariables false
set_option linter.unusedSimpArgs false

def lr1 : Rq := ⟨1, 0, ⟨#[97]⟩, 3, 0, ⟨#[]⟩⟩
def lr2 : Rq := ⟨2, 0, ⟨#[97]⟩, 3, 0, ⟨#[]⟩⟩
def lr3 : Rq := ⟨3, 0, ⟨#[97]⟩, 4, 0, ⟨#[]⟩⟩
def lvv : List Vn := [⟨⟨#[97]⟩, 4⟩]
def lS1 : SesS := ⟨[lr1], false, 1, []⟩
def lS2 : SesS := ⟨[lr1, lr2], false, 2, []⟩
def lS3 : SesS := ⟨[lr1, lr2, lr3], false, 3, []⟩
def lS4 : SesS := ⟨[lr3], true, 3, [⟨1, 17, 3, ByteArray.empty⟩, ⟨2, 17, 3, ByteArray.empty⟩]⟩
def lS5 : SesS := ⟨[], false, 3, [⟨1, 17, 3, ByteArray.empty⟩, ⟨2, 17, 3, ByteArray.empty⟩, ⟨3, 18, 4, ByteArray.empty⟩]⟩
theorem lv1 : begE newS lr1 = 0 ∧ begS newS lr1 = lS1 := ⟨by kernel_rfl, by kernel_rfl⟩
theorem lv2 : begE lS1 lr2 = 0 ∧ begS lS1 lr2 = lS2 := ⟨by kernel_rfl, by kernel_rfl⟩
theorem lv3 : begE lS2 lr3 = 0 ∧ begS lS2 lr3 = lS3 := ⟨by kernel_rfl, by kernel_rfl⟩
theorem lv4 : nextO lS3 lvv = some lr3 ∧ nextS lS3 lvv = lS4 := ⟨by kernel_rfl, by kernel_rfl⟩
theorem lv5 : canE lS4 3 = 0 ∧ canS lS4 3 = lS5 := ⟨by kernel_rfl, by kernel_rfl⟩
theorem lv6 : finE lS5 3 = 7 ∧ finS lS5 3 0 ⟨#[120]⟩ lvv = lS5 := ⟨by kernel_rfl, by kernel_rfl⟩
theorem gd1 : Good lS1 := lv1.2 ▸ good_beg good_new _
theorem gd2 : Good lS2 := lv2.2 ▸ good_beg gd1 _
theorem gd3 : Good lS3 := lv3.2 ▸ good_beg gd2 _
theorem gd4 : Good lS4 := lv4.2 ▸ good_next gd3 _
theorem gd5 : Good lS5 := lv5.2 ▸ good_can gd4 _

theorem lvv_new (w : World) (e : Nat) : RecAt vnC 2 (w.alloc (.cells #[.string ⟨#[97]⟩, .int .i64 4] e)) (some ⟨w.heap.size, 0, none⟩) 1 lvv :=
  rec_new (f := vnC) (z := 2) vnZ (w := w) (xs := lvv) (e := e) (by decide)

set_option maxRecDepth 100000 in
set_option maxHeartbeats 2000000 in
theorem lives_any (w : World) : Calls Try.prog 24 #[] w fun e w' => e = .returned (.bool true) ∧ Below w.heap.size w w' := by
  go_enter Try.func24, Try.ntmps24
  go_wp2_with fail
  refine (snew_any 1 w (fun _ => 0)).mono ?_
  rintro e w1 ⟨b, rfl, o1, hs1, hS1⟩
  have HT1 := Lib.hid (hs1.mono (L' := Own 1) fun _ h => h.elim)
  have K1 := Lib.hid (begin_any 1 b newS lr1 w1 o1 (by omega) hS1 good_new (by decide) (by decide))
  clear hs1 hS1
  go_wp2_with fail
  refine K1.out.mono ?_
  rw [lv1.1, lv1.2]
  rintro e w2 ⟨rfl, o2, hs2, hS2⟩
  have HT2 := Lib.hid (HT1.out.trans hs2)
  have K2 := Lib.hid (begin_any 1 b lS1 lr2 w2 o2 (by omega) hS2 gd1 (by decide) (by decide))
  clear hs2 hS2 K1 HT1
  go_wp2_with fail
  refine K2.out.mono ?_
  rw [lv2.1, lv2.2]
  rintro e w3 ⟨rfl, o3, hs3, hS3⟩
  have HT3 := Lib.hid (HT2.out.trans hs3)
  have K3 := Lib.hid (begin_any 1 b lS2 lr3 w3 o3 (by omega) hS3 gd2 (by decide) (by decide))
  clear hs3 hS3 K2 HT2
  go_wp2_with fail
  refine K3.out.mono ?_
  rw [lv3.1, lv3.2]
  rintro e w4 ⟨rfl, o4, hs4, hS4⟩
  have HT4 := Lib.hid (HT3.out.trans hs4)
  have HS4 := Lib.hid hS4
  clear hs4 hS4 K3 HT3
  go_wp2_with fail
  obtain ⟨w5, hw5⟩ : ∃ x, x = w4.alloc (.cells #[.string ⟨#[97]⟩, .int .i64 4] 34) := ⟨_, rfl⟩
  rw [← hw5]
  have hs5 : Step (fun _ => False) w4 o4 w5 (newLab w4 o4 0) := by rw [hw5]; exact Step.newBlk _ _ _
  have hx5 : RecD vnC 2 w5 (newLab w4 o4 0) 0 (some ⟨w4.heap.size, 0, none⟩) 1 lvv := by
    rw [hw5]
    exact ⟨lvv_new w4 _, fun _ b off h => by simp at h; obtain ⟨rfl, rfl⟩ := h; exact ⟨newLab_new _ _ _ (Nat.le_refl _), by simp⟩⟩
  have HT5 := Lib.hid (HT4.out.trans (hs5.mono fun _ h => h.elim))
  have K5 := Lib.hid (next_any 1 b 0 lS3 _ _ lvv w5 _ (by omega) (HS4.out.step hs5 fun _ _ h => h) (by decide) (by decide) hx5 (by unfold Own; omega))
  clear hw5 hs5 hx5 HT4 HS4
  refine K5.out.mono ?_
  rw [lv4.1, lv4.2]
  rintro e w6 ⟨⟨r, hr, hret⟩, o6, hs6, hS6⟩
  have hret' : e = .returned (.tuple #[.agg #[.int .i64 3, .int .i64 0, .string ⟨#[97]⟩, .int .i64 4, .int .i64 0, .string ⟨#[]⟩], .bool true]) := by rw [hret, show r = lr3 from hr]; rfl
  subst hret'
  clear hret hr
  obtain ⟨w7, hw7⟩ : ∃ x, x = w6.alloc (.cells #[.int .i64 3, .int .i64 0, .string ⟨#[97]⟩, .int .i64 4, .int .i64 0, .string ⟨#[]⟩] 44) := ⟨_, rfl⟩
  have hs7 : Step (fun _ => False) w6 o6 w7 (newLab w6 o6 0) := by rw [hw7]; exact Step.newBlk _ _ _
  have hb7 : Blk w7 (newLab w6 o6 0) 0 w6.heap.size [.int .i64 3, .int .i64 0, .string ⟨#[97]⟩, .int .i64 4, .int .i64 0, .string ⟨#[]⟩] := by
    rw [hw7]; exact ⟨_, heap_alloc_new _ _, newLab_new _ _ _ (Nat.le_refl _)⟩
  have HT7 := Lib.hid ((HT5.out.trans hs6).trans (hs7.mono fun _ h => h.elim))
  have K7 := Lib.hid (cancel_any 1 b lS4 3 w7 _ (by omega) (hS6.step hs7 fun _ _ h => h) (by decide) (by decide))
  have HB7 := Lib.hid hb7
  have HW7 := Lib.hid hw7
  clear hs6 hs7 hS6 hw7 hb7 K5 HT5
  go_wp2_with fail
  rw [← HW7.out]
  refine K7.out.mono ?_
  rw [lv5.1, lv5.2]
  rintro e w8 ⟨rfl, o8, hs8, hS8⟩
  have HT8 := Lib.hid (HT7.out.trans hs8)
  have HB8 := Lib.hid (HB7.out.step hs8 (by unfold Own; omega))
  have HS8 := Lib.hid hS8
  clear hs8 hS8 K7 HT7 HB7 HW7
  go_wp2_with fail
  obtain ⟨w9, hw9⟩ : ∃ x, x = w8.alloc (.cells #[.string ⟨#[97]⟩, .int .i64 4] 34) := ⟨_, rfl⟩
  rw [← hw9]
  have hb9 : Below w8.heap.size w8 w9 := by rw [hw9]; exact (Below.refl _ _).alloc (Nat.le_refl _) _
  have hx9 : RecAt vnC 2 w9 (some ⟨w8.heap.size, 0, none⟩) 1 lvv := by rw [hw9]; exact lvv_new w8 _
  have HT9 := Lib.hid (HT8.out.trans (Step.same hb9))
  have HB9 := Lib.hid (HB8.out.step (Step.same (L := fun _ => False) hb9) (fun h => h))
  have K9 := Lib.hid (finish_any 1 b 0 lS5 3 0 ⟨#[120]⟩ _ _ lvv w9 o8 (by omega) (HS8.out.same hb9) (by decide) (by decide) (by decide) hx9)
  clear hw9 hb9 hx9 HT8 HB8 HS8
  refine K9.out.mono ?_
  rw [lv6.1, lv6.2]
  rintro e w10 ⟨rfl, o10, hs10, hS10⟩
  have HT10 := Lib.hid (HT9.out.trans hs10)
  have HB10 := Lib.hid (HB9.out.step hs10 (by unfold Own; omega))
  have HS10 := Lib.hid hS10
  clear hs10 hS10 HT9 HB9 K9
  go_wp2_with fail
  refine (answers_any 1 b lS5 w10 o10 (by omega) HS10.out).mono ?_
  rintro e w11 ⟨v, rfl, hs11, hS11, hrow⟩
  obtain ⟨a, c, rfl, hrec⟩ := hrow.at
  have HT11 := Lib.hid (HT10.out.trans hs11)
  have hb11 := HB10.out.step hs11 (by unfold Own; omega)
  obtain ⟨g0, g1, g2, g3, g4, g5⟩ := hb11.six
  obtain ⟨ab, off, rfl⟩ := RecAt.addr anZ (by decide) hrec (by decide)
  obtain ⟨p0, p1, p2, p3⟩ := Ans.cells hrec (k := 1) rfl
  obtain ⟨q0, q1, q2, q3⟩ := Ans.cells hrec (k := 2) rfl
  simp only [Nat.one_mul, Nat.zero_add, Nat.zero_mul, Nat.reduceMul] at p0 p1 q0 q1
  have hle := hrec.le
  have hcl := hrec.cap_le
  have hl3 : lS5.an.length = 3 := rfl
  rw [hl3] at hle ⊢
  clear hs11 hS11 hrow hrec hb11 HT10 HB10 HS10 hl3 p2 p3 q2 q3
  go_wp2_with fail
  go_ret
  exact ⟨rfl, HT11.out.toBelow (Nat.le_refl _) fun k _ => by unfold Own; omega⟩
end Go.Proofs.Ytaonhmdifinadaa
