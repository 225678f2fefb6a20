/-
  The code of a packet: channel.Encode; the plain data of the codes.
-/
import Derived.Test.YtmonpnikdheokaaChanB
import Derived.Test.YtmonpnikdheokaaRdEnc
import Derived.Test.YtmonpnikdheokaaWireAR
import Derived.Test.YtmonpnikdheokaaHash
import Derived.Test.YtmonpnikdheokaaHashInj
namespace Go.Proofs.Ytmonpnikdheokaa
open Go Go.Proofs
open Go.RowKit
set_option linter.unusedVariables false
set_option linter.unusedSimpArgs false

def labP : List UInt8 := [112, 97, 99, 107, 101, 116]
theorem sumI_lo (l : List UInt8) (xs : List Int) : 0 ≤ sumI l xs := by
  unfold sumI; exact mixI_lo _ _
theorem sumI_hi (l : List UInt8) (xs : List Int) : sumI l xs ≤ 18446744073709551615 := by
  unfold sumI; exact mixI_hi _ _
def sumP (c : List UInt8) : Nat := (bytesI labP c).toNat
theorem sumP_eq (c : List UInt8) : bytesI labP c = ((sumP c : Nat) : Int) := by
  have := sumI_lo labP ((wordsN c).map wordI ++ [(c.length : Int)])
  unfold sumP bytesI
  omega
theorem sumP_lt (c : List UInt8) : sumP c < 18446744073709551616 := by
  have h := sumI_hi labP ((wordsN c).map wordI ++ [(c.length : Int)])
  have h0 := sumI_lo labP ((wordsN c).map wordI ++ [(c.length : Int)])
  unfold sumP bytesI
  omega
def coreP (p : Pkt) : List UInt8 := (([] ++ encI p.seq) ++ encI p.ack) ++ encR p.b
def wholeP (c : List UInt8) : List UInt8 := ([] ++ encR c) ++ encU (sumP c)
def codeP (p : Pkt) : List UInt8 := if pvalid p = true then wholeP (coreP p) else []
def errP (ok : Bool) : Int := if ok = true then 0 else 1
theorem encR_len (l : List UInt8) (h : l.length ≤ 1000000) : (encR l).length ≤ 10 + l.length := by
  unfold encR
  rw [List.length_append]
  have := encU_len10 (n := l.length) (by omega)
  omega
theorem coreP_len (p : Pkt) (h1 : -9223372036854775808 ≤ p.seq ∧ p.seq ≤ 9223372036854775807) (h2 : -9223372036854775808 ≤ p.ack ∧ p.ack ≤ 9223372036854775807) (hl : p.b.length ≤ 1000000) : (coreP p).length ≤ 30 + p.b.length := by
  unfold coreP
  have a1 := encI_len p.seq h1.1 h1.2
  have a2 := encI_len p.ack h2.1 h2.2
  have a3 := encR_len p.b hl
  simp only [List.length_append, List.length_nil]
  omega
theorem wholeP_len (c : List UInt8) (hl : c.length ≤ 1000000) : (wholeP c).length ≤ 20 + c.length := by
  unfold wholeP
  have a1 := encR_len c hl
  have a2 := encU_len10 (sumP_lt c)
  simp only [List.length_append, List.length_nil]
  omega
theorem ownsRow_lower {w : World} {b b' : Nat} {e : TypeId} {size : Nat} {v : Value} {n : Nat} {xs : List Value} (h : w.ownsRow b e size v n xs) (hb : b' ≤ b) : w.ownsRow b' e size v n xs := by
  refine ⟨h.1, ?_⟩
  rcases h.2 with hn | ⟨g, cap, cur, rfl, hg, rest⟩
  · exact .inl hn
  · exact .inr ⟨g, cap, cur, rfl, Nat.le_trans hb hg, rest⟩
theorem Step.blkNew {w : World} {o : Nat → Nat} (L : Nat → Prop) (x : Obj) (j : Nat) : Step L w o (w.alloc x) (newLab w o j) := Step.below ((Below.refl _ w).alloc (Nat.le_refl _) x) fun k hk => newLab_old w o j hk
def OwnTwo (l : Nat) : Prop := Own 1 l ∨ Own 2 l
theorem bytesP (a : Option Addr) (c n : Nat) (bs : List UInt8) (w : World) (hx : SliceAt w a c (bs.map byteV)) (hn : bs.length = n) (hl : n ≤ 1000000000) :
    Calls Try.prog 51 #[.string ⟨#[112, 97, 99, 107, 101, 116]⟩, .slice a n c] w fun e w' => e = .returned (.int .u64 ((sumP bs : Nat) : Int)) ∧ Below w.heap.size w w' := by
  subst hn
  have h := bytes_any ⟨#[112, 97, 99, 107, 101, 116]⟩ a c bs w (by decide) hx hl
  rw [← sumP_eq]
  exact h

set_option maxRecDepth 100000 in
set_option maxHeartbeats 4000000 in
theorem chenc_any (p : Pkt) (a : Option Addr) (c : Nat) (w : World) (h1 : -9223372036854775808 ≤ p.seq ∧ p.seq ≤ 9223372036854775807) (h2 : -9223372036854775808 ≤ p.ack ∧ p.ack ≤ 9223372036854775807) (hx : SliceAt w a c (p.b.map byteV)) (hl : p.b.length ≤ 9223372036854775807) :
    Calls Try.prog 40 #[.agg #[.int .i64 p.seq, .int .i64 p.ack, .slice a p.b.length c]] w fun e w' => ∃ v, e = .returned (.tuple #[v, .int .i64 (errP (pvalid p))]) ∧ w'.ownsRow w.heap.size 5 1 v (codeP p).length ((codeP p).map byteV) ∧ Below w.heap.size w w' := by
  have kv := fun W => valid_any p.seq p.ack a c p.b W hl
  have hok : pvalid p = true → p.b.length ≤ 65536 := by
    intro h
    unfold pvalid at h
    simp at h
    omega
  obtain ⟨C, hC⟩ : ∃ C, codeP p = C := ⟨_, rfl⟩
  rw [hC]
  unfold codeP at hC
  obtain ⟨q, k, b⟩ := p
  simp only at kv hok h1 h2 hx hl
  obtain ⟨ok, hokk⟩ : ∃ x, pvalid ⟨q, k, b⟩ = x := ⟨_, rfl⟩
  rw [hokk] at hC hok ⊢
  simp only [hokk] at kv
  obtain ⟨n, hn⟩ : ∃ n, b.length = n := ⟨_, rfl⟩
  simp only [hn] at kv hok hl ⊢
  obtain ⟨w1, hw1⟩ : ∃ x, x = w.alloc (.cells #[.int .i64 q, .int .i64 k, .slice a n c] 44) := ⟨_, rfl⟩
  have hb1 : Blk w1 (fun _ => 0) 0 w.heap.size [.int .i64 q, .int .i64 k, .slice a n c] := by rw [hw1]; exact ⟨_, heap_alloc_new _ _, rfl⟩
  have hB1 : Below w.heap.size w w1 := by rw [hw1]; exact (Below.refl _ w).alloc (Nat.le_refl _) _
  have HP1 := Lib.hid (hx.below hB1)
  have HC := Lib.hid hC
  have HOK := Lib.hid hok
  have KV := Lib.hid kv
  have HW1 := Lib.hid hw1
  have HB1 := Lib.hid hB1
  have HX1 := Lib.hid hb1
  have HN := Lib.hid hn
  obtain ⟨gb, hgb⟩ : ∃ g, w.heap.size = g := ⟨_, rfl⟩
  rw [hgb] at HX1
  clear hC hok kv hw1 hB1 hb1 hokk hx hn
  go_enter Try.func40, Try.ntmps40
  go_wp2_with fail
  rw [← HW1.out]
  refine (KV.out w1).mono ?_
  rintro e w2 ⟨rfl, hb2⟩
  have HX2 := Lib.hid (HX1.out.step (Step.same (L := fun _ => False) hb2) fun h => h)
  have HP2 := Lib.hid (HP1.out.below hb2)
  have HB2 := Lib.hid (Below.step HB1.out hb2)
  clear hb2 HX1 HB1 HW1 KV HP1
  cases ok with
  | false =>
    have hC := HC.out
    rw [if_neg (by decide)] at hC
    subst hC
    go_wp2_with fail
    go_ret2
    rw [← hgb]
    exact ⟨_, rfl, World.ownsRow_nil _ _ _ _, HB2.out⟩
  | true =>
    have hC := HC.out
    rw [if_pos rfl] at hC
    have HC2 := Lib.hid hC
    have ho := HOK.out rfl
    clear hC HC HOK
    obtain ⟨w3, hw3⟩ : ∃ x, x = w2.alloc (.cells #[.slice none 0 0] 72) := ⟨_, rfl⟩
    obtain ⟨o3, ho3⟩ : ∃ x, newLab w2 (fun _ => 0) (10 * 1) = x := ⟨_, rfl⟩
    have hs3 : Step (fun _ => False) w2 (fun _ => 0) w3 o3 := by rw [hw3, ← ho3]; exact Step.blkNew _ _ _
    have hW3 : WrAt w3 o3 1 w2.heap.size [] := ⟨.slice none 0 0, by rw [hw3, ← ho3]; exact ⟨_, heap_alloc_new _ _, newLab_new _ _ _ (Nat.le_refl _)⟩, RowL.nil _ _ _ _ _⟩
    have hsz3 : w3.heap.size = w2.heap.size + 1 := by rw [hw3]; simp
    obtain ⟨w4, hw4⟩ : ∃ x, x = w3.alloc (.cells #[.slice none 0 0] 72) := ⟨_, rfl⟩
    obtain ⟨o4, ho4⟩ : ∃ x, newLab w3 o3 (10 * 2) = x := ⟨_, rfl⟩
    have hs4 : Step (fun _ => False) w3 o3 w4 o4 := by rw [hw4, ← ho4]; exact Step.blkNew _ _ _
    have hV4 : WrAt w4 o4 2 w3.heap.size [] := ⟨.slice none 0 0, by rw [hw4, ← ho4]; exact ⟨_, heap_alloc_new _ _, newLab_new _ _ _ (Nat.le_refl _)⟩, RowL.nil _ _ _ _ _⟩
    have hW4 := hW3.step hs4 (fun _ _ h => h)
    rw [hsz3] at hV4
    obtain ⟨g, hbb⟩ : ∃ b, w2.heap.size = b := ⟨_, rfl⟩
    rw [hbb] at hW4 hV4
    obtain ⟨g', hbb'⟩ : ∃ b, g + 1 = b := ⟨_, rfl⟩
    rw [hbb'] at hV4
    have HX4 := Lib.hid ((HX2.out.step hs3 fun h => h).step hs4 fun h => h)
    have HP4 := Lib.hid ((Dat.step (o := fun _ => 0) (l := 0) ⟨HP2.out, fun _ _ _ _ => rfl⟩ hs3 fun h => h).step hs4 fun h => h)
    have HT4 := Lib.hid ((hs3.trans hs4).mono (L' := OwnTwo) fun _ h => h.elim)
    have HW4 := Lib.hid hW4
    have HV4 := Lib.hid hV4
    have HE3 := Lib.hid hw3
    have HE4 := Lib.hid hw4
    have HG := Lib.hid hbb'
    have HGG := Lib.hid hbb
    have HS3 := Lib.hid hsz3
    clear hw3 hs3 ho3 hW3 hw4 hs4 ho4 hW4 hV4 hsz3 hbb hbb' HX2 HP2
    go_upto_region 4 with fail
    rw [← HE3.out, ← HE4.out]
    try rw [HS3.out]
    try rw [HGG.out]
    try rw [HG.out]
    clear HE3 HE4 HS3 HGG HG
    have x0 := HX4.out.cell (j := 0) rfl
    go_wp2_with fail
    refine (int_any 1 g q [] w4 o4 (by omega) HW4.out (by omega) (by omega) (by simp)).mono ?_
    rintro e w5 ⟨rfl, o5, hs, hW⟩
    have HX5 := Lib.hid (HX4.out.step hs (by unfold Own; omega))
    have HP5 := Lib.hid (HP4.out.step hs (by unfold Own; omega))
    have HT5 := Lib.hid (HT4.out.trans (hs.mono fun _ h => Or.inl h))
    have HV5 := Lib.hid (HV4.out.step hs fun l h => by unfold Own at *; omega)
    obtain ⟨a5, ha5⟩ : ∃ x : List UInt8, [] ++ encI q = x := ⟨_, rfl⟩
    have hl5 : a5.length ≤ 10 := by rw [← ha5, List.length_append]; have := encI_len q (by omega) (by omega); simp only [List.length_nil]; omega
    rw [ha5] at hW
    have HW5 := Lib.hid hW
    have HA5 := Lib.hid ha5
    clear hs hW ha5 HW4 HX4 HT4 HV4 HP4 x0
    have x1 := HX5.out.cell (j := 1) rfl
    go_wp2_with fail
    refine (int_any 1 g k a5 w5 o5 (by omega) HW5.out (by omega) (by omega) (by omega)).mono ?_
    rintro e w6 ⟨rfl, o6, hs, hW⟩
    have HX6 := Lib.hid (HX5.out.step hs (by unfold Own; omega))
    have HP6 := Lib.hid (HP5.out.step hs (by unfold Own; omega))
    have HT6 := Lib.hid (HT5.out.trans (hs.mono fun _ h => Or.inl h))
    have HV6 := Lib.hid (HV5.out.step hs fun l h => by unfold Own at *; omega)
    obtain ⟨a6, ha6⟩ : ∃ x : List UInt8, a5 ++ encI k = x := ⟨_, rfl⟩
    have hl6 : a6.length ≤ 20 := by rw [← ha6, List.length_append]; have := encI_len k (by omega) (by omega); omega
    rw [ha6] at hW
    have HW6 := Lib.hid hW
    have HA6 := Lib.hid ha6
    clear hs hW ha6 HW5 HX5 HT5 HV5 HP5 x1
    have x2 := HX6.out.cell (j := 2) rfl
    have kr := raw_any 1 g a c b a6 w6 o6 (by omega) HW6.out (by omega) HP6.out.1 (by rw [HN.out]; omega)
    rw [HN.out] at kr
    have KR := Lib.hid kr
    clear kr
    go_wp2_with fail
    refine KR.out.mono ?_
    rintro e w7 ⟨rfl, o7, hs, hW⟩
    have HT7 := Lib.hid (HT6.out.trans (hs.mono fun _ h => Or.inl h))
    have HV7 := Lib.hid (HV6.out.step hs fun l h => by unfold Own at *; omega)
    obtain ⟨a7, ha7⟩ : ∃ x : List UInt8, a6 ++ encR b = x := ⟨_, rfl⟩
    have hl7 : a7.length ≤ 65566 := by rw [← ha7, List.length_append]; have := encR_len b (by rw [HN.out]; omega); rw [HN.out] at this; omega
    rw [ha7] at hW
    have HW7 := Lib.hid hW
    have HA7 := Lib.hid ha7
    clear hs hW ha7 HW6 HX6 HT6 HV6 HP6 x2 KR
    obtain ⟨m, hm⟩ : ∃ m, a7.length = m := ⟨_, rfl⟩
    have HM := Lib.hid hm
    clear hm
    go_wp2_with fail
    refine (done_any 1 g a7 w7 o7 HW7.out (by omega)).mono ?_
    rintro e w8 ⟨v8, rfl, hown, hb⟩
    obtain ⟨ra, rc, rfl, hr⟩ := ownsRow_sliceMap hown
    have hs : Step (fun _ => False) w7 o7 w8 o7 := Step.same hb
    have HT8 := Lib.hid (HT7.out.trans (hs.mono fun _ h => h.elim))
    have HV8 := Lib.hid (HV7.out.step hs fun _ _ h => h)
    have HW8 := Lib.hid (HW7.out.step hs fun _ _ h => h)
    have kr := raw_any 2 g' ra rc a7 [] w8 o7 (by omega) HV8.out (by simp) hr (by omega)
    have KR := Lib.hid kr
    clear hown hb hs hr HT7 HV7 HW7 kr
    go_wp2_with fail
    refine KR.out.mono ?_
    rintro e w9 ⟨rfl, o9, hs, hV⟩
    have HT9 := Lib.hid (HT8.out.trans (hs.mono fun _ h => Or.inr h))
    have HW9 := Lib.hid (HW8.out.step hs fun l h => by unfold Own at *; omega)
    obtain ⟨a9, ha9⟩ : ∃ x : List UInt8, [] ++ encR a7 = x := ⟨_, rfl⟩
    have hl9 : a9.length ≤ 65576 := by rw [← ha9, List.length_append]; have := encR_len a7 (by omega); simp only [List.length_nil]; omega
    rw [ha9] at hV
    have HV9 := Lib.hid hV
    have HA9 := Lib.hid ha9
    clear hs hV ha9 HT8 HV8 HW8 KR
    go_wp2_with fail
    refine (done_any 1 g a7 w9 o9 HW9.out (by omega)).mono ?_
    rintro e w10 ⟨v10, rfl, hown, hb⟩
    obtain ⟨sa, sc, rfl, hr⟩ := ownsRow_sliceMap hown
    have hs : Step (fun _ => False) w9 o9 w10 o9 := Step.same hb
    have HT10 := Lib.hid (HT9.out.trans (hs.mono fun _ h => h.elim))
    have HV10 := Lib.hid (HV9.out.step hs fun _ _ h => h)
    have kr := bytesP sa sc a7.length a7 w10 hr rfl (by omega)
    have KR := Lib.hid kr
    clear hown hb hs hr HT9 HV9 HW9 kr
    go_wp2_with fail
    refine KR.out.mono ?_
    rintro e w11 ⟨rfl, hb⟩
    have hs : Step (fun _ => False) w10 o9 w11 o9 := Step.same hb
    have HT11 := Lib.hid (HT10.out.trans (hs.mono fun _ h => h.elim))
    have HV11 := Lib.hid (HV10.out.step hs fun _ _ h => h)
    clear hb hs HT10 HV10 KR
    go_wp2_with fail
    refine (uint_any 2 g' (sumP a7) a9 w11 o9 (by omega) HV11.out (sumP_lt _) (by omega)).mono ?_
    rintro e w12 ⟨rfl, o12, hs, hV⟩
    have HT12 := Lib.hid (HT11.out.trans (hs.mono fun _ h => Or.inr h))
    obtain ⟨a12, ha12⟩ : ∃ x : List UInt8, a9 ++ encU (sumP a7) = x := ⟨_, rfl⟩
    have hl12 : a12.length ≤ 65586 := by rw [← ha12, List.length_append]; have := encU_len10 (sumP_lt a7); omega
    rw [ha12] at hV
    have HV12 := Lib.hid hV
    have HA12 := Lib.hid ha12
    clear hs hV ha12 HT11 HV11
    go_wp2_with fail
    refine (done_any 2 g' a12 w12 o12 HV12.out (by omega)).mono ?_
    rintro e w' ⟨v, rfl, hown, hbd⟩
    have HO := Lib.hid hown
    have HD := Lib.hid hbd
    clear hown hbd
    go_wp2_with fail
    go_ret2
    have hC : C = a12 := by
      rw [← HC2.out, ← HA12.out, ← HA9.out]
      unfold wholeP coreP
      simp only
      rw [HA5.out, HA6.out, HA7.out]
    have hbel : Below w2.heap.size w2 w12 := HT12.out.toBelow (Nat.le_refl _) fun k _ => by unfold OwnTwo Own; omega
    have hown := HO.out
    have hle : w.heap.size ≤ w12.heap.size := by have := HB2.out.size; have := hbel.size; omega
    rw [hC]
    refine ⟨v, rfl, ?_, (Below.step HB2.out hbel).trans (HD.out.mono hle)⟩
    exact ownsRow_lower hown hle
end Go.Proofs.Ytmonpnikdheokaa
