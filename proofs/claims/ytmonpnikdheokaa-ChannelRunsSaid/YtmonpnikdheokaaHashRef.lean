/-
  Contracts of schemalensref01's model of the hash: Words, mix, Sum, Bytes, Pair.
-/
import Derived.Test.YtmonpnikdheokaaHash
namespace Go.Proofs.Ytmonpnikdheokaa
open Go Go.Proofs
open Go.RowKit
set_option linter.unusedVariables false

theorem elemU : ElemT Try.prog 162 94 (.int .u64 0) 1 8 := ⟨Try.underlying162, info_parts (by kernel_rfl), rfl, by decide⟩

theorem rmix_any (s x : Int) (w : World) :
    Calls Try.prog 106 #[.int .u64 s, .int .u64 x] w fun e w' => e = .returned (.int .u64 (mixI s x)) ∧ w = w' := by
  have hw := mixI_walk' s x
  have HW := Lib.hid hw
  clear hw
  go_enter Try.func106, Try.ntmps106
  go_wp2
  go_ret
  exact ⟨ret_int HW.out, rfl⟩

theorem rwords_any (a : Option Addr) (c : Nat) (s : List UInt8) (w : World) (hx : SliceAt w a c (s.map byteV)) (hs : s.length ≤ 1000000000) :
    Calls Try.prog 89 #[.slice a s.length c] w fun e w' => ∃ v, e = .returned v ∧ w'.ownsRow w.heap.size 94 1 v (wordsN s).length ((wordsN s).map u64V) ∧ Below w.heap.size w w' := by
  have hcap := hx.max
  have hle := hx.le
  simp only [List.length_map] at hle
  go_enter Try.func89, Try.ntmps89
  go_wp2
  go_loopw [3, 4, 5, 6] (fun v i u k wr => ∃ j : Nat, 8 * j ≤ s.length + 7 ∧ i = .int .i64 (8 * (j : Int)) ∧ wr.ownsRow w.heap.size 94 1 v ((wordsN s).take j).length (((wordsN s).take j).map u64V) ∧ Below w.heap.size w wr)
    (fun _ i _ _ wr => s.length + 8 - (intOf i).toNat)
  case atStart => exact ⟨0, by omega, rfl, World.ownsRow_nil _ _ _ _, Below.refl _ _⟩
  case round =>
    obtain ⟨j, hj, rfl, hown, hB⟩ := hrel
    have hwl := wordsN_length s
    have HWL := Lib.hid hwl
    clear hwl
    by_cases hlt8 : 8 * j < s.length
    · have hd : decide (8 * (j : Int) < (s.length : Int)) = true := by simp; omega
      obtain ⟨M, hM, hM2⟩ : ∃ M : Nat, M = min 8 (s.length - 8 * j) ∧ ((s.drop (8 * j)).take 8).length = M := ⟨_, rfl, by simp⟩
      have HM := Lib.hid hM
      have hM8 : M ≤ 8 := by omega
      have hMs : 8 * j + M ≤ s.length := by omega
      have hM1 : 1 ≤ M := by omega
      have HM2 := Lib.hid hM2
      have hmin : min (8 * (j : Int) + 8) (s.length : Int) = 8 * (j : Int) + (M : Int) := by omega
      clear hM hM2
      go_wp2
      all_goals
        obtain ⟨wo, rfl⟩ : ∃ wo : World, wo = wr := ⟨_, rfl⟩
        go_loopw [5, 6] (fun u k wr => ∃ m : Nat, m ≤ M ∧ k = .int .i64 (8 * (j : Int) + (m : Int) - 1) ∧ u = u64V (leN (((s.drop (8 * j)).take 8).drop m)) ∧ wr = wo)
          (fun _ k wr => ((intOf k) + 1).toNat)
        case atStart => exact ⟨M, by omega, congrArg (Value.int .i64) (by have := HM.out; omega), by rw [List.drop_of_length_le (by rw [HM2.out]; omega)]; rfl, rfl⟩
        case round =>
          obtain ⟨m, hm, rfl, rfl, rfl⟩ := hrel
          by_cases hm1 : 1 ≤ m
          · obtain ⟨m, rfl⟩ : ∃ m', m = m' + 1 := ⟨m - 1, by omega⟩
            have hstep := hi_step ((s.drop (8 * j)).take 8) m (by simp; omega) (by rw [HM2.out]; omega)
            rw [List.getElem_take, List.getElem_drop] at hstep
            have HS := Lib.hid hstep
            clear hstep
            obtain ⟨sb, so, rfl⟩ := hx.addr (by rw [List.length_map]; omega)
            have hcl := (hx.keep hB hx.lt).byteV (i := 8 * j + m) (by omega)
            have hbnd := leN_le8 (((s.drop (8 * j)).take 8).drop (m + 1)) (by simp; omega)
            unfold u64V
            go_wp2
            go_roundw
            case rel => exact ⟨m, by omega, congrArg (Value.int .i64) (by omega), (by rw [HS.out]; try rfl), by first | rfl | trivial⟩
            case measure => simp [intOf]; omega
          · obtain rfl : m = 0 := by omega
            have hword : leN (((s.drop (8 * j)).take 8).drop 0) = wordN s j := rfl
            rw [hword]
            have hlen : ((wordsN s).take j).length = j := by rw [List.length_take, HWL.out]; omega
            rw [hlen] at hown
            have hsucc := wordsN_take_succ s (j := j) (by omega)
            have HSU := Lib.hid hsucc
            have HLE := Lib.hid hlen
            clear hsucc hword hlen
            unfold u64V
            go_wp2_with (at_builtin; refine wpList_append_src _ rfl _ _ 162 rfl elemU w.heap.size _ j _ rfl (hown.alloc _) (some ⟨wr.heap.size, 0, none⟩) 1 1 [.int .u64 (wordN s j)] rfl (row_new (cs := [.int .u64 (wordN s j)]) (by simp) (by omega)) (by simp [Value.oneCell']) (by omega) (by omega) (by have := hB.size; simp; omega) ?_)
            intro v' w1 hown' hbel' hgrow
            clear hgrow
            go_wp2
            go_roundw
            case rel => exact ⟨j + 1, by omega, by go_num, by rw [HSU.out, List.map_append, List.length_append, HLE.out, List.map_take]; exact hown', (hB.alloc hB.size _).trans hbel'⟩
            case measure => simp [intOf]; omega
    · go_wp2
      go_ret
      exact ⟨_, rfl, by rwa [wordsN_take_all _ (by omega)] at hown, hB⟩

theorem rsum_any (s : ByteArray) (a : Option Addr) (c : Nat) (xs : List Int) (w : World) (hs : s.size ≤ 1000000000) (hx : SliceAt w a c (xs.map intV)) :
    Calls Try.prog 90 #[.string s, .slice a xs.length c] w fun e w' => e = .returned (.int .u64 (sumI s.data.toList xs)) ∧ Below w.heap.size w w' := by
  have hxl := hx.len
  simp only [List.length_map] at hxl
  go_enter Try.func90, Try.ntmps90
  go_wp2_with (with_reducible refine wpList_bytes_of _ rfl _ rfl Try.underlying9 Try.underlying31 Try.underlying5 s rfl (by omega) ?_; intro a1 c1 w1 hs1 hb1)
  have hwl := wordsN_length s.data.toList
  have hsz : s.size ≤ s.data.toList.length ∧ s.data.toList.length ≤ s.size := ⟨Nat.le_refl _, Nat.le_refl _⟩
  have HWL := Lib.hid hwl
  clear hwl
  go_wp2_with (go_at_call 89; refine (rwords_any a1 c1 s.data.toList _ hs1 (by omega)).mono ?_; rintro e w2 ⟨v, rfl, hown2, hb2⟩)
  obtain ⟨wn, hwn⟩ : ∃ wn, wn = wordsN s.data.toList := ⟨_, rfl⟩
  rw [← hwn] at hown2
  have HWN := Lib.hid hwn
  clear hwn
  obtain ⟨a2, c2, rfl, hs2⟩ := ownsRow_sliceMap hown2
  have hB2 : Below w.heap.size w w2 := hb1.trans (hb2.mono hb1.size)
  have hl2 := hs2.len
  simp only [List.length_map] at hl2
  clear hown2 hb2 hb1 hs1
  go_wp2
  go_loop [5, 7] (fun u i => ∃ k : Nat, k ≤ wn.length ∧ i = .int .i64 k ∧ u = .int .u64 (foldW 0 (wn.take k))) (fun _ i => wn.length - (intOf i).toNat)
  case atStart => exact ⟨0, by omega, rfl, rfl⟩
  case round =>
    obtain ⟨k, hk, rfl, rfl⟩ := hrel
    by_cases hkn : k < wn.length
    · obtain ⟨b2, o2, rfl⟩ := hs2.addr (by rw [List.length_map]; omega)
      have f1 := hs2.u64V hkn
      have hst : foldW 0 (wn.take (k + 1)) = mixI (foldW 0 (wn.take k)) (wn[k] : Int) := by
        rw [List.take_succ_eq_append_getElem hkn, foldW_snoc]
      have HST := Lib.hid hst
      clear hst
      go_wp2_with (go_at_call 106; refine (rmix_any _ _ _).mono ?_; rintro e w' ⟨rfl, rfl⟩)
      go_round
      case rel => exact ⟨k + 1, by omega, by go_num, by rw [HST.out]⟩
      case measure => simp [intOf]; omega
    · have hall : wn.take k = wn := List.take_of_length_le (by omega)
      rw [hall]
      clear hall
      go_wp2_with (go_at_call 106; refine (rmix_any _ _ _).mono ?_; rintro e w' ⟨rfl, rfl⟩)
      go_loop [5, 8] (fun u i => ∃ k : Nat, k ≤ xs.length ∧ i = .int .i64 k ∧ u = .int .u64 ((xs.take k).foldl mixI (mixI (mixI (foldW 0 wn) s.size) xs.length))) (fun _ i => xs.length - (intOf i).toNat)
      case atStart => exact ⟨0, by omega, rfl, by simp⟩
      case round =>
        obtain ⟨k2, hk2, rfl, rfl⟩ := hrel
        by_cases hkn2 : k2 < xs.length
        · obtain ⟨b3, o3, rfl⟩ := hx.addr (by rw [List.length_map]; omega)
          have f3 := (hx.keep hB2 hx.lt).intV hkn2
          have hst := foldM_take (mixI (mixI (foldW 0 wn) s.size) xs.length) xs hkn2
          have HST := Lib.hid hst
          clear hst
          go_wp2_with (go_at_call 106; refine (rmix_any _ _ _).mono ?_; rintro e w' ⟨rfl, rfl⟩)
          go_round
          case rel => exact ⟨k2 + 1, by omega, by go_num, by rw [HST.out, mixI_wrap]⟩
          case measure => simp [intOf]; omega
        · have hall2 : xs.take k2 = xs := List.take_of_length_le (by omega)
          rw [hall2]
          clear hall2
          go_wp2_with (go_at_call 106; refine (rmix_any _ _ _).mono ?_; rintro e w' ⟨rfl, rfl⟩)
          go_ret
          exact ⟨ret_int (by rw [HWN.out]; rfl), hB2⟩

def wIV (x : Nat) : Value := .int .i64 (wrap64 x)
theorem wIV_map (l : List Nat) : l.map wIV = (l.map wordI).map intV := by rw [List.map_map]; rfl
theorem take_map_succ {α : Type} (f : α → Value) (l : List α) {k : Nat} (h : k < l.length) : (l.map f).take (k + 1) = (l.map f).take k ++ [f l[k]] := by
  rw [List.take_succ_eq_append_getElem (by simpa using h)]; simp
theorem rbytes_any (s : ByteArray) (a : Option Addr) (c : Nat) (bs : List UInt8) (w : World) (hs : s.size ≤ 1000000000) (hx : SliceAt w a c (bs.map byteV)) (hl : bs.length ≤ 1000000000) :
    Calls Try.prog 72 #[.string s, .slice a bs.length c] w fun e w' => e = .returned (.int .u64 (bytesI s.data.toList bs)) ∧ Below w.heap.size w w' := by
  have hwl := wordsN_length bs
  have HWL := Lib.hid hwl
  clear hwl
  go_enter Try.func72, Try.ntmps72
  go_wp2_with (go_at_call 89; refine (rwords_any _ _ _ _ hx (by omega)).mono ?_; rintro e w2 ⟨v, rfl, hown2, hb2⟩)
  obtain ⟨wn, hwn⟩ : ∃ wn, wn = wordsN bs := ⟨_, rfl⟩
  have hwnl : wn.length ≤ 1000000007 := by rw [hwn, HWL.out]; omega
  rw [← hwn] at hown2
  have HWN := Lib.hid hwn
  clear hwn
  obtain ⟨a2, c2, rfl, hs2⟩ := ownsRow_sliceMap hown2
  have hl2 := hs2.len
  simp only [List.length_map] at hl2
  go_wp2
  go_loopw [6, 7] (fun v i wr => ∃ k : Nat, k ≤ wn.length ∧ i = .int .i64 k ∧ wr.ownsRow w2.heap.size 3 1 v k ((wn.map wIV).take k) ∧ Below w2.heap.size w2 wr) (fun _ i _ => wn.length - (intOf i).toNat)
  case atStart => exact ⟨0, by omega, rfl, World.ownsRow_nil _ _ _ _, Below.refl _ _⟩
  case round =>
    obtain ⟨k, hk, rfl, hown, hB⟩ := hrel
    have hsz := hB.size
    by_cases hkn : k < wn.length
    · obtain ⟨b2, o2, rfl⟩ := hs2.addr (by rw [List.length_map]; omega)
      have f1 := (hs2.below hB).u64V hkn
      have hst := take_map_succ wIV wn hkn
      have HST := Lib.hid hst
      clear hst
      go_wp2_with (at_builtin; refine wpList_append_src _ rfl _ _ 22 rfl elemI w2.heap.size _ k _ rfl (hown.alloc _) (some ⟨wr.heap.size, 0, none⟩) 1 1 [.int .i64 (wrap64 (wn[k] : Int))] rfl (row_new (cs := [.int .i64 (wrap64 (wn[k] : Int))]) (by simp) (by omega)) (by simp [Value.oneCell']) (by omega) (by omega) (by simp; omega) ?_)
      intro v' w1 hown' hbel' hgrow
      clear hgrow
      go_wp2
      go_roundw
      case rel => exact ⟨k + 1, by omega, by go_num, by rw [HST.out]; exact hown', (hB.alloc hB.size _).trans hbel'⟩
      case measure => simp [intOf]; omega
    · obtain rfl : k = wn.length := by omega
      have hall : (wn.map wIV).take wn.length = wn.map wIV := List.take_of_length_le (by simp)
      rw [hall] at hown
      clear hall
      go_wp2_with (at_builtin; refine wpList_append_src _ rfl _ _ 22 rfl elemI w2.heap.size _ wn.length _ rfl (hown.alloc _) (some ⟨wr.heap.size, 0, none⟩) 1 1 [.int .i64 (bs.length : Int)] rfl (row_new (cs := [.int .i64 (bs.length : Int)]) (by simp) (by omega)) (by simp [Value.oneCell']) (by omega) (by omega) (by simp; omega) ?_)
      intro v' w1 hown' hbel' hgrow
      clear hgrow
      obtain ⟨L, hL⟩ : ∃ L, L = wn.map wordI ++ [(bs.length : Int)] := ⟨_, rfl⟩
      obtain ⟨a', c', rfl, hsl⟩ := ownsRow_sliceMap (f := intV) (xs := L) (by rw [hL, List.map_append, ← wIV_map]; exact hown')
      have HL := Lib.hid hL
      clear hL hown'
      go_wp2_with (go_at_call 90; refine (rsum_any _ _ _ L _ hs hsl).mono ?_; rintro e w3 ⟨rfl, hb3⟩)
      go_ret
      have hB2 : Below w.heap.size w w2 := hb2
      have hB1 : Below w.heap.size w w1 := hB2.trans (((hB.alloc hB.size _).trans hbel').mono hB2.size)
      exact ⟨ret_int (by rw [HL.out, HWN.out]; rfl), hB1.trans (hb3.mono hB1.size)⟩

end Go.Proofs.Ytmonpnikdheokaa
