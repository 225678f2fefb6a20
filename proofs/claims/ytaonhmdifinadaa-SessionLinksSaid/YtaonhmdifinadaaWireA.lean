/-
  A writer in memory; the contracts of its methods.
-/
import Derived.Test.YtaonhmdifinadaaClone
import Derived.Test.YtaonhmdifinadaaWireM
import Derived.Test.YtaonhmdifinadaaCells
import Derived.Lib.AppendStr
namespace Go.Proofs.Ytaonhmdifinadaa
open Go Go.Proofs
open Go.RowKit
set_option linter.unusedVariables false
set_option linter.unusedSimpArgs false


/-- 'append' of a string to a row of bytes that bears label l. -/
theorem run_append_strrow {P : Program} {w : World} {o : Nat → Nat} {l : Nat} {t u e : TypeId} (E : ElemT P t e (.int .u8 0) 1 1) (hu : P.underlying u = some .string) (ty : TypeId)
    {v : Value} {n : Nat} {xs : List Value} (hown : RowL w o l e 1 v n xs) (s : ByteArray)
    (h63 : n + s.size ≤ 9223372036854775807) (hbytes : n + s.size ≤ 140737488355328) :
    ∃ v' w', (Builtin.append_ #[t, u] ty #[v, .string s]).run P w = .ok v' w' ∧ RowL w' (newLab w o l) l e 1 v' (n + s.size) (xs ++ s.data.toList.map byteV) ∧ Step (· = l) w o w' (newLab w o l) := by
  obtain ⟨i, hi, hz0, hz1, hz2⟩ := E.info
  obtain ⟨v', w', hr, h2, h3, h4⟩ := Lib.run_append_own_string (P := P) w 0 t u ty e i E.und hu hi hz0 hz1 hz2 v n xs hown.1 s (by simpa [maxLen] using h63) hbytes (Nat.zero_le _)
  have h5 : v'.ownBlock = v.ownBlock ∨ v'.ownBlock = some w.heap.size := by
    obtain ⟨⟨hl, h1⟩, ho⟩ := hown
    have hxl : xs.length = n := by simpa using hl
    rcases h1 with ⟨rfl, rfl⟩ | ⟨g, cap, cur, rfl, hbg, hg, hnc, hcm, hcs, htake⟩
    · by_cases hm : s.size = 0
      · left; rw [(h4.2 ⟨rfl, hm⟩)]
      · right
        have hr' := run_append_nil_string (P := P) w t u ty e i (.int .u8 0) E.und hu hi hz0 s (by omega) (by omega) (by rw [hz2]; omega)
        rw [hr] at hr'
        simp only [Result.ok.injEq] at hr'
        rw [hr'.1]
        rfl
    · by_cases hroom : n + s.size ≤ cap
      · left
        have hcs' : cur.size = cap := by simpa using hcs
        have hr' := Lib.run_append_room_string (P := P) w t u ty e i E.und hu hi hz1 g n cap cur hg s hroom (by omega)
        rw [hr] at hr'
        simp only [Result.ok.injEq] at hr'
        rw [hr'.1]
        rfl
      · right
        have holds : ∀ j u, xs[j]? = some u → w.cell? ((⟨g, 0, none⟩ : Addr).add j) = some u := World.ownsRow.cells (g := g) ⟨hl, .inr ⟨g, cap, cur, rfl, hbg, hg, hnc, hcm, hcs, htake⟩⟩ rfl
        have hr' := Lib.run_append_grow_string (P := P) w t u ty e i (.int .u8 0) E.und hu hi hz0 ⟨g, 0, none⟩ n cap xs (by rw [hz1]; simpa using hxl) holds s (by omega) (by omega) (by rw [hz2]; exact growslice_fits (by omega) (by omega))
        rw [hr] at hr'
        simp only [Result.ok.injEq] at hr'
        rw [hr'.1]
        rfl
  refine ⟨v', w', hr, ⟨h2, fun k hk => ?_⟩, ⟨h3.os, h3.tape, h3.output, h3.size, fun k hk hl => h3.block k hk fun e => hl (hown.2 k e.symm), fun k hk => newLab_old _ _ _ hk⟩⟩
  rcases h5 with h5 | h5
  · rw [h5] at hk
    rw [newLab_old _ _ _ (hown.1.lt k hk).2]; exact hown.2 k hk
  · rw [h5] at hk
    simp only [Option.some.injEq] at hk
    subst hk
    exact newLab_new _ _ _ (Nat.le_refl _)
theorem wpList_append_strrow {P : Program} {w : World} {ops : Array Oper} {rest : List Oper} {q : Oper} {a : Act} {Q : Exit → Act → World → Prop}
    (hg : q.guard = none) (s x : Operand) (t u : TypeId) (ho : q.op = .call { callee := .builtin .append, args := #[s, x], argTypes := #[t, u] })
    {e : TypeId} (E : ElemT P t e (.int .u8 0) 1 1) (hu : P.underlying u = some .string) {o : Nat → Nat} {l : Nat}
    {v : Value} {n : Nat} {xs : List Value} (hs : a.eval s = v) (hown : RowL w o l e 1 v n xs) (st : ByteArray) (hx : a.eval x = .string st)
    (h63 : n + st.size ≤ 9223372036854775807) (hbytes : n + st.size ≤ 140737488355328)
    (h : ∀ v' w', RowL w' (newLab w o l) l e 1 v' (n + st.size) (xs ++ st.data.toList.map byteV) → Step (· = l) w o w' (newLab w o l) → wpList P ops Q rest (a.put q.dst v') w') : wpList P ops Q (q :: rest) a w := by
  refine wpList_plain hg fun _ hK => ?_
  obtain ⟨v', w', hr, h2, h3⟩ := run_append_strrow (P := P) E hu q.type hown st h63 hbytes
  unfold Oper.wp execOp
  simp only [ho, resolve, invoke, builtin, Sem.run_bind, Sem.run_pure, Result.andThen_ok, List.map_toArray, List.map_cons, List.map_nil, hs, hx, hr]
  exact hK _ _ (h v' w' h2 h3)

/-- A writer: object i, its struct in block b. -/
def WrAt (w : World) (o : Nat → Nat) (i b : Nat) (bs : List UInt8) : Prop := ∃ bv, Blk w o (10 * i) b [bv] ∧ RowL w o (10 * i + 1) 5 1 bv bs.length (bs.map byteV)
theorem WrAt.step {L : Nat → Prop} {w w' : World} {o o' : Nat → Nat} {i b : Nat} {bs : List UInt8} (h : WrAt w o i b bs) (hs : Step L w o w' o') (hi : ∀ l, Own i l → ¬ L l) : WrAt w' o' i b bs := by
  obtain ⟨bv, h1, h2⟩ := h
  exact ⟨bv, h1.step hs (hi _ (Own.at0 i)), h2.step hs (hi _ (Own.at1 i))⟩
theorem or128 (m : Nat) : bits BinOp.or IntKind.u8 ((m : Int) % 256) 128 = ((m % 128 + 128 : Nat) : Int) := by
  rw [show ((m : Int) % 256) = ((m % 256 : Nat) : Int) from by omega, show (128 : Int) = ((128 : Nat) : Int) from rfl, u8_or_nat _ _ (by omega) (by omega)]
  congr 1
  have h : m % 256 = m % 128 ∨ m % 256 = m % 128 + 128 := by omega
  have e : 128 ||| (m % 128) = 128 + m % 128 := nat_join 7 _ _ (by decide) (by omega)
  rcases h with h | h
  · rw [h, Nat.or_comm, e]; omega
  · rw [h, Nat.add_comm, ← e, Nat.or_assoc, Nat.or_comm (m % 128) 128, ← Nat.or_assoc, Nat.or_self]
theorem byteV_nat {k : Nat} (h : k < 256) : byteV (UInt8.ofNat k) = .int .u8 (k : Int) := by
  unfold byteV; rw [UInt8.toNat_ofNat']; congr 1; omega
theorem WrAt.put {wr w' : World} {o o' : Nat → Nat} {i b : Nat} {bs : List UInt8} {v v' : Value} {c : UInt8} (h1 : Blk wr o (10 * i) b [v]) (hs : Step (· = 10 * i + 1) wr o w' o') (hr : RowL w' o' (10 * i + 1) 5 1 v' (bs.length + 1) (bs.map byteV ++ [byteV c])) :
    Step (Own i) wr o (w'.setCell ⟨b, 0, none⟩ v') o' ∧ WrAt (w'.setCell ⟨b, 0, none⟩ v') o' i b (bs ++ [c]) := by
  have h1' := h1.step hs (by omega)
  have hs2 : Step (· = 10 * i) w' o' (w'.setCell ⟨b, 0, none⟩ v') o' := (Step.refl _ _ _).set (p := ⟨b, 0, none⟩) h1'.lab _
  refine ⟨(hs.mono fun l hl => by subst hl; exact Own.at1 i).trans (hs2.mono fun l hl => by subst hl; exact Own.at0 i), v', h1'.set 0 v', ?_⟩
  have := hr.step hs2 (by omega)
  simpa using this
set_option maxHeartbeats 1000000 in
theorem uint_any (i b n : Nat) (bs : List UInt8) (w : World) (o : Nat → Nat) (hi : 1 ≤ i) (hW : WrAt w o i b bs) (hn : n < 18446744073709551616) (hl : bs.length ≤ 70368744177664) :
    Calls Try.prog 108 #[.pointer (some ⟨b, 0, none⟩), .int .u64 n] w fun e w' => e = .returned (.tuple #[]) ∧ ∃ o', Step (Own i) w o w' o' ∧ WrAt w' o' i b (bs ++ encU n) := by
  have HW := Lib.hid hW
  have HNN := Lib.hid (show n < 18446744073709551616 from hn)
  clear hW
  go_enter Try.func108, Try.ntmps108
  go_wp2_with fail
  go_loopw [1] (fun nv wr => ∃ (m : Nat) (o' : Nat → Nat) (bs' : List UInt8), m < 18446744073709551616 ∧ nv = .int .u64 m ∧ bs'.length + (encU m).length ≤ bs.length + 10 ∧ Hid (Step (Own i) w o wr o') ∧ Hid (WrAt wr o' i b bs') ∧ Hid (bs' ++ encU m = bs ++ encU n)) (fun nv _ => (intOf nv).toNat)
  case atStart => exact ⟨n, o, bs, hn, rfl, by have := encU_len10 hn; omega, Step.refl _ _ _, HW.out, rfl⟩
  case round =>
    clear HW
    obtain ⟨m, o1, bs1, hm, rfl, hlen, HS, HW, HE⟩ := hrel
    obtain ⟨bv, h1, h2⟩ := HW.out
    obtain ⟨ba, bc, rfl⟩ := h2.form
    have c0 : wr.cell? ⟨b, 0, none⟩ = some (.slice ba bs1.length bc) := h1.cell rfl
    have c0a : ∀ ob, (wr.alloc ob).cell? ⟨b, 0, none⟩ = some (.slice ba bs1.length bc) := fun ob => (h1.step ((Step.refl (fun _ => False) wr o1).alloc ob) (fun h => h)).cell rfl
    have H1 := Lib.hid h1
    have H2 := Lib.hid h2
    clear h1 h2
    have hor := or128 m
    by_cases hbig : 128 ≤ m
    · have d1 : decide ((128 : Int) ≤ (m : Int)) = true := decide_eq_true (by omega)
      have hbl : bs1.length ≤ 80368744177664 := by omega
      go_wp2_with (at_builtin; refine wpList_append_row rfl (.tmp 12) (.tmp 16) 78 rfl elemB rfl H2.out ((Below.refl _ wr).alloc (Nat.le_refl _) _) (some ⟨wr.heap.size, 0, none⟩) 1 1 [.int .u8 ((m : Int) % 128 + 128)] rfl (row_new (cs := [.int .u8 ((m : Int) % 128 + 128)]) (by simp) (by omega)) (by simp [Value.oneCell']) (by omega) (by omega) ?_)
      intro v5 w5 hrow5 hs5
      obtain ⟨a5, k5, rfl⟩ := hrow5.form
      have h15 := H1.out.step hs5 (by omega)
      have c5 := h15.cell (j := 0) rfl
      have f5 := h15.frozen 0
      have hpt := WrAt.put (c := UInt8.ofNat (m % 128 + 128)) H1.out hs5 (by rw [byteV_nat (by omega), show ((m % 128 + 128 : Nat) : Int) = (m : Int) % 128 + 128 from by omega]; exact hrow5)
      have HS5 := Lib.hid (HS.out.trans hpt.1)
      have HW5 := Lib.hid hpt.2
      have hE5 : (bs1 ++ [UInt8.ofNat (m % 128 + 128)]) ++ encU (m / 128) = bs ++ encU n := by rw [← HE.out, encU_big hbig, List.append_assoc]; rfl
      have hlen5 : (bs1 ++ [UInt8.ofNat (m % 128 + 128)]).length + (encU (m / 128)).length ≤ bs.length + 10 := by
        rw [encU_big hbig] at hlen
        simp at hlen ⊢
        omega
      have HE5 := Lib.hid hE5
      have HL5 := Lib.hid hlen5
      clear hrow5 hs5 h15 hpt hE5 hlen5 c0 c0a hor
      go_wp2_with fail
      go_roundw
      case rel => exact ⟨m / 128, _, _, by omega, by go_num, HL5.out, HS5.out, HW5.out, HE5.out⟩
      case measure => simp [intOf]; omega
    · have d1 : decide ((128 : Int) ≤ (m : Int)) = false := decide_eq_false (by omega)
      have hbl : bs1.length ≤ 80368744177664 := by omega
      have hms : m < 128 := by omega
      go_wp2_with (at_builtin; refine wpList_append_row rfl (.tmp 24) (.tmp 27) 78 rfl elemB rfl H2.out ((Below.refl _ wr).alloc (Nat.le_refl _) _) (some ⟨wr.heap.size, 0, none⟩) 1 1 [.int .u8 (m : Int)] rfl (row_new (cs := [.int .u8 (m : Int)]) (by simp) (by omega)) (by simp [Value.oneCell']) (by omega) (by omega) ?_)
      intro v5 w5 hrow5 hs5
      obtain ⟨a5, k5, rfl⟩ := hrow5.form
      have h15 := H1.out.step hs5 (by omega)
      have c5 := h15.cell (j := 0) rfl
      have f5 := h15.frozen 0
      have hpt := WrAt.put (c := UInt8.ofNat m) H1.out hs5 (by rw [byteV_nat (by omega)]; exact hrow5)
      have HS5 := Lib.hid (HS.out.trans hpt.1)
      have HW5 := Lib.hid hpt.2
      have hE5 : bs1 ++ [UInt8.ofNat m] = bs ++ encU n := by rw [← HE.out, encU_small hms]
      rw [hE5] at HW5
      clear hrow5 hs5 h15 hpt hE5 c0 c0a hor
      go_wp2_with fail
      go_end0
      exact ⟨rfl, _, HS5.out, HW5.out⟩

theorem zig_any (n : Int) (w : World) (h1 : -9223372036854775808 ≤ n) (h2 : n ≤ 9223372036854775807) :
    Calls Try.prog 109 #[.int .i64 n] w fun e w' => e = .returned (.int .u64 (zigN n)) ∧ w = w' := by
  go_enter Try.func109, Try.ntmps109
  go_wp2_with fail
  go_ret
  exact ⟨ret_int (zig_walk n h1 h2), rfl⟩
theorem int_any (i b : Nat) (n : Int) (bs : List UInt8) (w : World) (o : Nat → Nat) (hi : 1 ≤ i) (hW : WrAt w o i b bs) (h1 : -9223372036854775808 ≤ n) (h2 : n ≤ 9223372036854775807) (hl : bs.length ≤ 70368744177664) :
    Calls Try.prog 80 #[.pointer (some ⟨b, 0, none⟩), .int .i64 n] w fun e w' => e = .returned (.tuple #[]) ∧ ∃ o', Step (Own i) w o w' o' ∧ WrAt w' o' i b (bs ++ encI n) := by
  have HW := Lib.hid hW
  clear hW
  go_enter Try.func80, Try.ntmps80
  go_wp2_with fail
  refine (zig_any n w h1 h2).mono ?_
  rintro e w1 ⟨rfl, rfl⟩
  go_wp2_with fail
  refine (uint_any i b (zigN n) bs w o hi HW.out (zigN_lt h1 h2) hl).mono ?_
  rintro e w1 ⟨rfl, o1, hs, hw⟩
  go_wp2_with fail
  go_end0
  exact ⟨rfl, o1, hs, hw⟩
set_option maxHeartbeats 1000000 in
theorem wtext_any (i b : Nat) (s : ByteArray) (bs : List UInt8) (w : World) (o : Nat → Nat) (hi : 1 ≤ i) (hW : WrAt w o i b bs) (hl : bs.length ≤ 35184372088832) (hs : s.size ≤ 35184372088832) :
    Calls Try.prog 81 #[.pointer (some ⟨b, 0, none⟩), .string s] w fun e w' => e = .returned (.tuple #[]) ∧ ∃ o', Step (Own i) w o w' o' ∧ WrAt w' o' i b (bs ++ encR s.data.toList) := by
  have HW := Lib.hid hW
  clear hW
  go_enter Try.func81, Try.ntmps81
  go_wp2_with fail
  refine (uint_any i b s.size bs w o hi HW.out (by omega) (by omega)).mono ?_
  rintro e w1 ⟨rfl, o1, hs1, bv, h1, h2⟩
  have hlen : (bs ++ encU s.size).length ≤ bs.length + 10 := by have := encU_len10 (n := s.size) (by omega); simp; omega
  obtain ⟨ys, hys⟩ : ∃ ys, bs ++ encU s.size = ys := ⟨_, rfl⟩
  rw [hys] at h2 hlen
  have HYS := Lib.hid hys
  clear hys
  obtain ⟨ba, bc, rfl⟩ := h2.form
  have c0 := h1.cell (j := 0) rfl
  have H1 := Lib.hid h1
  have H2 := Lib.hid h2
  have HS1 := Lib.hid hs1
  clear h1 h2 hs1
  go_wp2_with (at_builtin; refine wpList_append_strrow rfl (.tmp 13) (.tmp 14) 78 9 rfl elemB Try.underlying9 rfl H2.out s rfl (by omega) (by omega) ?_)
  intro v5 w5 hrow5 hs5
  obtain ⟨a5, k5, rfl⟩ := hrow5.form
  have h15 := H1.out.step hs5 (by omega)
  have c5 := h15.cell (j := 0) rfl
  have f5 := h15.frozen 0
  have hs6 : Step (· = 10 * i) w5 (newLab w1 o1 (10 * i + 1)) (w5.setCell ⟨b, 0, none⟩ (.slice a5 (ys.length + s.size) k5)) (newLab w1 o1 (10 * i + 1)) := (Step.refl _ _ _).set (p := ⟨b, 0, none⟩) h15.lab _
  have H15 := Lib.hid h15
  have HR5 := Lib.hid hrow5
  have HS5 := Lib.hid hs5
  have HS6 := Lib.hid hs6
  clear h15 hrow5 hs5 hs6 hlen
  go_wp2_with fail
  go_end0
  refine ⟨rfl, newLab w1 o1 (10 * i + 1), (HS1.out.trans (HS5.out.mono fun l hl => by subst hl; exact Own.at1 i)).trans (HS6.out.mono fun l hl => by subst hl; exact Own.at0 i), _, H15.out.set 0 _, ?_⟩
  have hr := HR5.out.step HS6.out (by omega)
  have hsz : s.data.toList.length = s.size := rfl
  have e0 : bs ++ encR s.data.toList = ys ++ s.data.toList := by rw [← HYS.out]; unfold encR; rw [hsz, List.append_assoc]
  have e : (bs ++ encR s.data.toList).length = ys.length + s.size := by rw [e0, List.length_append, hsz]
  have e2 : (bs ++ encR s.data.toList).map byteV = ys.map byteV ++ s.data.toList.map byteV := by rw [e0, List.map_append]
  rw [e, e2]
  exact hr
theorem done_any (i b : Nat) (bs : List UInt8) (w : World) (o : Nat → Nat) (hW : WrAt w o i b bs) (hl : bs.length ≤ 70368744177664) :
    Calls Try.prog 82 #[.pointer (some ⟨b, 0, none⟩)] w fun e w' => ∃ v, e = .returned v ∧ w'.ownsRow w.heap.size 5 1 v bs.length (bs.map byteV) ∧ Below w.heap.size w w' := by
  obtain ⟨bv, h1, h2⟩ := hW
  obtain ⟨ba, bc, rfl⟩ := h2.form
  have c0 := h1.cell (j := 0) rfl
  have H2 := Lib.hid h2
  clear h1 h2
  go_enter Try.func82, Try.ntmps82
  go_wp2_with fail
  refine (clone_any ba bc bs w H2.out.slice hl).mono ?_
  rintro e w1 ⟨v, rfl, hown, hb⟩
  go_wp2_with fail
  go_ret
  exact ⟨v, rfl, hown, hb⟩
theorem encI_len (n : Int) (h1 : -9223372036854775808 ≤ n) (h2 : n ≤ 9223372036854775807) : (encI n).length ≤ 10 := encU_len10 (zigN_lt h1 h2)
theorem encIs_len (l : List Int) (hb : ∀ n ∈ l, -9223372036854775808 ≤ n ∧ n ≤ 9223372036854775807) : (l.flatMap encI).length ≤ 10 * l.length := by
  induction l with
  | nil => simp
  | cons n l ih =>
    have h1 := encI_len n (hb n (by simp)).1 (hb n (by simp)).2
    have h2 := ih fun m hm => hb m (by simp [hm])
    simp only [List.flatMap_cons, List.length_append, List.length_cons]
    omega
end Go.Proofs.Ytaonhmdifinadaa
