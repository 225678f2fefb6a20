/-
  Contracts of the reference's session: Next, Finish, Begin, Cancel, Waiting.
-/
import Derived.Test.YtaonhmdifinadaaSesR
namespace Go.Proofs.Ytaonhmdifinadaa
open Go Go.Proofs
open Go.RowKit
set_option linter.unusedVariables false
set_option linter.unusedSimpArgs false

theorem ranswer0_any (i b : Nat) (S : SesS) (e : Int) (t : ByteArray) (w : World) (o : Nat → Nat) (hi : 1 ≤ i) (hS : SesQ w o i b S) (hk : 0 < S.rq.length) (hn : S.rq.length ≤ 1000000) (ha : S.an.length ≤ 1000000) :
    Calls Try.prog 105 #[.pointer (some ⟨b, 0, none⟩), .int .i64 0, .int .i64 e, .string t] w fun x w' => x = .returned (.tuple #[]) ∧ ∃ o', Step (Own i) w o w' o' ∧ SesQ w' o' i b (ansS S 0 e t) :=
  ranswer_any i b 0 S e t w o hi hS hk hn ha

set_option maxRecDepth 100000 in
set_option maxHeartbeats 4000000 in
theorem rnext_any (i b lv : Nat) (S : SesS) (a : Option Addr) (c : Nat) (l : List Vn) (w : World) (o : Nat → Nat) (hi : 1 ≤ i) (hS : SesQ w o i b S) (hn : S.rq.length ≤ 1000) (ha : S.an.length ≤ 100000)
    (hx : RecD vnC 2 w o lv a c l) (hlv : ¬ Own i lv) :
    Calls Try.prog 74 #[.pointer (some ⟨b, 0, none⟩), .slice a l.length c] w fun x w' => (∃ r : Rq, r = (nextO S l).getD zeroR ∧ x = .returned (.tuple #[.agg #[.int .i64 r.id, .int .i64 r.kind, .string r.doc, .int .i64 r.ver, .int .i64 r.off, .string r.txt], .bool (nextO S l).isSome])) ∧
      ∃ o', Step (Own i) w o w' o' ∧ SesQ w' o' i b (nextS S l) := by
  obtain ⟨w1, hw1⟩ : ∃ x, x = w.alloc (.cells #[.int .i64 0, .int .i64 0, .string ⟨#[]⟩, .int .i64 0, .int .i64 0, .string ⟨#[]⟩] 60) := ⟨_, rfl⟩
  have hb0 : w1.heap[w.heap.size]? = some (.cells #[.int .i64 0, .int .i64 0, .string ⟨#[]⟩, .int .i64 0, .int .i64 0, .string ⟨#[]⟩] 60 (0, 0)) := by rw [hw1]; exact heap_alloc_new w _
  have hBB : Below w.heap.size w w1 := by rw [hw1]; exact (Below.refl _ w).alloc (Nat.le_refl _) _
  obtain ⟨o1, ho1⟩ : ∃ x, newLab w o 0 = x := ⟨_, rfl⟩
  have hs1 : Step (fun _ => False) w o w1 o1 := by rw [← ho1]; exact Step.below hBB fun k hk => newLab_old _ _ _ hk
  have hgw : Blk w1 o1 0 w.heap.size [.int .i64 0, .int .i64 0, .string ⟨#[]⟩, .int .i64 0, .int .i64 0, .string ⟨#[]⟩] := ⟨_, hb0, by rw [← ho1]; exact newLab_new _ _ _ (Nat.le_refl _)⟩
  have hS1 := hS.step hs1 (fun _ _ h => h)
  have hx1 := hx.step hs1 (fun h => h)
  clear hb0 hBB ho1 hS hx
  generalize hg : w.heap.size = gw at *
  obtain ⟨rv, av, h1, h2, h3⟩ := id hS1
  have c1 := h1.cell (j := 1) rfl
  have hxl := hx1.1.le
  have hxc := hx1.1.cap_le
  rw [hw1] at c1
  have HW1 := Lib.hid hw1
  have HS1 := Lib.hid hS1
  have HST := Lib.hid hs1
  have HGW := Lib.hid hgw
  have HX := Lib.hid hx1
  clear hw1 hS1 hs1 hgw hx1 h1 h2 h3
  cases hrun : S.run with
  | true =>
    rw [(next_run hrun l).1, (next_run hrun l).2]
    rw [hrun] at c1
    go_enter Try.func74, Try.ntmps74
    go_wp2_with fail
    rw [← HW1.out]
    obtain ⟨tz, hz, _⟩ := HGW.out
    exact bodyPost_ret (results_cell_two (fn := Try.f74) (p := 4) (u := 5) rfl _ _ _ _ _ _ _ rfl hz rfl rfl rfl) rfl ⟨⟨zeroR, rfl, rfl⟩, o1, HST.out.mono (fun _ h => h.elim), HS1.out⟩
  | false =>
    rw [hrun] at c1
    obtain ⟨NO, hNO⟩ : ∃ x, nextO S l = x := ⟨_, rfl⟩
    obtain ⟨NS, hNS⟩ : ∃ x, nextS S l = x := ⟨_, rfl⟩
    rw [hNO, hNS]
    have HNO := Lib.hid hNO
    have HNS := Lib.hid hNS
    have HRUN := Lib.hid hrun
    clear hNO hNS hrun
    go_enter Try.func74, Try.ntmps74
    go_wp2_with fail
    rw [← HW1.out]
    go_loopg [] (S.rq.length) (fun gg wr => ∃ o' S', Hid (Step (Own i) w1 o1 wr o') ∧ Hid (SesQ wr o' i b S') ∧ Hid (S'.run = false ∧ dropS l S' = dropS l S) ∧ S'.rq.length ≤ gg ∧ S'.rq.length ≤ 1000 ∧ S'.an.length + S'.rq.length ≤ 101000)
    case atStart => exact ⟨o1, S, Step.refl _ _ _, HS1.out, ⟨HRUN.out, rfl⟩, by omega, by omega, by omega⟩
    case round =>
      obtain ⟨o', S', hst, hs', hd, hgg, hn', ha'⟩ := hrel
      have hgr := HGW.out.step hst.out (Own.not0 hi)
      have hxr := HX.out.step hst.out hlv
      have hS' := hs'.out
      obtain ⟨rv2, av2, h1, h2, h3⟩ := hS'
      obtain ⟨ra, rc, rfl⟩ := h2.form
      have c0 := h1.cell (j := 0) rfl
      have cc1 := h1.cell (j := 1) rfl
      have dd1 := h1.frozen 1
      have hgl := hgr.frozen
      obtain ⟨z0, z1, z2, z3, z4, z5⟩ := hgr.six
      have y0 := hgr.frozen 0
      have y1 := hgr.frozen 1
      have y2 := hgr.frozen 2
      have y3 := hgr.frozen 3
      have y4 := hgr.frozen 4
      have y5 := hgr.frozen 5
      obtain ⟨rq, hrq⟩ : ∃ rq, S'.rq = rq := ⟨_, rfl⟩
      have hbw : b ≠ gw := fun e => by
        have e1 := h1.lab
        have e2 := hgr.lab
        rw [e] at e1
        omega
      have hST2 : Step (Own i) w o wr o' := HST.out.into hst.out
      have hwgw : w.heap.size ≤ gw := by omega
      cases rq with
      | nil =>
        have hfin := next_loop HRUN.out hd.out.1 hd.out.2 (fun r h => by rw [hrq] at h; cases h)
        have h0 : S'.rq.length = 0 := by rw [hrq]; rfl
        rw [h0] at c0 hgg hn' ha'
        have hNO : NO = none := by rw [← HNO.out, hfin.1, hrq]; rfl
        have hNS : NS = S' := by
          rw [← HNS.out, hfin.2]
          exact ses_run (by rw [hrq, hd.out.1]; rfl)
        have HNO2 := Lib.hid hNO
        have HNS2 := Lib.hid hNS
        obtain ⟨hss, tz, hz⟩ := hgr.setSix (.int .i64 0) (.int .i64 0) (.string ⟨#[]⟩) (.int .i64 0) (.int .i64 0) (.string ⟨#[]⟩)
        have HSS := Lib.hid hss
        have HZ := Lib.hid hz
        have HS' := Lib.hid (hs'.out.step hss (fun x hx e => (Own.not0 hi) (by rw [← e]; exact hx)))
        have HST2 := Lib.hid hST2
        clear hss hz hST2 h1 h2 h3 hd hst hs' hgr hxr hrq h0 hfin hNO hNS hgl
        go_wp2_with fail
        exact bodyPost_ret (results_cell_two (fn := Try.f74) (p := 4) (u := 5) rfl _ _ _ _ _ _ _ rfl HZ.out rfl rfl rfl) rfl ⟨⟨zeroR, by rw [HNO2.out]; rfl, by rw [HNO2.out]; rfl⟩, o', (((((HST2.out.far hwgw _).far hwgw _).far hwgw _).far hwgw _).far hwgw _).far hwgw _, by rw [HNS2.out]; exact HS'.out⟩
      | cons r rs =>
        have hnn : S'.rq.length = rs.length + 1 := by rw [hrq]; rfl
        have hr0 : S'.rq[0]? = some r := by rw [hrq]; rfl
        obtain ⟨g, gc, he, hog, hgl2⟩ := h2.own (by omega)
        simp only [Value.slice.injEq] at he
        obtain ⟨rfl, _, rfl⟩ := he
        obtain ⟨f0, f1, f2, f3, f4, f5⟩ := Rqs.cells h2.recAt.2 hr0
        simp only [Nat.zero_add, Nat.zero_mul] at f0 f1 f2 f3 f4 f5
        have hle := h2.recAt.2.le
        rw [hnn] at c0 hgg hn' ha' hle
        have ks := rstale_any r a c l wr hxr.1
        have hgne : g ≠ gw := fun e => by
          have e2 := hgr.lab
          rw [← e, hog] at e2
          omega
        cases hst1 : stale l r with
        | true =>
          rw [hst1] at ks
          obtain ⟨q1, q2, q3, q4⟩ := drop_ans hrq hst1 hd.out.1
          have KS := Lib.hid ks
          have KA := Lib.hid fun W (hB : Below wr.heap.size wr W) => ranswer0_any i b S' 17 ⟨#[]⟩ W o' hi (hs'.out.same hB) (by omega) (by omega) (by omega)
          have H1 := Lib.hid q1
          have H2 := Lib.hid q2
          have H3 := Lib.hid q3
          have H4 := Lib.hid q4
          obtain ⟨ri, rk, rd, rv3, ro, rt⟩ := r
          simp only at f0 f1 f2 f3 f4 f5 KS
          clear q1 q2 q3 q4 ks h1 h2 h3 hgr hxr hrq hr0 hst1 hgl hST2
          go_wp2_with fail
          refine KS.out.mono ?_
          rintro x w2 ⟨rfl, hb2⟩
          go_wp2_with fail
          refine (KA.out _ hb2).mono ?_
          rintro x w3 ⟨rfl, o3, hs3, hS3⟩
          go_wp2_with fail
          go_roundg (rs.length)
          case measure => omega
          case rel =>
            refine ⟨o3, _, (hst.out.trans (Step.same hb2)).trans hs3, hS3, ⟨H2.out, H1.out.trans hd.out.2⟩, ?_, ?_, ?_⟩
            · have := H3.out; rw [show (ansS S' 0 17 { data := #[] }).rq = rs from this]; exact Nat.le_refl _
            · have := H3.out; rw [show (ansS S' 0 17 { data := #[] }).rq = rs from this]; omega
            · have := H3.out; have h4 := H4.out; rw [show (ansS S' 0 17 { data := #[] }).rq = rs from this, show (ansS S' 0 17 { data := #[] }).an.length = _ from h4]; omega
        | false =>
          rw [hst1] at ks
          have hfin := next_loop HRUN.out hd.out.1 hd.out.2 (fun q hq => by rw [hrq] at hq; cases hq; exact hst1)
          have HNO2 : Hid (NO = some r) := by rw [← HNO.out, hfin.1, hrq]; exact rfl
          have HNS2 : Hid (NS = { S' with run := true }) := by rw [← HNS.out, hfin.2, hrq]; exact rfl
          have hgb : g ≠ b := fun e => by
            have e1 := h1.lab
            rw [← e, hog] at e1
            omega
          have hgb' : b ≠ g := fun e => hgb e.symm
          have hgne' : gw ≠ g := fun e => hgne e.symm
          have hbw' : gw ≠ b := fun e => hbw e.symm
          have KS := Lib.hid ks
          have H1 := Lib.hid h1
          have H2 := Lib.hid h2
          have H3 := Lib.hid h3
          have HG := Lib.hid hgr
          have HR0 := Lib.hid hr0
          obtain ⟨ri, rk, rd, rv3, ro, rt⟩ := r
          simp only at f0 f1 f2 f3 f4 f5 KS
          clear ks h1 h2 h3 hgr hxr hrq hr0 hst1 hgl z0 z1 z2 z3 z4 z5 y0 y1 y2 y3 y4 y5 hfin
          go_wp2_with fail
          refine KS.out.mono ?_
          rintro x w2 ⟨rfl, hb2⟩
          have hs2 : Step (fun _ => False) wr o' w2 o' := Step.same hb2
          have c0 := Below.kept hb2 (Nat.le_refl _) c0
          have cc1 := Below.kept hb2 (Nat.le_refl _) cc1
          have f0 := Below.kept hb2 (Nat.le_refl _) f0
          have f1 := Below.kept hb2 (Nat.le_refl _) f1
          have f2 := Below.kept hb2 (Nat.le_refl _) f2
          have f3 := Below.kept hb2 (Nat.le_refl _) f3
          have f4 := Below.kept hb2 (Nat.le_refl _) f4
          have f5 := Below.kept hb2 (Nat.le_refl _) f5
          have h1 := H1.out.step hs2 (fun h => h)
          have hgr := HG.out.step hs2 (fun h => h)
          have dd1 := h1.frozen 1
          obtain ⟨z0, z1, z2, z3, z4, z5⟩ := hgr.six
          have y0 := hgr.frozen 0
          have y1 := hgr.frozen 1
          have y2 := hgr.frozen 2
          have y3 := hgr.frozen 3
          have y4 := hgr.frozen 4
          have y5 := hgr.frozen 5
          have hs3 := h1.setCellStep 1 (.bool true)
          have HB1 := Lib.hid (h1.set 1 (.bool true))
          have HS3 := Lib.hid hs3
          have HG2 := Lib.hid hgr
          have HHS2 := Lib.hid hs2
          have hb2' := Lib.hid hb2
          have HST2 := Lib.hid hST2
          have HO := Lib.hid hog
          clear hs3 h1 hgr hs2 hb2 hST2 z0 z1 z2 z3 z4 z5 y0 y1 y2 y3 y4 y5
          go_upto_region 8 with fail
          obtain ⟨w3, hw3⟩ : ∃ x, x = w2.setCell ⟨b, 1, none⟩ (.bool true) := ⟨_, rfl⟩
          rw [← hw3]
          rw [← hw3] at HS3 HB1
          have hs3 := HS3.out
          have hs2 := HHS2.out
          have h1 := HB1.out
          have hgr := HG2.out.step hs3 (by omega)
          have h2 := (H2.out.step hs2 (fun h => h)).step hs3 (by omega)
          have h3 := (H3.out.step hs2 (fun h => h)).step hs3 (by omega)
          have c0 := h1.cell (j := 0) rfl
          have hrr : S'.rq[0]? = some ⟨ri, rk, rd, rv3, ro, rt⟩ := HR0.out
          obtain ⟨f0, f1, f2, f3, f4, f5⟩ := Rqs.cells h2.recAt.2 hrr
          simp only [Nat.zero_add, Nat.zero_mul] at f0 f1 f2 f3 f4 f5
          have y0 := hgr.frozen 0
          have y1 := hgr.frozen 1
          have y2 := hgr.frozen 2
          have y3 := hgr.frozen 3
          have y4 := hgr.frozen 4
          have y5 := hgr.frozen 5
          obtain ⟨z0, z1, z2, z3, z4, z5⟩ := hgr.six
          obtain ⟨hss, tz, hz⟩ := hgr.setSix (.int .i64 ri) (.int .i64 rk) (.string rd) (.int .i64 rv3) (.int .i64 ro) (.string rt)
          have HZ := Lib.hid hz
          have HS4 := Lib.hid (show SesQ _ o' i b { S' with run := true } from ⟨_, _, h1.step hss (by omega), h2.step hss (by omega), h3.step hss (by omega)⟩)
          have HST4 := Lib.hid ((HST2.out.trans (Step.same hb2'.out)).trans (hs3.mono fun l hl => by subst hl; exact Own.at0 i))
          clear hs2 hs3 h1 h2 h3 hgr hss hz hrr hw3 HS3 HB1 HG2 HHS2 hb2' HST2
          go_wp2_with fail
          exact bodyPost_ret (results_cell_two (fn := Try.f74) (p := 4) (u := 5) rfl _ _ _ _ _ _ _ rfl HZ.out rfl rfl rfl) rfl ⟨⟨⟨ri, rk, rd, rv3, ro, rt⟩, by rw [HNO2.out]; rfl, by rw [HNO2.out]; rfl⟩, o', (((((HST4.out.far hwgw _).far hwgw _).far hwgw _).far hwgw _).far hwgw _).far hwgw _, by rw [HNS2.out]; exact HS4.out⟩
set_option maxRecDepth 100000 in
set_option maxHeartbeats 4000000 in
theorem rfinish_any (i b lv : Nat) (S : SesS) (id e : Int) (t : ByteArray) (a : Option Addr) (c : Nat) (l : List Vn) (w : World) (o : Nat → Nat) (hi : 1 ≤ i) (hS : SesQ w o i b S) (hr : S.run = true → S.rq ≠ []) (hn : S.rq.length ≤ 1000000) (ha : S.an.length ≤ 1000000)
    (hx : RecAt vnC 2 w a c l) :
    Calls Try.prog 76 #[.pointer (some ⟨b, 0, none⟩), .int .i64 id, .int .i64 e, .string t, .slice a l.length c] w fun x w' => x = .returned (.int .i64 (finE S id)) ∧ ∃ o', Step (Own i) w o w' o' ∧ SesQ w' o' i b (finS S id e t l) := by
  have hS' := hS
  obtain ⟨rv, av, h1, h2, h3⟩ := hS'
  obtain ⟨ra, rc, rfl⟩ := h2.form
  have hrec := h2.recAt.2
  have c0 := h1.cell (j := 0) rfl
  have c1 := h1.cell (j := 1) rfl
  have hxl := hx.le
  have hxc := hx.cap_le
  have hle := hrec.le
  cases hrun : S.run with
  | false =>
    rw [(finS_nil hrun id e t l).1, (finS_nil hrun id e t l).2]
    rw [hrun] at c1
    clear h1 h2 h3 hrec hr
    go_enter Try.func76, Try.ntmps76
    go_wp2_with fail
    go_ret
    exact ⟨rfl, o, Step.refl _ _ _, hS⟩
  | true =>
    have hp : 0 < S.rq.length := List.length_pos_iff.2 (hr hrun)
    obtain ⟨r, hr0⟩ : ∃ r, S.rq[0]? = some r := ⟨S.rq[0], List.getElem?_eq_getElem hp⟩
    obtain ⟨g, gc, he, hog, hgl⟩ := h2.own hp
    simp only [Value.slice.injEq] at he
    obtain ⟨rfl, _, rfl⟩ := he
    obtain ⟨f0, f1, f2, f3, f4, f5⟩ := Rqs.cells hrec hr0
    simp only [Nat.zero_add, Nat.zero_mul] at f0 f1 f2 f3 f4 f5
    rw [hrun] at c1
    by_cases hid : r.id = id
    · have hf := finS_yes hrun hr0 hid e t l
      rw [hf.1, hf.2]
      clear hf
      have ks := rstale_any r a c l w hx
      generalize stale l r = s at *
      obtain ⟨T, hT⟩ : ∃ T, ansS S 0 (if s = true then 17 else e) (if s = true then ByteArray.empty else if e = 0 then t else ByteArray.empty) = T := ⟨_, rfl⟩
      rw [hT]
      have HT := Lib.hid hT
      clear hT
      have HS := Lib.hid hS
      have HR0 := Lib.hid hr0
      obtain ⟨ri, rk, rd, rw_, ro, rt⟩ := r
      simp only at f0 f1 f2 f3 f4 f5 hid ks
      have hid' : (ri != id) = false := by simp [hid]
      have KS := Lib.hid ks
      clear ks h1 h2 h3 hS hrec hr hr0 hx hid hrun
      have hp1 : (0 : Int) < S.rq.length := by omega
      go_enter Try.func76, Try.ntmps76
      go_wp2_with fail
      refine KS.out.mono ?_
      rintro x w2 ⟨rfl, hb2⟩
      have hS2 := HS.out.same hb2
      have ka := ranswer0_any i b S (if s = true then 17 else e) (if s = true then ByteArray.empty else if e = 0 then t else ByteArray.empty) w2 o hi hS2 hp hn ha
      rw [HT.out] at ka
      have hst := Step.same (L := fun _ => False) (o := o) hb2
      have HST := Lib.hid hst
      clear hst f0 f1 f2 f3 f4 f5 c0 c1 KS HS HR0 HT hS2 hb2
      cases s with
      | true =>
        rw [if_pos rfl, if_pos rfl] at ka
        have KA := Lib.hid ka
        clear ka
        go_wp2_with fail
        refine KA.out.mono ?_
        rintro x w3 ⟨rfl, o3, hs3, hS3⟩
        go_wp2_with fail
        go_ret
        exact ⟨rfl, o3, HST.out.into hs3, hS3⟩
      | false =>
        rw [if_neg (by decide), if_neg (by decide)] at ka
        by_cases he : e = 0
        · have he' : (e != 0) = false := by simp [he]
          rw [if_pos he] at ka
          have KA := Lib.hid ka
          clear ka he
          go_wp2_with fail
          refine KA.out.mono ?_
          rintro x w3 ⟨rfl, o3, hs3, hS3⟩
          go_wp2_with fail
          go_ret
          exact ⟨rfl, o3, HST.out.into hs3, hS3⟩
        · have he' : (e != 0) = true := by simp [he]
          rw [if_neg he] at ka
          have KA := Lib.hid ka
          clear ka he
          go_wp2_with fail
          refine KA.out.mono ?_
          rintro x w3 ⟨rfl, o3, hs3, hS3⟩
          go_wp2_with fail
          go_ret
          exact ⟨rfl, o3, HST.out.into hs3, hS3⟩
    · have hf := finS_no hr0 hid e t l
      rw [hf.1, hf.2]
      clear hf
      obtain ⟨ri, rk, rd, rw_, ro, rt⟩ := r
      simp only at f0 f1 f2 f3 f4 f5 hid
      have hid' : (ri != id) = true := by simp [hid]
      clear h1 h2 h3 hrec hr hr0 hx hid hrun
      have hp1 : (0 : Int) < S.rq.length := by omega
      go_enter Try.func76, Try.ntmps76
      go_wp2_with fail
      go_ret
      exact ⟨rfl, o, Step.refl _ _ _, hS⟩

set_option maxRecDepth 100000 in
set_option maxHeartbeats 4000000 in
theorem rbegin_any (i b : Nat) (S : SesS) (r : Rq) (w : World) (o : Nat → Nat) (hi : 1 ≤ i) (hS : SesQ w o i b S) (hG : Good S) (hd : r.doc.size ≤ 9223372036854775807) (ht : r.txt.size ≤ 9223372036854775807) :
    Calls Try.prog 36 #[.pointer (some ⟨b, 0, none⟩), .agg #[.int .i64 r.id, .int .i64 r.kind, .string r.doc, .int .i64 r.ver, .int .i64 r.off, .string r.txt]] w fun e w' =>
      e = .returned (.int .i64 (begE S r)) ∧ ∃ o', Step (Own i) w o w' o' ∧ SesQ w' o' i b (begS S r) := by
  have hlen := hG.len
  have hrun := hG.run
  have kv := fun W => rok_any r W hd ht
  have hE : begE S r = if okR r = false then 1 else if r.id ≤ S.last then 8 else if 64 ≤ waitN S then 4 else 0 := rfl
  have hB : begS S r = if begE S r = 0 then { S with last := r.id, rq := S.rq ++ [r] } else S := rfl
  obtain ⟨w1, hw1⟩ : ∃ x, x = w.alloc (.cells #[.int .i64 r.id, .int .i64 r.kind, .string r.doc, .int .i64 r.ver, .int .i64 r.off, .string r.txt] 60) := ⟨_, rfl⟩
  have hb0 : w1.heap[w.heap.size]? = some (.cells #[.int .i64 r.id, .int .i64 r.kind, .string r.doc, .int .i64 r.ver, .int .i64 r.off, .string r.txt] 60 (0, 0)) := by rw [hw1]; exact heap_alloc_new w _
  have hBB : Below w.heap.size w w1 := by rw [hw1]; exact (Below.refl _ w).alloc (Nat.le_refl _) _
  obtain ⟨o0, ho0⟩ : ∃ x, newLab w o 0 = x := ⟨_, rfl⟩
  have hs1 : Step (fun _ => False) w o w1 o0 := by rw [← ho0]; exact Step.below hBB fun k hk => newLab_old _ _ _ hk
  have hgw : Blk w1 o0 0 w.heap.size [.int .i64 r.id, .int .i64 r.kind, .string r.doc, .int .i64 r.ver, .int .i64 r.off, .string r.txt] := ⟨_, hb0, by rw [← ho0]; exact newLab_new _ _ _ (Nat.le_refl _)⟩
  have hS1 := hS.step hs1 (fun _ _ h => h)
  clear hb0 hBB ho0 hS
  generalize hg : w.heap.size = gw at *
  obtain ⟨ok, hok⟩ : ∃ x, okR r = x := ⟨_, rfl⟩
  rw [hok] at hE
  simp only [hok] at kv
  obtain ⟨rs, run, last, an⟩ := S
  simp only at hlen hrun hE hB
  obtain ⟨n, hxn⟩ : ∃ n, rs.length = n := ⟨_, rfl⟩
  have hwn : waitN ⟨rs, run, last, an⟩ = n - if run = true then 1 else 0 := by rw [← hxn]; rfl
  rw [hwn] at hE
  rw [hxn] at hlen
  have hn0 : run = true → 0 < n := fun h => by
    have := List.length_pos_iff.2 (hrun h)
    omega
  obtain ⟨E, hEE⟩ : ∃ E, begE ⟨rs, run, last, an⟩ r = E := ⟨_, rfl⟩
  obtain ⟨T, hTT⟩ : ∃ T, begS ⟨rs, run, last, an⟩ r = T := ⟨_, rfl⟩
  rw [hEE] at hE hB ⊢
  rw [hTT] at hB ⊢
  obtain ⟨ri, rk, rd, rv, ro, rt⟩ := r
  simp only at kv hE hB hgw hw1
  have HB := Lib.hid hB
  have HE := Lib.hid hE
  have KV := Lib.hid kv
  have HW1 := Lib.hid hw1
  have HXN := Lib.hid hxn
  clear hB hE kv hw1 hrun hwn hEE hTT hok hG hd ht hxn
  obtain ⟨q, hq⟩ : ∃ q, n - (if run = true then 1 else 0) = q := ⟨_, rfl⟩
  have hq65 : q ≤ 65 := by rw [← hq]; omega
  have hE' := HE.out
  rw [hq] at hE'
  have HE := Lib.hid hE'
  have HQ := Lib.hid hq
  clear hE' hq
  obtain ⟨g0, g1, g2, g3, g4, g5⟩ := hgw.six
  rw [HW1.out] at g0 g1 g2 g3 g4 g5
  have HS1 := Lib.hid hS1
  have HST := Lib.hid hs1
  have HGW := Lib.hid hgw
  clear hS1 hs1 hgw
  go_enter Try.func36, Try.ntmps36
  go_wp2_with fail
  rw [← HW1.out]
  refine (KV.out _).mono ?_
  rintro e w2 ⟨rfl, hb2⟩
  have hS2 := HS1.out.same hb2
  have hg2 := HGW.out.step (Step.same (L := fun _ => False) hb2) (fun h => h)
  obtain ⟨rv', av, h1, h2, h3⟩ := id hS2
  obtain ⟨ra2, rc2, rfl⟩ := h2.form
  obtain ⟨aa2, ac2, rfl⟩ := h3.form
  rw [HXN.out] at h1
  have c2 := h1.cell (j := 2) rfl
  clear g0 g1 g2 g3 g4 g5
  obtain ⟨g0, g1, g2, g3, g4, g5⟩ := hg2.six
  have HS2 := Lib.hid hS2
  have HG2 := Lib.hid hg2
  have HST2 := Lib.hid (HST.out.trans (Step.same (L := fun _ => False) hb2))
  clear hb2 hS2 hg2 h1 h2 h3 HS1 HGW HST
  cases ok with
  | false =>
    have hE1 : E = 1 := HE.out
    have hT1 := HB.out
    subst hE1
    have HT1 := Lib.hid hT1
    clear hT1
    go_wp2_with fail
    go_ret
    rw [show T = _ from HT1.out]
    exact ⟨rfl, o0, HST2.out.mono (fun _ h => h.elim), HS2.out⟩
  | true =>
    have hE1 := HE.out
    rw [if_neg (by decide)] at hE1
    have HE := Lib.hid hE1
    clear hE1
    go_wp2_with fail
    go_quiet (fail)
    obtain ⟨w3, hw3⟩ : ∃ x, x = w2.drewN nq := ⟨_, rfl⟩
    have hb3 : Below w2.heap.size w2 w3 := by rw [hw3]; exact Below.drewN nq
    rw [← hw3]
    have hS3 := HS2.out.same hb3
    have hg3 := HG2.out.step (Step.same (L := fun _ => False) hb3) (fun h => h)
    have hst3 := HST2.out.trans (Step.same (L := fun _ => False) hb3)
    clear hw3 hb3 c2 g0 g1 g2 g3 g4 g5 HS2 HG2 HST2 HW1
    obtain ⟨rv', av, h1, h2, h3⟩ := id hS3
    obtain ⟨ra3, rc3, rfl⟩ := h2.form
    obtain ⟨aa3, ac3, rfl⟩ := h3.form
    rw [HXN.out] at h1
    have c0 := h1.cell (j := 0) rfl
    have c1 := h1.cell (j := 1) rfl
    have c2 := h1.cell (j := 2) rfl
    have d2 := h1.frozen 2
    obtain ⟨g0, g1, g2, g3, g4, g5⟩ := hg3.six
    have H1 := Lib.hid h1
    have H2 := Lib.hid h2
    have H3 := Lib.hid h3
    have HS3 := Lib.hid hS3
    have HG3 := Lib.hid hg3
    have HST3 := Lib.hid hst3
    clear h1 h2 h3 hS3 hg3 hst3
    by_cases hl : ri ≤ last
    · have hE1 := HE.out
      rw [if_pos hl] at hE1
      subst hE1
      have dl : decide (ri ≤ last) = true := decide_eq_true hl
      go_wp2_with fail
      go_ret
      rw [show T = _ from HB.out]
      exact ⟨rfl, o0, HST3.out.mono (fun _ h => h.elim), HS3.out⟩
    · have dl : decide (ri ≤ last) = false := decide_eq_false hl
      have hE1 := HE.out
      rw [if_neg hl] at hE1
      have HE5 := Lib.hid hE1
      clear hE1
      go_upto_if 26 with fail
      go_cut [6] (fun s6 wx => s6 = .int .i64 (q : Int) ∧ wx = w3)
      case first =>
        cases run with
        | false =>
          have hqn : n = q := HQ.out
          go_wp2_with fail
          go_meet
          exact ⟨rfl, rfl⟩
        | true =>
          have hn1 := hn0 rfl
          have hqn : n - 1 = q := HQ.out
          go_wp2_with fail
          go_meet
          exact ⟨by rw [← hqn]; congr 1; omega, rfl⟩
      case rest =>
        obtain ⟨rfl, hwc⟩ := hcut
        have hwc := hwc.symm
        subst hwc
        have hE1 := HE5.out
        by_cases hq : 64 ≤ q
        · rw [if_pos hq] at hE1
          subst hE1
          have dq : (64 : Int) ≤ (q : Int) := by omega
          go_wp2_with fail
          go_ret
          rw [show T = _ from HB.out]
          exact ⟨rfl, o0, HST3.out.mono (fun _ h => h.elim), HS3.out⟩
        · rw [if_neg hq] at hE1
          have hT1 := HB.out
          rw [hE1, if_pos rfl] at hT1
          have HT := Lib.hid hT1
          subst hE1
          clear hT1
          have dq : ¬ (64 : Int) ≤ (q : Int) := by omega
          obtain ⟨w4, hw4⟩ : ∃ x, x = w3.setCell ⟨b, 2, none⟩ (.int .i64 ri) := ⟨_, rfl⟩
          have hs4 : Step (· = 10 * i) w3 o0 w4 o0 := by rw [hw4]; exact (Step.refl _ _ _).set (p := ⟨b, 2, none⟩) H1.out.lab _
          have h14 : Blk w4 o0 (10 * i) b [.slice ra3 n rc3, .bool run, .int .i64 ri, .slice aa3 an.length ac3] := by rw [hw4]; exact H1.out.set 2 _
          have h24 := H2.out.step hs4 (by omega)
          have h34 := H3.out.step hs4 (by omega)
          have hg4 := HG3.out.step hs4 (by omega)
          have HST4 := Lib.hid (HST3.out.into hs4)
          have HW4 := Lib.hid hw4
          unfold RecL at h24
          rw [HXN.out] at h24
          have H14 := Lib.hid h14
          have H24 := Lib.hid h24
          have H34 := Lib.hid h34
          have HG4 := Lib.hid hg4
          clear hw4 hs4 h24 h34 hg4 HS3 hq
          go_wp2_with fail
          rw [← HW4.out]
          clear c0 c1 c2 d2 g0 g1 g2 g3 g4 g5 HW4 H1 H2 H3 HG3 HST3
          obtain ⟨g0, g1, g2, g3, g4, g5⟩ := HG4.out.six
          have c0 := h14.cell (j := 0) rfl
          have c0d : w4.drew.cell? ⟨b, 0, none⟩ = some (.slice ra3 n rc3) := c0
          have g0d : w4.drew.cell? ⟨gw, 0, none⟩ = some (.int .i64 ri) := g0
          have g1d : w4.drew.cell? ⟨gw, 1, none⟩ = some (.int .i64 rk) := g1
          have g2d : w4.drew.cell? ⟨gw, 2, none⟩ = some (.string rd) := g2
          have g3d : w4.drew.cell? ⟨gw, 3, none⟩ = some (.int .i64 rv) := g3
          have g4d : w4.drew.cell? ⟨gw, 4, none⟩ = some (.int .i64 ro) := g4
          have g5d : w4.drew.cell? ⟨gw, 5, none⟩ = some (.string rt) := g5
          have c0a := fun ob => Below.kept ((Below.refl _ w4).alloc (Nat.le_refl _) ob) (Nat.le_refl _) c0
          have c0b := fun ob => Below.kept ((Below.refl _ w4.drew).alloc (Nat.le_refl _) ob) (Nat.le_refl _) c0d
          clear h14
          go_region_law (refine step_append_row (by rfl) (.tmp 40) (.tmp 42) 70 (by rfl) elemRq (by rfl) H24.out ((Below.drew (Below.refl _ w4)).alloc (Nat.le_refl _) _) (some ⟨w4.drew.heap.size, 0, none⟩) 1 1 (rqC ⟨ri, rk, rd, rv, ro, rt⟩) (by rfl) (row_new (cs := rqC ⟨ri, rk, rd, rv, ro, rt⟩) (by rfl) (by omega)) (rqO _) (by omega) (by omega) ?_; intro v' w5 hrow5 hs5
                         obtain ⟨a5, c5, rfl⟩ := hrow5.form
                         have H15 := H14.out.step hs5 (by omega)
                         have k2 := H15.cell (j := 0) rfl
                         have k3 := H15.frozen 0)
          all_goals
            clear g0 g1 g2 g3 g4 g5 g0d g1d g2d g3d g4d g5d c0 c0d c0a c0b
            go_wp2_with fail
            go_ret
            rw [HT.out]
            obtain ⟨o5, ho5⟩ : ∃ x, newLab w4 o0 (10 * i + 1) = x := ⟨_, rfl⟩
            rw [ho5] at hs5 hrow5 H15
            have hs6 : Step (· = 10 * i) w5 o5 (w5.setCell ⟨b, 0, none⟩ (.slice a5 (n + 1) c5)) o5 := (Step.refl _ _ _).set (p := ⟨b, 0, none⟩) H15.lab _
            refine ⟨rfl, o5, ((HST4.out.mono fun l hl => by subst hl; exact Own.at0 i).trans (hs5.mono fun l hl => by subst hl; exact Own.at1 i)).trans (hs6.mono fun l hl => by subst hl; exact Own.at0 i), _, _, H15.set 0 _, ?_, (H34.out.step hs5 (by omega)).step hs6 (by omega)⟩
            have h7 := hrow5.step hs6 (by omega)
            refine RecL.snoc ?_
            rw [HXN.out]
            exact h7

/-- Cancel: the search is a loop here. -/
theorem ixR_take {l : List Rq} {id : Int} {k : Nat} (hk : k < l.length) (hA : ∀ (j : Nat) (y : Rq), j < k → l[j]? = some y → y.id ≠ id) (h : (l[k]'hk).id = id) : ixR l id = k :=
  ixR_hit (List.getElem?_eq_getElem hk) h fun j hj x hx => hA j x hj hx
theorem SesAt.setRun {tr ta : TypeId} {w : World} {o : Nat → Nat} {i b : Nat} {S : SesS} (h : SesAt tr ta w o i b S) (r : Bool) : Step (Own i) w o (w.setCell ⟨b, 1, none⟩ (.bool r)) o ∧ SesAt tr ta (w.setCell ⟨b, 1, none⟩ (.bool r)) o i b { S with run := r } := by
  obtain ⟨rv, av, h1, h2, h3⟩ := h
  have hs := h1.setCellStep 1 (.bool r)
  exact ⟨hs.mono fun l hl => by subst hl; exact Own.at0 i, rv, av, h1.set 1 _, h2.step hs (by omega), h3.step hs (by omega)⟩
set_option maxRecDepth 100000 in
set_option maxHeartbeats 4000000 in
theorem rcancel_any (i b : Nat) (S : SesS) (id : Int) (w : World) (o : Nat → Nat) (hi : 1 ≤ i) (hS : SesQ w o i b S) (hn : S.rq.length ≤ 1000000) (ha : S.an.length ≤ 1000000) :
    Calls Try.prog 73 #[.pointer (some ⟨b, 0, none⟩), .int .i64 id] w fun e w' => e = .returned (.int .i64 (canE S id)) ∧ ∃ o', Step (Own i) w o w' o' ∧ SesQ w' o' i b (canS S id) := by
  have hE : canE S id = if ixR S.rq id < S.rq.length then 0 else 7 := rfl
  have hT : canS S id = ansS S (ixR S.rq id) 18 ByteArray.empty := rfl
  obtain ⟨E, hEE⟩ : ∃ E, canE S id = E := ⟨_, rfl⟩
  obtain ⟨T, hTT⟩ : ∃ T, canS S id = T := ⟨_, rfl⟩
  rw [hEE] at hE ⊢
  rw [hTT] at hT ⊢
  have HE := Lib.hid hE
  have HT := Lib.hid hT
  have hS' := hS
  obtain ⟨rv, av, h1, h2, h3⟩ := hS'
  obtain ⟨ra, rc, rfl⟩ := h2.form
  have c0 := h1.cell (j := 0) rfl
  have c1 := h1.cell (j := 1) rfl
  have HREC := Lib.hid h2.recAt.2
  have hcl := h2.recAt.2.cap_le
  have hle := h2.recAt.2.le
  have HS := Lib.hid hS
  clear hE hT hEE hTT hS h1 h2 h3
  go_enter Try.func73, Try.ntmps73
  go_wp2_with fail
  go_loop [5] (fun iv => ∃ k : Nat, k ≤ S.rq.length ∧ iv = .int .i64 k ∧ Hid (∀ (j : Nat) (y : Rq), j < k → S.rq[j]? = some y → y.id ≠ id)) (fun iv => S.rq.length - (intOf iv).toNat)
  case atStart => exact ⟨0, by omega, rfl, fun j y h => by omega⟩
  case round =>
    obtain ⟨k, hk, rfl, hA⟩ := hrel
    by_cases hlt : k < S.rq.length
    · obtain ⟨g, off, rfl⟩ := RecAt.addr rqZ (by decide) HREC.out (by omega)
      obtain ⟨e, he⟩ : ∃ e, S.rq[k]? = some e := ⟨S.rq[k], List.getElem?_eq_getElem hlt⟩
      obtain ⟨f0, f1, f2, f3, f4, f5⟩ := Rqs.cells HREC.out he
      have hek : S.rq[k] = e := by rw [List.getElem?_eq_getElem hlt, Option.some.injEq] at he; exact he
      by_cases hid : e.id = id
      · have hx := ixR_take hlt hA.out (by rw [hek]; exact hid)
        have hE1 := HE.out
        rw [hx, if_pos hlt] at hE1
        have hT1 := HT.out
        rw [hx] at hT1
        have hb : (e.id == id) = true := by simp [hid]
        have ka := ranswer_any i b k S 18 ⟨#[]⟩ w o hi HS.out hlt hn ha
        have KA := Lib.hid ka
        have HT1 := Lib.hid hT1
        have HRR : Hid ({ (ansS S k 18 ⟨#[]⟩) with run := S.run && decide (0 < k) } = ansS S k 18 ByteArray.empty) := by
          rw [ans_eq he, ans_eq he]; exact rfl
        obtain ⟨eid, heid⟩ : ∃ x, e.id = x := ⟨_, rfl⟩
        rw [heid] at f0 hb
        subst hE1
        clear he hek hid hx hT1 ka f1 f2 f3 f4 f5 heid
        obtain ⟨run, hrun⟩ : ∃ x, S.run = x := ⟨_, rfl⟩
        rw [hrun] at c1 HRR
        clear hrun
        by_cases hk0 : 0 < k
        · have dk : decide ((0 : Int) < (k : Int)) = true := decide_eq_true (by omega)
          have dk' : decide (0 < k) = true := decide_eq_true hk0
          rw [dk', Bool.and_true] at HRR
          cases run
          all_goals
            go_wp2_with fail
            refine KA.out.mono ?_
            rintro x w3 ⟨rfl, o3, hs3, hS3⟩
            obtain ⟨hs4, hS4⟩ := hS3.setRun _
            rw [HRR.out] at hS4
            obtain ⟨_, _, h1, _, _⟩ := hS3
            have d1 := h1.frozen 1
            have e1 := h1.cell (j := 1) rfl
            have HS4 := Lib.hid hs4
            have HSS4 := Lib.hid hS4
            have HS3 := Lib.hid hs3
            clear hs4 hS4 hs3 h1 f0 c0 c1
            go_wp2_with fail
            go_ret
            refine ⟨rfl, o3, HS3.out.trans HS4.out, ?_⟩
            rw [show T = _ from HT1.out]
            exact HSS4.out
        · obtain rfl : k = 0 := by omega
          rw [Nat.zero_mul, Nat.add_zero] at f0
          have dk' : decide ((0 : Nat) < 0) = false := rfl
          rw [dk', Bool.and_false] at HRR
          cases run
          all_goals
            go_wp2_with fail
            refine KA.out.mono ?_
            rintro x w3 ⟨rfl, o3, hs3, hS3⟩
            obtain ⟨hs4, hS4⟩ := hS3.setRun _
            rw [HRR.out] at hS4
            obtain ⟨_, _, h1, _, _⟩ := hS3
            have d1 := h1.frozen 1
            have e1 := h1.cell (j := 1) rfl
            have HS4 := Lib.hid hs4
            have HSS4 := Lib.hid hS4
            have HS3 := Lib.hid hs3
            clear hs4 hS4 hs3 h1 f0 c0 c1
            go_wp2_with fail
            go_ret
            refine ⟨rfl, o3, HS3.out.trans HS4.out, ?_⟩
            rw [show T = _ from HT1.out]
            exact HSS4.out
      · have hb : (e.id == id) = false := by simp [hid]
        have hA2 : Hid (∀ (j : Nat) (y : Rq), j < k + 1 → S.rq[j]? = some y → y.id ≠ id) := by
          intro j y hj hy
          rcases Nat.lt_or_ge j k with h | h
          · exact hA.out j y h hy
          · obtain rfl : j = k := by omega
            rw [he] at hy
            cases hy
            exact hid
        obtain ⟨eid, heid⟩ : ∃ x, e.id = x := ⟨_, rfl⟩
        rw [heid] at f0 hb
        clear he hek hid f1 f2 f3 f4 f5 heid
        go_wp2_with fail
        go_round
        case rel => exact ⟨k + 1, by omega, by go_num, hA2⟩
        case measure => simp [intOf]; omega
    · obtain rfl : k = S.rq.length := by omega
      have hx := ixR_miss fun j y hy => hA.out j y (List.getElem?_eq_some_iff.1 hy).1 hy
      have hE1 := HE.out
      rw [hx, if_neg (by omega)] at hE1
      have hT1 := HT.out
      rw [hx, ans_none (by omega)] at hT1
      have HT1 := Lib.hid hT1
      subst hE1
      clear hT1 hx
      go_wp2_with fail
      go_ret
      refine ⟨rfl, o, Step.refl _ _ _, ?_⟩
      rw [show T = _ from HT1.out]
      exact HS.out

set_option maxRecDepth 100000 in
set_option maxHeartbeats 1000000 in
theorem rwaiting_any (i b : Nat) (S : SesS) (w : World) (o : Nat → Nat) (hS : SesQ w o i b S) (hn : S.rq.length ≤ 1000000) :
    Calls Try.prog 32 #[.pointer (some ⟨b, 0, none⟩)] w fun e w' => ∃ v, e = .returned v ∧ w'.ownsRow w.heap.size 3 1 v S.rq.length ((idsR S.rq).map intV) ∧ Below w.heap.size w w' := by
  obtain ⟨rv, av, h1, h2, h3⟩ := hS
  obtain ⟨ra, rc, rfl⟩ := h2.form
  have hrec := h2.recAt.2
  have c0 := h1.cell (j := 0) rfl
  obtain ⟨rs, hrs⟩ : ∃ rs, S.rq = rs := ⟨_, rfl⟩
  rw [hrs] at hrec c0 hn ⊢
  have HR := Lib.hid hrec
  have HC := Lib.hid c0
  clear h1 h2 h3 hrs hrec c0
  have hcl := HR.out.cap_le
  have hle := HR.out.le
  go_enter Try.func32, Try.ntmps32
  go_wp2_with fail
  go_loopw [3, 4] (fun ov iv wr => ∃ k : Nat, k ≤ rs.length ∧ iv = .int .i64 k ∧ Hid (wr.ownsRow w.heap.size 3 1 ov k ((idsR (rs.take k)).map intV)) ∧ Below w.heap.size w wr) (fun _ iv _ => rs.length - (intOf iv).toNat)
  case atStart => exact ⟨0, by omega, rfl, World.ownsRow_nil _ _ _ _, Below.refl _ _⟩
  case round =>
    obtain ⟨k, hk, rfl, hO, hB⟩ := hrel
    have c0 := Below.kept hB (Nat.le_refl _) HC.out
    by_cases hlt : k < rs.length
    · obtain ⟨b1, off, rfl⟩ := RecAt.addr rqZ (by decide) HR.out (by omega)
      obtain ⟨e, he⟩ : ∃ e, rs[k]? = some e := ⟨rs[k], List.getElem?_eq_getElem hlt⟩
      obtain ⟨f0, f1, f2, f3, f4, f5⟩ := Rqs.cells (RecAt.below HR.out hB) he
      have htk : idsR (rs.take (k + 1)) = idsR (rs.take k) ++ [e.id] := by
        rw [List.getElem?_eq_getElem hlt, Option.some.injEq] at he
        unfold idsR
        rw [List.take_succ_eq_append_getElem hlt, List.map_append, he]
        rfl
      have HTK := Lib.hid htk
      clear he htk
      obtain ⟨ei, ek, ed, ev, eo, et⟩ := e
      simp only at f0 f1 f2 f3 f4 f5
      go_wp2_with (at_builtin; refine wpList_append_src _ rfl _ _ 22 rfl elemI w.heap.size _ k _ rfl (ownsRow_below hO.out ((Below.refl _ wr).alloc (Nat.le_refl _) _)) (some ⟨wr.heap.size, 0, none⟩) 1 1 [.int .i64 ei] rfl (row_new (cs := [.int .i64 ei]) (by rfl) (by omega)) (by simp [Value.oneCell']) (by omega) (by omega) (by have := hB.size; simp; omega) ?_)
      intro v' w5 hown5 hbel5 hgrow5
      go_wp2_with fail
      go_roundw
      case rel =>
        refine ⟨k + 1, by omega, by go_num, ?_, (Below.step hB ((Below.refl _ wr).alloc (Nat.le_refl _) _)).trans hbel5⟩
        show World.ownsRow _ _ _ _ _ _ _
        rw [HTK.out, List.map_append]
        exact hown5
      case measure => simp [intOf]; omega
    · obtain rfl : k = rs.length := by omega
      go_wp2_with fail
      go_ret
      have hO' := hO.out
      rw [List.take_length] at hO'
      exact ⟨_, rfl, hO', hB⟩
end Go.Proofs.Ytaonhmdifinadaa
