/-
  Contracts of package session: Next.
-/
import Derived.Test.YtaonhmdifinadaaSesF
import Derived.Deep.DeepCutAuto
import Derived.Deep.CutBlock
namespace Go.Proofs.Ytaonhmdifinadaa
open Go Go.Proofs
open Go.RowKit
set_option linter.unusedVariables false
set_option linter.unusedSimpArgs false

def zeroR : Rq := ⟨0, 0, ⟨#[]⟩, 0, 0, ⟨#[]⟩⟩
theorem next_run {S : SesS} (h : S.run = true) (l : List Vn) : nextO S l = none ∧ nextS S l = S := ⟨by simp [nextO, h], by simp [nextS, h]⟩
theorem drop_id {S : SesS} {l : List Vn} (hh : ∀ r, S.rq.head? = some r → stale l r = false) : dropS l S = S := by
  obtain ⟨rq, run, last, an⟩ := S
  cases rq with
  | nil => simp [dropS]
  | cons x xs =>
    have := hh x rfl
    simp [dropS, this]
theorem next_loop {S S' : SesS} {l : List Vn} (hr : S.run = false) (hr' : S'.run = false) (hd : dropS l S' = dropS l S) (hh : ∀ r, S'.rq.head? = some r → stale l r = false) : nextO S l = S'.rq.head? ∧ nextS S l = { S' with run := !S'.rq.isEmpty } := by
  rw [drop_id hh] at hd
  constructor
  · unfold nextO
    rw [hr, if_neg (by decide), show S.rq.dropWhile (stale l) = (dropS l S).rq from rfl, ← hd]
  · unfold nextS
    rw [hr, if_neg (by decide), ← hd]
theorem drop_ans {S : SesS} {l : List Vn} {r : Rq} {rs : List Rq} (hrq : S.rq = r :: rs) (hs : stale l r = true) (hr : S.run = false) : dropS l (ansS S 0 17 ByteArray.empty) = dropS l S ∧ (ansS S 0 17 ByteArray.empty).run = false ∧ (ansS S 0 17 ByteArray.empty).rq = rs ∧ (ansS S 0 17 ByteArray.empty).an.length = S.an.length + 1 := by
  obtain ⟨rq, run, last, an⟩ := S
  simp only at hrq hr
  subst hrq
  subst hr
  rw [ans_eq (r := r) rfl]
  refine ⟨?_, rfl, rfl, by simp⟩
  unfold dropS
  simp [hs]

theorem ses_run {S : SesS} {r : Bool} (h : r = S.run) : ({ S with run := r } : SesS) = S := by subst h; rfl
theorem Step.far {L : Nat → Prop} {w w' : World} {o o' : Nat → Nat} (h : Step L w o w' o') {p : Addr} (hp : w.heap.size ≤ p.block) (u : Value) : Step L w o (w'.setCell p u) o' :=
  ⟨h.os, h.tape, h.output, by simpa [World.setCell] using h.size, fun k hk hl => (Below.heap_setCell _ _ _ _ (by omega)).trans (h.block k hk hl), h.lab⟩
/-- Six cells of a block that bears label 0. -/
theorem Blk.setSix {w : World} {o : Nat → Nat} {b : Nat} {z0 z1 z2 z3 z4 z5 : Value} (h : Blk w o 0 b [z0, z1, z2, z3, z4, z5]) (v0 v1 v2 v3 v4 v5 : Value) :
    Step (· = 0) w o ((((((w.setCell ⟨b, 0, none⟩ v0).setCell ⟨b, 1, none⟩ v1).setCell ⟨b, 2, none⟩ v2).setCell ⟨b, 3, none⟩ v3).setCell ⟨b, 4, none⟩ v4).setCell ⟨b, 5, none⟩ v5) o ∧
    ∃ t, ((((((w.setCell ⟨b, 0, none⟩ v0).setCell ⟨b, 1, none⟩ v1).setCell ⟨b, 2, none⟩ v2).setCell ⟨b, 3, none⟩ v3).setCell ⟨b, 4, none⟩ v4).setCell ⟨b, 5, none⟩ v5).heap[b]? = some (.cells #[v0, v1, v2, v3, v4, v5] t (0, 0)) := by
  have hl := h.lab
  obtain ⟨t, ht, _⟩ := h
  exact ⟨((((((Step.refl _ w o).set (p := ⟨b, 0, none⟩) hl v0).set (p := ⟨b, 1, none⟩) hl v1).set (p := ⟨b, 2, none⟩) hl v2).set (p := ⟨b, 3, none⟩) hl v3).set (p := ⟨b, 4, none⟩) hl v4).set (p := ⟨b, 5, none⟩) hl v5, t, six_set ht⟩

set_option maxRecDepth 100000 in
set_option maxHeartbeats 4000000 in
theorem next_any (i b lv : Nat) (S : SesS) (a : Option Addr) (c : Nat) (l : List Vn) (w : World) (o : Nat → Nat) (hi : 1 ≤ i) (hS : SesP w o i b S) (hn : S.rq.length ≤ 1000) (ha : S.an.length ≤ 100000)
    (hx : RecD vnC 2 w o lv a c l) (hlv : ¬ Own i lv) :
    Calls Try.prog 18 #[.pointer (some ⟨b, 0, none⟩), .slice a l.length c] w fun x w' => (∃ r : Rq, r = (nextO S l).getD zeroR ∧ x = .returned (.tuple #[.agg #[.int .i64 r.id, .int .i64 r.kind, .string r.doc, .int .i64 r.ver, .int .i64 r.off, .string r.txt], .bool (nextO S l).isSome])) ∧
      ∃ o', Step (Own i) w o w' o' ∧ SesP w' o' i b (nextS S l) := by
  obtain ⟨w1, hw1⟩ : ∃ x, x = w.alloc (.cells #[.int .i64 0, .int .i64 0, .string ⟨#[]⟩, .int .i64 0, .int .i64 0, .string ⟨#[]⟩] 44) := ⟨_, rfl⟩
  have hb0 : w1.heap[w.heap.size]? = some (.cells #[.int .i64 0, .int .i64 0, .string ⟨#[]⟩, .int .i64 0, .int .i64 0, .string ⟨#[]⟩] 44 (0, 0)) := by rw [hw1]; exact heap_alloc_new w _
  have hBB : Below w.heap.size w w1 := by rw [hw1]; exact (Below.refl _ w).alloc (Nat.le_refl _) _
  obtain ⟨o1, ho1⟩ : ∃ x, newLab w o 0 = x := ⟨_, rfl⟩
  have hs1 : Step (fun _ => False) w o w1 o1 := by rw [← ho1]; exact Step.below hBB fun k hk => newLab_old _ _ _ hk
  have hgw : Blk w1 o1 0 w.heap.size [.int .i64 0, .int .i64 0, .string ⟨#[]⟩, .int .i64 0, .int .i64 0, .string ⟨#[]⟩] := ⟨_, hb0, by rw [← ho1]; exact newLab_new _ _ _ (Nat.le_refl _)⟩
  have hS1 := hS.step hs1 (fun _ _ h => h)
  have hx1 := hx.step hs1 (fun h => h)
  clear hb0 hBB ho1 hS hx
  generalize hg : w.heap.size = gw at *
  obtain ⟨rv, av, h1, h2, h3⟩ := id hS1
  have c1 := h1.cell (j := 1) rfl
  have hxl := hx1.1.le
  have hxc := hx1.1.cap_le
  rw [hw1] at c1
  have HW1 := Lib.hid hw1
  have HS1 := Lib.hid hS1
  have HST := Lib.hid hs1
  have HGW := Lib.hid hgw
  have HX := Lib.hid hx1
  clear hw1 hS1 hs1 hgw hx1 h1 h2 h3
  cases hrun : S.run with
  | true =>
    rw [(next_run hrun l).1, (next_run hrun l).2]
    rw [hrun] at c1
    go_enter Try.func18, Try.ntmps18
    go_wp2_with fail
    rw [← HW1.out]
    obtain ⟨tz, hz, _⟩ := HGW.out
    exact bodyPost_ret (results_cell_two (fn := Try.f18) (p := 4) (u := 5) rfl _ _ _ _ _ _ _ rfl hz rfl rfl rfl) rfl ⟨⟨zeroR, rfl, rfl⟩, o1, HST.out.mono (fun _ h => h.elim), HS1.out⟩
  | false =>
    rw [hrun] at c1
    obtain ⟨NO, hNO⟩ : ∃ x, nextO S l = x := ⟨_, rfl⟩
    obtain ⟨NS, hNS⟩ : ∃ x, nextS S l = x := ⟨_, rfl⟩
    rw [hNO, hNS]
    have HNO := Lib.hid hNO
    have HNS := Lib.hid hNS
    have HRUN := Lib.hid hrun
    clear hNO hNS hrun
    go_enter Try.func18, Try.ntmps18
    go_wp2_with fail
    rw [← HW1.out]
    go_loopg [] (S.rq.length) (fun gg wr => ∃ o' S', Hid (Step (Own i) w1 o1 wr o') ∧ Hid (SesP wr o' i b S') ∧ Hid (S'.run = false ∧ dropS l S' = dropS l S) ∧ S'.rq.length ≤ gg ∧ S'.rq.length ≤ 1000 ∧ S'.an.length + S'.rq.length ≤ 101000)
    case atStart => exact ⟨o1, S, Step.refl _ _ _, HS1.out, ⟨HRUN.out, rfl⟩, by omega, by omega, by omega⟩
    case round =>
      obtain ⟨o', S', hst, hs', hd, hgg, hn', ha'⟩ := hrel
      have hgr := HGW.out.step hst.out (Own.not0 hi)
      have hxr := HX.out.step hst.out hlv
      have hS' := hs'.out
      obtain ⟨rv2, av2, h1, h2, h3⟩ := hS'
      obtain ⟨ra, rc, rfl⟩ := h2.form
      have c0 := h1.cell (j := 0) rfl
      have cc1 := h1.cell (j := 1) rfl
      have dd1 := h1.frozen 1
      have hgl := hgr.frozen
      obtain ⟨z0, z1, z2, z3, z4, z5⟩ := hgr.six
      have y0 := hgr.frozen 0
      have y1 := hgr.frozen 1
      have y2 := hgr.frozen 2
      have y3 := hgr.frozen 3
      have y4 := hgr.frozen 4
      have y5 := hgr.frozen 5
      obtain ⟨rq, hrq⟩ : ∃ rq, S'.rq = rq := ⟨_, rfl⟩
      have hbw : b ≠ gw := fun e => by
        have e1 := h1.lab
        have e2 := hgr.lab
        rw [e] at e1
        omega
      have hST2 : Step (Own i) w o wr o' := HST.out.into hst.out
      have hwgw : w.heap.size ≤ gw := by omega
      cases rq with
      | nil =>
        have hfin := next_loop HRUN.out hd.out.1 hd.out.2 (fun r h => by rw [hrq] at h; cases h)
        have h0 : S'.rq.length = 0 := by rw [hrq]; rfl
        rw [h0] at c0 hgg hn' ha'
        have hNO : NO = none := by rw [← HNO.out, hfin.1, hrq]; rfl
        have hNS : NS = S' := by
          rw [← HNS.out, hfin.2]
          exact ses_run (by rw [hrq, hd.out.1]; rfl)
        have HNO2 := Lib.hid hNO
        have HNS2 := Lib.hid hNS
        obtain ⟨hss, tz, hz⟩ := hgr.setSix (.int .i64 0) (.int .i64 0) (.string ⟨#[]⟩) (.int .i64 0) (.int .i64 0) (.string ⟨#[]⟩)
        have HSS := Lib.hid hss
        have HZ := Lib.hid hz
        have HS' := Lib.hid (hs'.out.step hss (fun x hx e => (Own.not0 hi) (by rw [← e]; exact hx)))
        have HST2 := Lib.hid hST2
        clear hss hz hST2 h1 h2 h3 hd hst hs' hgr hxr hrq h0 hfin hNO hNS hgl
        go_wp2_with fail
        exact bodyPost_ret (results_cell_two (fn := Try.f18) (p := 4) (u := 5) rfl _ _ _ _ _ _ _ rfl HZ.out rfl rfl rfl) rfl ⟨⟨zeroR, by rw [HNO2.out]; rfl, by rw [HNO2.out]; rfl⟩, o', (((((HST2.out.far hwgw _).far hwgw _).far hwgw _).far hwgw _).far hwgw _).far hwgw _, by rw [HNS2.out]; exact HS'.out⟩
      | cons r rs =>
        have hnn : S'.rq.length = rs.length + 1 := by rw [hrq]; rfl
        have hr0 : S'.rq[0]? = some r := by rw [hrq]; rfl
        obtain ⟨g, gc, he, hog, hgl2⟩ := h2.own (by omega)
        simp only [Value.slice.injEq] at he
        obtain ⟨rfl, _, rfl⟩ := he
        obtain ⟨f0, f1, f2, f3, f4, f5⟩ := Rqs.cells h2.recAt.2 hr0
        simp only [Nat.zero_add, Nat.zero_mul] at f0 f1 f2 f3 f4 f5
        have hle := h2.recAt.2.le
        rw [hnn] at c0 hgg hn' ha' hle
        have ks := stale_any r a c l wr hxr.1
        have hgne : g ≠ gw := fun e => by
          have e2 := hgr.lab
          rw [← e, hog] at e2
          omega
        cases hst1 : stale l r with
        | true =>
          rw [hst1] at ks
          obtain ⟨q1, q2, q3, q4⟩ := drop_ans hrq hst1 hd.out.1
          have KS := Lib.hid ks
          have KA := Lib.hid fun W (hB : Below wr.heap.size wr W) => answer0_any i b S' 17 ⟨#[]⟩ W o' hi (hs'.out.same hB) (by omega) (by omega) (by omega)
          have H1 := Lib.hid q1
          have H2 := Lib.hid q2
          have H3 := Lib.hid q3
          have H4 := Lib.hid q4
          obtain ⟨ri, rk, rd, rv3, ro, rt⟩ := r
          simp only at f0 f1 f2 f3 f4 f5 KS
          clear q1 q2 q3 q4 ks h1 h2 h3 hgr hxr hrq hr0 hst1 hgl hST2
          go_wp2_with fail
          refine KS.out.mono ?_
          rintro x w2 ⟨rfl, hb2⟩
          go_wp2_with fail
          refine (KA.out _ hb2).mono ?_
          rintro x w3 ⟨rfl, o3, hs3, hS3⟩
          go_wp2_with fail
          go_roundg (rs.length)
          case measure => omega
          case rel =>
            refine ⟨o3, _, (hst.out.trans (Step.same hb2)).trans hs3, hS3, ⟨H2.out, H1.out.trans hd.out.2⟩, ?_, ?_, ?_⟩
            · have := H3.out; rw [show (ansS S' 0 17 { data := #[] }).rq = rs from this]; exact Nat.le_refl _
            · have := H3.out; rw [show (ansS S' 0 17 { data := #[] }).rq = rs from this]; omega
            · have := H3.out; have h4 := H4.out; rw [show (ansS S' 0 17 { data := #[] }).rq = rs from this, show (ansS S' 0 17 { data := #[] }).an.length = _ from h4]; omega
        | false =>
          rw [hst1] at ks
          have hfin := next_loop HRUN.out hd.out.1 hd.out.2 (fun q hq => by rw [hrq] at hq; cases hq; exact hst1)
          have HNO2 : Hid (NO = some r) := by rw [← HNO.out, hfin.1, hrq]; exact rfl
          have HNS2 : Hid (NS = { S' with run := true }) := by rw [← HNS.out, hfin.2, hrq]; exact rfl
          have hgb : g ≠ b := fun e => by
            have e1 := h1.lab
            rw [← e, hog] at e1
            omega
          have hgb' : b ≠ g := fun e => hgb e.symm
          have hgne' : gw ≠ g := fun e => hgne e.symm
          have hbw' : gw ≠ b := fun e => hbw e.symm
          have KS := Lib.hid ks
          have H1 := Lib.hid h1
          have H2 := Lib.hid h2
          have H3 := Lib.hid h3
          have HG := Lib.hid hgr
          have HR0 := Lib.hid hr0
          obtain ⟨ri, rk, rd, rv3, ro, rt⟩ := r
          simp only at f0 f1 f2 f3 f4 f5 KS
          clear ks h1 h2 h3 hgr hxr hrq hr0 hst1 hgl z0 z1 z2 z3 z4 z5 y0 y1 y2 y3 y4 y5 hfin
          go_wp2_with fail
          refine KS.out.mono ?_
          rintro x w2 ⟨rfl, hb2⟩
          have hs2 : Step (fun _ => False) wr o' w2 o' := Step.same hb2
          have c0 := Below.kept hb2 (Nat.le_refl _) c0
          have cc1 := Below.kept hb2 (Nat.le_refl _) cc1
          have f0 := Below.kept hb2 (Nat.le_refl _) f0
          have f1 := Below.kept hb2 (Nat.le_refl _) f1
          have f2 := Below.kept hb2 (Nat.le_refl _) f2
          have f3 := Below.kept hb2 (Nat.le_refl _) f3
          have f4 := Below.kept hb2 (Nat.le_refl _) f4
          have f5 := Below.kept hb2 (Nat.le_refl _) f5
          have h1 := H1.out.step hs2 (fun h => h)
          have hgr := HG.out.step hs2 (fun h => h)
          have dd1 := h1.frozen 1
          obtain ⟨z0, z1, z2, z3, z4, z5⟩ := hgr.six
          have y0 := hgr.frozen 0
          have y1 := hgr.frozen 1
          have y2 := hgr.frozen 2
          have y3 := hgr.frozen 3
          have y4 := hgr.frozen 4
          have y5 := hgr.frozen 5
          have hs3 := h1.setCellStep 1 (.bool true)
          have HB1 := Lib.hid (h1.set 1 (.bool true))
          have HS3 := Lib.hid hs3
          have HG2 := Lib.hid hgr
          have HHS2 := Lib.hid hs2
          have hb2' := Lib.hid hb2
          have HST2 := Lib.hid hST2
          have HO := Lib.hid hog
          clear hs3 h1 hgr hs2 hb2 hST2 z0 z1 z2 z3 z4 z5 y0 y1 y2 y3 y4 y5
          go_upto_region 8 with fail
          obtain ⟨w3, hw3⟩ : ∃ x, x = w2.setCell ⟨b, 1, none⟩ (.bool true) := ⟨_, rfl⟩
          rw [← hw3]
          rw [← hw3] at HS3 HB1
          have hs3 := HS3.out
          have hs2 := HHS2.out
          have h1 := HB1.out
          have hgr := HG2.out.step hs3 (by omega)
          have h2 := (H2.out.step hs2 (fun h => h)).step hs3 (by omega)
          have h3 := (H3.out.step hs2 (fun h => h)).step hs3 (by omega)
          have c0 := h1.cell (j := 0) rfl
          have hrr : S'.rq[0]? = some ⟨ri, rk, rd, rv3, ro, rt⟩ := HR0.out
          obtain ⟨f0, f1, f2, f3, f4, f5⟩ := Rqs.cells h2.recAt.2 hrr
          simp only [Nat.zero_add, Nat.zero_mul] at f0 f1 f2 f3 f4 f5
          have y0 := hgr.frozen 0
          have y1 := hgr.frozen 1
          have y2 := hgr.frozen 2
          have y3 := hgr.frozen 3
          have y4 := hgr.frozen 4
          have y5 := hgr.frozen 5
          obtain ⟨z0, z1, z2, z3, z4, z5⟩ := hgr.six
          obtain ⟨hss, tz, hz⟩ := hgr.setSix (.int .i64 ri) (.int .i64 rk) (.string rd) (.int .i64 rv3) (.int .i64 ro) (.string rt)
          have HZ := Lib.hid hz
          have HS4 := Lib.hid (show SesP _ o' i b { S' with run := true } from ⟨_, _, h1.step hss (by omega), h2.step hss (by omega), h3.step hss (by omega)⟩)
          have HST4 := Lib.hid ((HST2.out.trans (Step.same hb2'.out)).trans (hs3.mono fun l hl => by subst hl; exact Own.at0 i))
          clear hs2 hs3 h1 h2 h3 hgr hss hz hrr hw3 HS3 HB1 HG2 HHS2 hb2' HST2
          go_wp2_with fail
          exact bodyPost_ret (results_cell_two (fn := Try.f18) (p := 4) (u := 5) rfl _ _ _ _ _ _ _ rfl HZ.out rfl rfl rfl) rfl ⟨⟨⟨ri, rk, rd, rv3, ro, rt⟩, by rw [HNO2.out]; rfl, by rw [HNO2.out]; rfl⟩, o', (((((HST4.out.far hwgw _).far hwgw _).far hwgw _).far hwgw _).far hwgw _).far hwgw _, by rw [HNS2.out]; exact HS4.out⟩
end Go.Proofs.Ytaonhmdifinadaa
