/-
  The law SessionCodes.
-/
import Derived.Test.YtaonhmdifinadaaSesZ0
import Derived.Deep.DeepCutAuto
import Derived.Deep.CutBlock
namespace Go.Proofs.Ytaonhmdifinadaa
open Go Go.Proofs
open Go.RowKit
set_option linter.unusedVariables false
set_option linter.unusedSimpArgs false

set_option maxRecDepth 100000 in
set_option maxHeartbeats 8000000 in
theorem sessionCodes_walk (r : Rq) (a : An) (la : Option Addr) (lc : Nat) (xs : List Int) (at_ cc : Int) (ra : Option Addr) (rc : Nat) (rs : List UInt8) (w : World) (hd : r.doc.size ≤ 9223372036854775807) (ht : r.txt.size ≤ 9223372036854775807)
    (hri : -9223372036854775808 ≤ r.id ∧ r.id ≤ 9223372036854775807) (hrk : -9223372036854775808 ≤ r.kind ∧ r.kind ≤ 9223372036854775807)
    (hta : a.txt.size ≤ 9223372036854775807) (hae : -9223372036854775808 ≤ a.err ∧ a.err ≤ 9223372036854775807) (hav : -9223372036854775808 ≤ a.ver ∧ a.ver ≤ 9223372036854775807)
    (hx : SliceAt w la lc (xs.map intV)) (hxb : ∀ n ∈ xs, -9223372036854775808 ≤ n ∧ n ≤ 9223372036854775807) (hxs : xs.length * 8 ≤ 140737488351232)
    (hat : -9223372036854775808 ≤ at_ ∧ at_ ≤ 9223372036854775807) (hcc : 0 ≤ cc ∧ cc ≤ 255) (hr : SliceAt w ra rc (rs.map byteV)) :
    Calls Try.prog 9 #[.agg #[.int .i64 r.id, .int .i64 r.kind, .string r.doc, .int .i64 r.ver, .int .i64 r.off, .string r.txt], .agg #[.int .i64 a.id, .int .i64 a.err, .int .i64 a.ver, .string a.txt], .slice la xs.length lc, .int .i64 at_, .int .u8 cc, .slice ra rs.length rc] w fun e w' => e = .returned (.bool true) ∧ Below w.heap.size w w' := by
  obtain ⟨d, hdc⟩ : ∃ d : UInt8, cc = (d.toNat : Int) := ⟨UInt8.ofNat cc.toNat, by rw [UInt8.toNat_ofNat']; omega⟩
  subst hdc
  obtain ⟨ri, rk, rd, rv, rof, rt⟩ := r
  obtain ⟨ai, ae, av, atx⟩ := a
  simp only at hd ht hri hrk hta hae hav
  obtain ⟨w2, hw2⟩ : ∃ x, x = (w.alloc (.cells #[.int .i64 ri, .int .i64 rk, .string rd, .int .i64 rv, .int .i64 rof, .string rt] 44)).alloc (.cells #[.int .i64 ai, .int .i64 ae, .int .i64 av, .string atx] 53) := ⟨_, rfl⟩
  obtain ⟨w3, hw3⟩ : ∃ x, x = w2.alloc (.cells #[.int .i64 0] 3) := ⟨_, rfl⟩
  have hB2 : Below w.heap.size w w2 := by rw [hw2]; exact ((Below.refl _ w).alloc (Nat.le_refl _) _).alloc (by simp) _
  have hB3 : Below w.heap.size w w3 := by rw [hw3]; exact hB2.alloc hB2.size _
  have hz2 : w2.heap.size = w.heap.size + 1 + 1 := by rw [hw2]; simp
  have hown : w3.ownsRow w2.heap.size 3 1 (.slice (some ⟨w.heap.size + 1 + 1, 0, none⟩) 1 1) 1 [.int .i64 0] := by
    rw [hw3, ← hz2]
    exact World.ownsRow_lit w2 #[.int .i64 0] 1 (Nat.le_refl _) (by decide) rfl
  have hrow := (hx.below hB3).takeMap xs.length
  rw [List.take_length] at hrow
  have hb2 : Blk w2 (fun _ => 0) 0 w.heap.size [.int .i64 ri, .int .i64 rk, .string rd, .int .i64 rv, .int .i64 rof, .string rt] := by
    refine Blk.same (w := w.alloc (.cells #[.int .i64 ri, .int .i64 rk, .string rd, .int .i64 rv, .int .i64 rof, .string rt] 44)) ⟨_, heap_alloc_new _ _, rfl⟩ ?_
    rw [hw2]; exact (Below.refl _ _).alloc (Nat.le_refl _) _
  have hc2 : Blk w2 (fun _ => 0) 0 (w.heap.size + 1) [.int .i64 ai, .int .i64 ae, .int .i64 av, .string atx] := by
    have := heap_alloc_new (w.alloc (.cells #[.int .i64 ri, .int .i64 rk, .string rd, .int .i64 rv, .int .i64 rof, .string rt] 44)) (.cells #[.int .i64 ai, .int .i64 ae, .int .i64 av, .string atx] 53)
    rw [World.size_alloc] at this
    exact ⟨_, by rw [hw2]; exact this, rfl⟩
  have hbase : w2.heap.size ≤ w3.heap.size := by rw [hw3]; simp
  have HX := Lib.hid hx
  have HR0 := Lib.hid hr
  have HXB := Lib.hid hxb
  have HOW := Lib.hid hown
  have HROW := Lib.hid hrow
  have HB2 := Lib.hid hb2
  have HC2 := Lib.hid hc2
  have HBL3 := Lib.hid hB2
  have HBASE := Lib.hid hbase
  have HW2 := Lib.hid hw2
  have HW3 := Lib.hid hw3
  clear hx hr hxb hw2 hw3 hB2 hB3 hz2 hown hrow hb2 hc2 hbase
  go_enter Try.func9, Try.ntmps9
  have hxs8 : (1 + xs.length) * 8 ≤ 140737488355328 := by omega
  have hx63 : 1 + xs.length ≤ 9223372036854775807 := by omega
  go_wp2_with (at_builtin; rw [← HW2.out, ← HW3.out]; refine wpList_append_src w3 rfl _ _ 22 rfl elemI w2.heap.size _ 1 _ rfl HOW.out la xs.length lc _ rfl HROW.out (oneCell_map (fun _ => rfl) _) hx63 hxs8 HBASE.out ?_)
  intro v4 w4 h4 hb4 _
  obtain ⟨X, hX⟩ : ∃ X : List Int, (0 :: xs : List Int) = X := ⟨_, rfl⟩
  have hXb : ∀ n ∈ X, -9223372036854775808 ≤ n ∧ n ≤ 9223372036854775807 := by
    rw [← hX]
    intro n hn
    rcases List.mem_cons.1 hn with rfl | hn
    · omega
    · exact HXB.out n hn
  have hXl : X.length = 1 + xs.length := by rw [← hX]; simp; omega
  rw [show (Value.int .i64 0 :: xs.map intV : List Value) = X.map intV by rw [← hX]; rfl, ← hXl] at h4
  obtain ⟨xa, xc, rfl, hsx⟩ := ownsRow_sliceMap h4
  have hb34 : Below w2.heap.size w2 w4 := ((by rw [HW3.out]; exact (Below.refl _ w2).alloc (Nat.le_refl _) _ : Below w2.heap.size w2 w3)).trans hb4
  have hB4 := Below.step HBL3.out hb34
  have HB4 := Lib.hid (HB2.out.same hb34)
  have HC4 := Lib.hid (HC2.out.same hb34)
  have HBL4 := Lib.hid hB4
  have HXB4 := Lib.hid hXb
  have HSX := Lib.hid hsx
  have hX1 : 1 ≤ X.length := by omega
  obtain ⟨gr, hgr⟩ : ∃ g, w.heap.size = g := ⟨_, rfl⟩
  rw [hgr] at HB4 HC4
  obtain ⟨ga, hga⟩ : ∃ g, gr + 1 = g := ⟨_, rfl⟩
  rw [hga] at HC4
  have HGR := Lib.hid hgr
  have HGA := Lib.hid hga
  clear h4 hb4 hX hXb hXl hsx hb34 hB4 hgr hga HB2 HC2 HBL3 HBASE HW2 HW3 HXB HOW HROW hxs8 hx63 hxs
  go_wp2_with fail
  rw [HGR.out, HGA.out]
  refine (ops_any xa xc X 1 w4 (fun _ => 0) ⟨HSX.out, fun _ _ _ _ => rfl⟩ HXB4.out (by omega)).mono ?_
  rintro e w5 ⟨v5, o5, ops, rfl, hs5, hO5, hl5⟩
  have hN1 : 1 ≤ ops.length := by omega
  obtain ⟨m, hm⟩ : ∃ m, ops[0]? = some m := ⟨ops[0], List.getElem?_eq_getElem (by omega)⟩
  obtain ⟨go, oc, rfl, _, _, hmm, hcell⟩ := hO5.cells hm
  obtain ⟨N, hN⟩ : ∃ N, ops.length = N := ⟨_, rfl⟩
  rw [hN] at hN1 ⊢
  have hmb := hmm.1
  have hb5 : Below w4.heap.size w4 w5 := hs5.toBelow (Nat.le_refl _) fun k _ h => by cases h
  have HB5 := Lib.hid (HB4.out.same hb5)
  have HC5 := Lib.hid (HC4.out.same hb5)
  have HBL5 := Lib.hid (Below.step HBL4.out hb5)
  have q0 := hcell 1 _ rfl
  have q1 := hcell 2 _ rfl
  have q2 := hcell 3 _ rfl
  have q3 := hcell 4 _ rfl
  have q4 := hcell 5 _ rfl
  have q5 := hcell 6 _ rfl
  obtain ⟨_, ⟨mi, mk, md, mv, mo, mt⟩, _, _, _, _, _⟩ := m
  simp only [Nat.zero_mul, Nat.zero_add] at q0 q1 q2 q3 q4 q5
  have HMB := Lib.hid hmb
  have hN0 : (0 : Int) < (N : Int) := by omega
  have hNz : ((N : Int) == 0) = false := by simp; omega
  clear hs5 hO5 hl5 hm hmm hcell hmb hb5 HB4 HC4 HBL4 HSX HXB4 hX1 hN
  obtain ⟨w6, hw6⟩ : ∃ x, x = w5.alloc (.cells #[.int .i64 mi, .int .i64 mk, .string md, .int .i64 mv, .int .i64 mo, .string mt] 60) := ⟨_, rfl⟩
  have hb6 : Below w5.heap.size w5 w6 := by rw [hw6]; exact (Below.refl _ w5).alloc (Nat.le_refl _) _
  have hG6 : Blk w6 (fun _ => 0) 0 w5.heap.size [.int .i64 mi, .int .i64 mk, .string md, .int .i64 mv, .int .i64 mo, .string mt] := by rw [hw6]; exact ⟨_, heap_alloc_new _ _, rfl⟩
  have hR6 := HB5.out.same hb6
  have hA6 := HC5.out.same hb6
  have hlr : gr < w5.heap.size := HB5.out.lt
  have hla : ga < w5.heap.size := HC5.out.lt
  have HBL6 := Lib.hid (Below.step HBL5.out hb6)
  obtain ⟨gg, hgg⟩ : ∃ g, w5.heap.size = g := ⟨_, rfl⟩
  rw [hgg] at hG6 hlr hla
  have hra : gr ≠ ga := by have := HGA.out; omega
  have hrg : gr ≠ gg := by omega
  have hag : ga ≠ gg := by omega
  obtain ⟨ki, hki⟩ : ∃ s, aroundI ri 1000 = s := ⟨_, rfl⟩
  have hki0 := aroundI_lo ri 1000 (by omega)
  have hki1 := aroundI_hi ri 1000 (by omega)
  rw [hki] at hki0 hki1
  obtain ⟨kk, hkk⟩ : ∃ s, aroundI rk 5 = s := ⟨_, rfl⟩
  have hkk0 := aroundI_lo rk 5 (by omega)
  have hkk1 := aroundI_hi rk 5 (by omega)
  rw [hkk] at hkk0 hkk1
  have x0 := hR6.cell (j := 0) rfl
  rw [hw6] at x0
  obtain ⟨w7, hw7⟩ : ∃ x, x = w6.setCell ⟨gg, 0, none⟩ (.int .i64 (1 + ki)) := ⟨_, rfl⟩
  have y0 := hG6.cell (j := 0) rfl
  have z0 := hG6.frozen 0
  have hG7 : Blk w7 (fun _ => 0) 0 gg [.int .i64 (1 + ki), .int .i64 mk, .string md, .int .i64 mv, .int .i64 mo, .string mt] := by rw [hw7]; exact hG6.set 0 (.int .i64 (1 + ki))
  have hR7 := hR6.oth (j := 0) (Ne.symm hrg) (.int .i64 (1 + ki))
  rw [← hw7] at hR7
  have hA7 := hA6.oth (j := 0) (Ne.symm hag) (.int .i64 (1 + ki))
  rw [← hw7] at hA7
  have x1 := hR7.cell (j := 1) rfl
  rw [hw7] at x1
  obtain ⟨w8, hw8⟩ : ∃ x, x = w7.setCell ⟨gg, 1, none⟩ (.int .i64 kk) := ⟨_, rfl⟩
  have y1 := hG7.cell (j := 1) rfl
  have z1 := hG7.frozen 1
  have hG8 : Blk w8 (fun _ => 0) 0 gg [.int .i64 (1 + ki), .int .i64 kk, .string md, .int .i64 mv, .int .i64 mo, .string mt] := by rw [hw8]; exact hG7.set 1 (.int .i64 kk)
  have hR8 := hR7.oth (j := 1) (Ne.symm hrg) (.int .i64 kk)
  rw [← hw8] at hR8
  have hA8 := hA7.oth (j := 1) (Ne.symm hag) (.int .i64 kk)
  rw [← hw8] at hA8
  have x2 := hR8.cell (j := 2) rfl
  rw [hw8] at x2
  obtain ⟨sd, hsd⟩ : ∃ sd, rd.extract 0 20 = sd := ⟨_, rfl⟩
  have hsd20 : sd.size ≤ 20 := by rw [← hsd, ByteArray.size_extract]; omega
  obtain ⟨w9, hw9⟩ : ∃ x, x = w8.setCell ⟨gr, 2, none⟩ (.string sd) := ⟨_, rfl⟩
  have y2 := hR8.cell (j := 2) rfl
  have z2 := hR8.frozen 2
  have hR9 : Blk w9 (fun _ => 0) 0 gr [.int .i64 ri, .int .i64 rk, .string sd, .int .i64 rv, .int .i64 rof, .string rt] := by rw [hw9]; exact hR8.set 2 (.string sd)
  have hG9 := hG8.oth (j := 2) hrg (.string sd)
  rw [← hw9] at hG9
  have hA9 := hA8.oth (j := 2) hra (.string sd)
  rw [← hw9] at hA9
  have hwr : w.heap.size ≤ gr := by rw [HGR.out]; exact Nat.le_refl _
  have hwg : w.heap.size ≤ gg := Nat.le_trans hwr (by omega)
  have hb9 : Below w.heap.size w w9 := by
    rw [hw9, hw8, hw7]
    exact ((HBL6.out.setCell (p := ⟨gg, 0, none⟩) hwg _).setCell (p := ⟨gg, 1, none⟩) hwg _).setCell (p := ⟨gr, 2, none⟩) hwr _
  have HR9 := Lib.hid hR9
  have HG9 := Lib.hid hG9
  have HA9 := Lib.hid hA9
  have HB9 := Lib.hid hb9
  have HW6 := Lib.hid hw6
  have HW7 := Lib.hid hw7
  have HW8 := Lib.hid hw8
  have HW9 := Lib.hid hw9
  have HKI := Lib.hid hki
  have HKK := Lib.hid hkk
  have HSD := Lib.hid hsd
  have HGG := Lib.hid hgg
  clear hw6 hb6 hG6 hR6 hA6 hlr hla hgg hki hkk hsd hw7 hG7 hR7 hA7 hw8 hG8 hR8 hA8 hw9 hR9 hG9 hA9 hb9 hwr hwg HBL6 HB5 HC5 HBL5 HGR HGA
  go_wp2_with fail
  rw [← HW6.out, HGG.out]
  refine (around_any ri 1000 w6 (by omega) (by omega) hri.1 hri.2).mono ?_
  rw [HKI.out]
  rintro e w5' ⟨rfl, rfl⟩
  clear q0 q1 q2 q3 q4 q5 x0 HKI HGG HW6
  go_wp2_with fail
  refine (around_any rk 5 _ (by omega) (by omega) hrk.1 hrk.2).mono ?_
  rw [HKK.out]
  rintro e w5' ⟨rfl, rfl⟩
  rw [← HW7.out]
  clear x1 y0 z0 HKK HW7
  go_wp2_with fail
  refine (short_any rd 20 _ hd (by omega)).mono ?_
  rw [show rd.extract 0 ((20 : Nat)) = sd from HSD.out]
  rintro e w5' ⟨rfl, rfl⟩
  rw [← HW8.out]
  clear x2 y1 z1 HSD HW8
  go_wp2_with fail
  rw [← HW9.out]
  clear y2 z2 HW9
  obtain ⟨ke, hke⟩ : ∃ s, aroundI ae 24 = s := ⟨_, rfl⟩
  have hke0 := aroundI_lo ae 24 (by omega)
  have hke1 := aroundI_hi ae 24 (by omega)
  rw [hke] at hke0 hke1
  obtain ⟨kv, hkv⟩ : ∃ s, aroundI av 100 = s := ⟨_, rfl⟩
  have hkv0 := aroundI_lo av 100 (by omega)
  have hkv1 := aroundI_hi av 100 (by omega)
  rw [hkv] at hkv0 hkv1
  obtain ⟨st, hst⟩ : ∃ sd, atx.extract 0 30 = sd := ⟨_, rfl⟩
  have hst30 : st.size ≤ 30 := by rw [← hst, ByteArray.size_extract]; omega
  have k1 := fun W => around_any ae 24 W (by omega) (by omega) hae.1 hae.2
  have k2 := fun W => around_any av 100 W (by omega) (by omega) hav.1 hav.2
  have k3 : ∀ W, Calls Try.prog 34 #[.string atx, .int .i64 30] W fun e w' => e = .returned (.string (atx.extract 0 30)) ∧ W = w' := fun W => short_any atx 30 W hta (by omega)
  rw [hke] at k1
  rw [hkv] at k2
  rw [hst] at k3
  have g0 := HG9.out.cell (j := 0) rfl
  have a1 := HA9.out.cell (j := 1) rfl
  have a2 := HA9.out.cell (j := 2) rfl
  have a3 := HA9.out.cell (j := 3) rfl
  have K1 := Lib.hid k1
  have K2 := Lib.hid k2
  have K3 := Lib.hid k3
  clear hke hkv hst k1 k2 k3
  refine comb (A := ?_) (fun hfin => ?_) ?_
  rotate_left 1
  · go_region_held3 (fun W => W.cell? ⟨gg, 0, none⟩ = some (.int .i64 (1 + ki)) ∧ W.cell? ⟨ga, 1, none⟩ = some (.int .i64 ae) ∧ W.cell? ⟨ga, 2, none⟩ = some (.int .i64 av) ∧ W.cell? ⟨ga, 3, none⟩ = some (.string atx)) (first | assumption | exact ⟨g0, a1, a2, a3⟩ | (refine ⟨?_, ?_, ?_, ?_⟩ <;> first | assumption | go_keep))
      (first
       | (go_at_call 35; (with_reducible refine (K1.out _).mono ?_); rintro e w' ⟨rfl, rfl⟩)
       | (go_at_call 35; (with_reducible refine (K2.out _).mono ?_); rintro e w' ⟨rfl, rfl⟩)
       | (go_at_call 34; (with_reducible refine (K3.out _).mono ?_); rintro e w' ⟨rfl, rfl⟩))
    all_goals exact hfin 0
  obtain ⟨w10, hw10⟩ : ∃ x, x = (w9.alloc (.cells #[.int .i64 (1 + ki), .int .i64 ke, .int .i64 kv, .string st] 84)).drew := ⟨_, rfl⟩
  have hb10 : Below w9.heap.size w9 w10 := by rw [hw10]; exact Below.drew ((Below.refl _ w9).alloc (Nat.le_refl _) _)
  have hP10 : Blk w10 (fun _ => 0) 0 w9.heap.size [.int .i64 (1 + ki), .int .i64 ke, .int .i64 kv, .string st] := by rw [hw10]; exact ⟨_, heap_alloc_new _ _, rfl⟩
  obtain ⟨gp, hgp⟩ : ∃ g, w9.heap.size = g := ⟨_, rfl⟩
  have HC10 : Hid (CW w w10 gr ga gg w9.heap.size ⟨ri, rk, sd, rv, rof, rt⟩ ⟨ai, ae, av, atx⟩ ⟨1 + ki, kk, md, mv, mo, mt⟩ ⟨1 + ki, ke, kv, st⟩) := ⟨Below.step HB9.out hb10, HR9.out.same hb10, HA9.out.same hb10, HG9.out.same hb10, hP10⟩
  rw [hgp] at HC10
  have HW10 := Lib.hid hw10
  have HGP := Lib.hid hgp
  have hokG : okR ⟨1 + ki, kk, md, mv, mo, mt⟩ = true := by
    have h := HMB.out
    have h1 := h.d; have h2 := h.t; have h3 := h.v0; have h4 := h.v1; have h5 := h.f0; have h6 := h.f1
    simp only at h1 h2 h3 h4 h5 h6
    refine okR_iff.2 ?_
    simp only
    omega
  have hokP : okA ⟨1 + ki, ke, kv, st⟩ = true := by
    refine okA_iff.2 ?_
    simp only
    omega
  have hmd : md.size ≤ 9223372036854775807 := by have := HMB.out.d; simp only at this; omega
  have hmt : mt.size ≤ 9223372036854775807 := by have := HMB.out.t; simp only at this; omega
  have kG := fun W => enq_any ⟨1 + ki, kk, md, mv, mo, mt⟩ W hmd hmt
  have kP := fun W => ena_any ⟨1 + ki, ke, kv, st⟩ W (by show st.size ≤ _; omega)
  have kR := fun W => enq_any ⟨ri, rk, sd, rv, rof, rt⟩ W (by show sd.size ≤ _; omega) ht
  have kRr := fun W => renq_any ⟨ri, rk, sd, rv, rof, rt⟩ W (by show sd.size ≤ _; omega) ht
  have kA := fun W => ena_any ⟨ai, ae, av, atx⟩ W hta
  have kAr := fun W => rena_any ⟨ai, ae, av, atx⟩ W hta
  have kof := fun W => of_any ⟨1 + ki, kk, md, mv, mo, mt⟩ W
  have kpl := fun W => plain_any ⟨ri, rk, sd, rv, rof, rt⟩ W
  have kan := fun W => answ_any ⟨ai, ae, av, atx⟩ W
  have hPL := codeRq_pos hokG
  have hQL := codeAn_pos hokP
  have hPM := codeRq_len ⟨1 + ki, kk, md, mv, mo, mt⟩
  have hQM := codeAn_len ⟨1 + ki, ke, kv, st⟩
  have hXM := codeRq_len ⟨ri, rk, sd, rv, rof, rt⟩
  have hYM := codeAn_len ⟨ai, ae, av, atx⟩
  have hQE : codeAn ⟨1 + ki, ke, kv, st⟩ = encAn ⟨1 + ki, ke, kv, st⟩ := by unfold codeAn; rw [if_pos hokP]
  rw [hokG, show errOf true = 0 from rfl] at kG
  rw [hokP, show errOf true = 0 from rfl] at kP
  obtain ⟨e1, he1⟩ : ∃ e, errOf (okR ⟨ri, rk, sd, rv, rof, rt⟩) = e := ⟨_, rfl⟩
  rw [he1] at kR kRr
  obtain ⟨e2, he2⟩ : ∃ e, errOf (okA ⟨ai, ae, av, atx⟩) = e := ⟨_, rfl⟩
  rw [he2] at kA kAr
  obtain ⟨PL, hPe⟩ : ∃ e, codeRq ⟨1 + ki, kk, md, mv, mo, mt⟩ = e := ⟨_, rfl⟩
  rw [hPe] at kG hPL hPM
  obtain ⟨QL, hQe⟩ : ∃ e, codeAn ⟨1 + ki, ke, kv, st⟩ = e := ⟨_, rfl⟩
  rw [hQe] at kP hQL hQM hQE
  obtain ⟨XL, hXe⟩ : ∃ e, codeRq ⟨ri, rk, sd, rv, rof, rt⟩ = e := ⟨_, rfl⟩
  rw [hXe] at kR kRr hXM
  obtain ⟨YL, hYe⟩ : ∃ e, codeAn ⟨ai, ae, av, atx⟩ = e := ⟨_, rfl⟩
  rw [hYe] at kA kAr hYM
  simp only at kG kP kR kRr kA kAr kof kpl kan
  have KG := Lib.hid kG
  have KP := Lib.hid kP
  have KR := Lib.hid kR
  have KRR := Lib.hid kRr
  have KA := Lib.hid kA
  have KAR := Lib.hid kAr
  have KOF := Lib.hid kof
  have KPL := Lib.hid kpl
  have KAN := Lib.hid kan
  have HQE := Lib.hid hQE
  rw [← HW10.out, HGP.out]
  have HSL10 := Lib.hid (Sls.nil w10)
  clear hw10 hb10 hP10 hgp hokG hokP kG kP kR kRr kA kAr kof kpl kan hQE he1 he2 hPe hQe hXe hYe HB9 HR9 HA9 HG9 HMB g0 a1 a2 a3 K1 K2 K3
  obtain ⟨c0, c1, c2, c3, c4, c5⟩ := HC10.out.g.six
  go_wp2_with fail
  refine (KOF.out w10).mono ?_
  rintro e w11 ⟨rfl, hb⟩
  have HC11 := Lib.hid (HC10.out.same hb)
  have HSL11 := Lib.hid (HSL10.out.same hb)
  clear hb HC10 HSL10
  clear c0 c1 c2 c3 c4 c5
  go_wp2_with fail
  refine (KG.out w11).mono ?_
  rintro e w12 ⟨v, rfl, hown, hb⟩
  obtain ⟨pa, pc, rfl, hs⟩ := own_slice hown
  have HC12 := Lib.hid (HC11.out.same hb)
  have HSL12 := Lib.hid ((HSL11.out.same hb).cons hs (by omega))
  clear hb hown hs HC11 HSL11
  have c0 := HC12.out.p.cell (j := 0) rfl
  have c1 := HC12.out.p.cell (j := 1) rfl
  have c2 := HC12.out.p.cell (j := 2) rfl
  have c3 := HC12.out.p.cell (j := 3) rfl
  go_wp2_with fail
  refine (KP.out w12).mono ?_
  rintro e w13 ⟨v, rfl, hown, hb⟩
  obtain ⟨qa, qc, rfl, hs⟩ := own_slice hown
  have HC13 := Lib.hid (HC12.out.same hb)
  have HSL13 := Lib.hid ((HSL12.out.same hb).cons hs (by omega))
  clear hb hown hs HC12 HSL12
  clear c0 c1 c2 c3
  obtain ⟨c0, c1, c2, c3, c4, c5⟩ := HC13.out.r.six
  go_wp2_with fail
  refine (KR.out w13).mono ?_
  rintro e w14 ⟨v, rfl, hown, hb⟩
  obtain ⟨xa, xc, rfl, hs⟩ := own_slice hown
  have HC14 := Lib.hid (HC13.out.same hb)
  have HSL14 := Lib.hid ((HSL13.out.same hb).cons hs (by omega))
  clear hb hown hs HC13 HSL13
  clear c0 c1 c2 c3 c4 c5
  obtain ⟨c0, c1, c2, c3, c4, c5⟩ := HC14.out.r.six
  go_wp2_with fail
  refine (KPL.out w14).mono ?_
  rintro e w15 ⟨rfl, hb⟩
  have HC15 := Lib.hid (HC14.out.same hb)
  have HSL15 := Lib.hid (HSL14.out.same hb)
  clear hb HC14 HSL14
  clear c0 c1 c2 c3 c4 c5
  go_wp2_with fail
  refine (KRR.out w15).mono ?_
  rintro e w16 ⟨v, rfl, hown, hb⟩
  obtain ⟨za, zc, rfl, hs⟩ := own_slice hown
  have HC16 := Lib.hid (HC15.out.same hb)
  have HSL16 := Lib.hid ((HSL15.out.same hb).cons hs (by omega))
  clear hb hown hs HC15 HSL15
  have c0 := HC16.out.a.cell (j := 0) rfl
  have c1 := HC16.out.a.cell (j := 1) rfl
  have c2 := HC16.out.a.cell (j := 2) rfl
  have c3 := HC16.out.a.cell (j := 3) rfl
  go_wp2_with fail
  refine (KA.out w16).mono ?_
  rintro e w17 ⟨v, rfl, hown, hb⟩
  obtain ⟨ya, yc, rfl, hs⟩ := own_slice hown
  have HC17 := Lib.hid (HC16.out.same hb)
  have HSL17 := Lib.hid ((HSL16.out.same hb).cons hs (by omega))
  clear hb hown hs HC16 HSL16
  clear c0 c1 c2 c3
  have c0 := HC17.out.a.cell (j := 0) rfl
  have c1 := HC17.out.a.cell (j := 1) rfl
  have c2 := HC17.out.a.cell (j := 2) rfl
  have c3 := HC17.out.a.cell (j := 3) rfl
  go_wp2_with fail
  refine (KAN.out w17).mono ?_
  rintro e w18 ⟨rfl, hb⟩
  have HC18 := Lib.hid (HC17.out.same hb)
  have HSL18 := Lib.hid (HSL17.out.same hb)
  clear hb HC17 HSL17
  clear c0 c1 c2 c3
  go_wp2_with fail
  refine (KAR.out w18).mono ?_
  rintro e w19 ⟨v, rfl, hown, hb⟩
  obtain ⟨ta, tc, rfl, hs⟩ := own_slice hown
  have HC19 := Lib.hid (HC18.out.same hb)
  have HSL19 := Lib.hid ((HSL18.out.same hb).cons hs (by omega))
  clear hb hown hs HC18 HSL18
  clear KG KP KR KRR KA KAR KOF KPL KAN HW10 HGP
  have hPz : ((PL.length : Int) == 0) = false := beq_eq_false_iff_ne.2 (by omega)
  have hQz : ((QL.length : Int) == 0) = false := beq_eq_false_iff_ne.2 (by omega)
  have ksx : ∀ W, SliceAt W xa xc (XL.map byteV) → SliceAt W za zc (XL.map byteV) → Calls Try.prog 45 #[.slice xa XL.length xc, .slice za XL.length zc] W fun e w' => e = .returned (.bool true) ∧ Below W.heap.size W w' := fun W h1 h2 => by have := sameBytes_any xa za xc zc XL XL W h1 h2; rwa [decide_eq_true rfl] at this
  have ksy : ∀ W, SliceAt W ya yc (YL.map byteV) → SliceAt W ta tc (YL.map byteV) → Calls Try.prog 45 #[.slice ya YL.length yc, .slice ta YL.length tc] W fun e w' => e = .returned (.bool true) ∧ Below W.heap.size W w' := fun W h1 h2 => by have := sameBytes_any ya ta yc tc YL YL W h1 h2; rwa [decide_eq_true rfl] at this
  have KSX := Lib.hid ksx
  have KSY := Lib.hid ksy
  clear ksx ksy
  go_wp2_with fail
  refine (KSX.out w19 (HSL19.out ⟨xa, xc, XL⟩ (by simp)).1 (HSL19.out ⟨za, zc, XL⟩ (by simp)).1).mono ?_
  rintro e w20 ⟨rfl, hb⟩
  have HC20 := Lib.hid (HC19.out.same hb)
  have HSL20 := Lib.hid (HSL19.out.same hb)
  clear hb HC19 HSL19
  go_wp2_with fail
  refine (KSY.out w20 (HSL20.out ⟨ya, yc, YL⟩ (by simp)).1 (HSL20.out ⟨ta, tc, YL⟩ (by simp)).1).mono ?_
  rintro e w21 ⟨rfl, hb⟩
  have HC21 := Lib.hid (HC20.out.same hb)
  have HSL21 := Lib.hid (HSL20.out.same hb)
  clear hb HC20 HSL20
  clear KSX KSY
  go_wp2_with fail
  refine (read_any 1 qa qc QL w21 (fun _ => 0) (by omega) (HSL21.out ⟨qa, qc, QL⟩ (by simp)).1 (by omega)).mono ?_
  rintro e w22 ⟨rb, rfl, ro, hs, hR⟩
  obtain ⟨R1, R2, R3, hr1, hr2, hr3, hr4, hrl⟩ := read_back ⟨1 + ki, ke, kv, st⟩ (by simp only; omega) (by simp only; omega) (by simp only; omega) (by simp only; omega)
  rw [← HQE.out] at hr1
  simp only at hr1 hr2 hr3 hr4
  have HT22 := Lib.hid hs
  have HR22 := Lib.hid hR
  have HR1 := Lib.hid hr1
  have HR2 := Lib.hid hr2
  have HR3 := Lib.hid hr3
  have HR4 := Lib.hid hr4
  clear hs hR hr1 hr2 hr3 hr4 HQE hQz hPz
  have k := rint_any 1 rb ⟨QL, 0⟩ w22 ro (by omega) HR22.out
  rw [HR1.out] at k
  simp only at k
  have KI := Lib.hid k
  clear k
  go_wp2_with fail
  refine KI.out.mono ?_
  rintro e w23 ⟨rfl, hs, hR⟩
  have HT23 := Lib.hid (HT22.out.trans hs)
  have HR23 := Lib.hid hR
  clear hs hR HT22 KI
  have k := rint_any 1 rb R1 w23 ro (by omega) HR23.out
  rw [HR2.out] at k
  simp only at k
  have KI := Lib.hid k
  clear k
  go_wp2_with fail
  refine KI.out.mono ?_
  rintro e w24 ⟨rfl, hs, hR⟩
  have HT24 := Lib.hid (HT23.out.trans hs)
  have HR24 := Lib.hid hR
  clear hs hR HT23 KI
  have k := rint_any 1 rb R2 w24 ro (by omega) HR24.out
  rw [HR3.out] at k
  simp only at k
  have KI := Lib.hid k
  clear k
  go_wp2_with fail
  refine KI.out.mono ?_
  rintro e w25 ⟨rfl, hs, hR⟩
  have HT25 := Lib.hid (HT24.out.trans hs)
  have HR25 := Lib.hid hR
  clear hs hR HT24 KI
  have k := rtext_any 1 rb R3 w25 ro (by omega) HR25.out (by omega)
  rw [HR4.out] at k
  simp only [str_back] at k
  have KI := Lib.hid k
  clear k
  go_wp2_with fail
  refine KI.out.mono ?_
  rintro e w26 ⟨rfl, ro2, hs, hR⟩
  have hT := HT25.out.trans hs
  have hP := HC21.out.p.step hT (by unfold Own; omega)
  have hb : Below w21.heap.size w21 w26 := hT.toBelow (Nat.le_refl _) (fun k _ h => by unfold Own at h; omega)
  have HC26 := Lib.hid (HC21.out.same hb)
  have HSL26 := Lib.hid (HSL21.out.same hb)
  have c0 := HC26.out.p.cell (j := 0) rfl
  have c1 := HC26.out.p.cell (j := 1) rfl
  have c2 := HC26.out.p.cell (j := 2) rfl
  have c3 := HC26.out.p.cell (j := 3) rfl
  have k := rend_any 1 rb ⟨[], 0⟩ w26 ro2 hR
  rw [endR_nil] at k
  have KE := Lib.hid k
  clear k hs hT hP hb hR HT25 KI HC21 HSL21 HR1 HR2 HR3 HR4 hrl
  go_wp2_with fail
  refine KE.out.mono ?_
  rintro e w27 ⟨rfl, rfl⟩
  go_wp2_with fail
  clear c0 c1 c2 c3 KE
  have kf := few_any pa pc PL PL.length w26 (HSL26.out ⟨pa, pc, PL⟩ (by simp)).1 (by omega)
  rw [List.take_length] at kf
  have KF := Lib.hid kf
  clear kf
  refine KF.out.mono ?_
  rintro e w27 ⟨v, rfl, hO1, hb⟩
  obtain ⟨g1, cap1, rfl, hg1⟩ := own_first hO1 hPL
  have HC27 := Lib.hid (HC26.out.same hb)
  have HSL27 := Lib.hid (HSL26.out.same hb)
  have HBN27 := Lib.hid hb
  have HO127 := Lib.hid hO1
  have hg1l : g1 < w27.heap.size := (hO1.lt g1 rfl).2
  clear hb hO1 KF
  go_wp2_with fail
  have kf := few_any qa qc QL QL.length w27 (HSL27.out ⟨qa, qc, QL⟩ (by simp)).1 (by omega)
  rw [List.take_length] at kf
  have KF := Lib.hid kf
  clear kf
  refine KF.out.mono ?_
  rintro e w28 ⟨v, rfl, hO2, hb⟩
  obtain ⟨g2, cap2, rfl, hg2⟩ := own_first hO2 hQL
  have hO1 := ownsRow_below HO127.out hb
  have hBN := Below.step HBN27.out hb
  clear KF HBN27 HO127 hb
  have h12 : g1 ≠ g2 := by omega
  have hz1 := aroundI_lo at_ PL.length (by omega)
  have hz2 := aroundI_hi at_ PL.length (by omega)
  obtain ⟨k1, hk1⟩ : ∃ k : Nat, aroundI at_ PL.length = (k : Int) := ⟨(aroundI at_ PL.length).toNat, by omega⟩
  have hk1L : k1 < PL.length := by omega
  have hy1 := aroundI_lo at_ QL.length (by omega)
  have hy2 := aroundI_hi at_ QL.length (by omega)
  obtain ⟨k2, hk2⟩ : ∃ k : Nat, aroundI at_ QL.length = (k : Int) := ⟨(aroundI at_ QL.length).toNat, by omega⟩
  have hk2L : k2 < QL.length := by omega
  have ka1 := around_any at_ PL.length w28 (by omega) (by omega) hat.1 hat.2
  rw [hk1] at ka1
  have KA1 := Lib.hid ka1
  obtain ⟨w29, hw1⟩ : ∃ x, x = w28.setCell ⟨g1, k1, none⟩ (.int .u8 (d.toNat : Int)) := ⟨_, rfl⟩
  have f1 := own_byte hO1 hk1L
  have f2 := hO1.frozenAt k1
  have hO1s := own_put hO1 (k := k1) d
  have hO2s := own_oth hO2 (j := k1) (Ne.symm h12) (.int .u8 (d.toNat : Int))
  rw [show byteV d = .int .u8 (d.toNat : Int) from rfl, ← hw1] at hO1s
  rw [← hw1] at hO2s
  have hBN1 := hBN.setCell (p := ⟨g1, k1, none⟩) hg1 (.int .u8 (d.toNat : Int))
  rw [← hw1] at hBN1
  have ka2 := around_any at_ QL.length w29 (by omega) (by omega) hat.1 hat.2
  rw [hk2] at ka2
  have KA2 := Lib.hid ka2
  obtain ⟨w30, hw2⟩ : ∃ x, x = w29.setCell ⟨g2, k2, none⟩ (.int .u8 (d.toNat : Int)) := ⟨_, rfl⟩
  have f3 := own_byte hO2s hk2L
  have f4 := hO2s.frozenAt k2
  have hO2t := own_put hO2s (k := k2) d
  have hO1t := own_oth hO1s (j := k2) h12 (.int .u8 (d.toNat : Int))
  rw [show byteV d = .int .u8 (d.toNat : Int) from rfl, ← hw2] at hO2t
  rw [← hw2] at hO1t
  have hBN2 := hBN1.setCell (p := ⟨g2, k2, none⟩) (show w26.heap.size ≤ g2 by omega) (.int .u8 (d.toNat : Int))
  rw [← hw2] at hBN2
  have hs1 := own_at hO1t
  have hs2 := own_at hO2t
  obtain ⟨P1, hP1⟩ : ∃ x, PL.set k1 d = x := ⟨_, rfl⟩
  obtain ⟨Q1, hQ1⟩ : ∃ x, QL.set k2 d = x := ⟨_, rfl⟩
  rw [hP1] at hs1
  rw [hQ1] at hs2
  have hP1l : P1.length = PL.length := by rw [← hP1, List.length_set]
  have hQ1l : Q1.length = QL.length := by rw [← hQ1, List.length_set]
  have HSL30 := Lib.hid (((HSL26.out.same hBN2).cons hs1 (by omega)).cons hs2 (by omega))
  have HC30 := Lib.hid (HC26.out.same hBN2)
  have HW1 := Lib.hid hw1
  have HW2 := Lib.hid hw2
  clear hg1 hg2 hg1l h12 hz1 hz2 hk1 hy1 hy2 hk2 ka1 ka2 hw1 hw2 hO1 hO2 hO1s hO2s hO1t hO2t hBN hBN1 hBN2 hs1 hs2 hP1 hQ1 HC26 HSL26 HC27 HSL27
  go_wp2_with fail
  refine KA1.out.mono ?_
  rintro e w' ⟨rfl, rfl⟩
  go_wp2_with fail
  rw [← HW1.out]
  clear f1 f2 KA1 HW1
  refine KA2.out.mono ?_
  rintro e w' ⟨rfl, rfl⟩
  go_wp2_with fail
  rw [← HW2.out]
  clear f3 f4 KA2 HW2
  have kf := few_any ra rc rs 40 w30 (HR0.out.below (HC30.out.bel)) (by omega)
  obtain ⟨F, hF⟩ : ∃ F, rs.take 40 = F := ⟨_, rfl⟩
  have hFl : F.length ≤ 40 := by rw [← hF, List.length_take]; omega
  rw [hF] at kf
  have KF := Lib.hid kf
  clear kf hF
  refine KF.out.mono ?_
  rintro e w31 ⟨v, rfl, hown, hb⟩
  obtain ⟨fa, fc, rfl, hs⟩ := own_slice hown
  have HC31 := Lib.hid (HC30.out.same hb)
  have HSL31 := Lib.hid ((HSL30.out.same hb).cons hs (by omega))
  clear hb hown hs HC30 HSL30 KF
  obtain ⟨w32, hw1⟩ : ∃ x, x = w31.alloc (.cells #[.slice pa PL.length pc, .slice qa QL.length qc, .slice xa XL.length xc, .slice ya YL.length yc, .slice (some ⟨g1, 0, none⟩) PL.length cap1, .slice (some ⟨g2, 0, none⟩) QL.length cap2, .slice fa F.length fc] 78) := ⟨_, rfl⟩
  have hb : Below w31.heap.size w31 w32 := by rw [hw1]; exact (Below.refl _ _).alloc (Nat.le_refl _) _
  obtain ⟨LL, hLL⟩ : ∃ l : List Sl, [⟨pa, pc, PL⟩, ⟨qa, qc, QL⟩, ⟨xa, xc, XL⟩, ⟨ya, yc, YL⟩, ⟨some ⟨g1, 0, none⟩, cap1, P1⟩, ⟨some ⟨g2, 0, none⟩, cap2, Q1⟩, ⟨fa, fc, F⟩] = l := ⟨_, rfl⟩
  have hL7 : LL.length = 7 := by rw [← hLL]; rfl
  have hbl : Blk w32 (fun _ => 0) 0 w31.heap.size (LL.map slV) := by
    rw [← hLL, hw1]
    simp only [List.map_cons, List.map_nil, slV, hP1l, hQ1l]
    exact ⟨_, heap_alloc_new _ _, rfl⟩
  have hsl : Sls w31 LL := by
    rw [← hLL]
    intro s hs
    refine HSL31.out s ?_
    simp only [List.mem_cons, List.not_mem_nil, or_false] at hs ⊢
    rcases hs with rfl | rfl | rfl | rfl | rfl | rfl | rfl <;> simp
  have HSL32 := Lib.hid (hsl.same hb)
  have HBW32 := Lib.hid (Below.step HC31.out.bel hb)
  obtain ⟨gl, hgl⟩ : ∃ g, w31.heap.size = g := ⟨_, rfl⟩
  rw [hgl] at hbl
  have HBL := Lib.hid hbl
  have HW := Lib.hid hw1
  have HGL := Lib.hid hgl
  clear hb hLL hbl hsl hgl hw1 HC31 HSL31
  go_wp2_with fail
  rw [← HW.out, HGL.out]
  clear HW HGL hP1l hQ1l hPL hQL hPM hQM hXM hYM hFl
  go_loopw [36] (fun iv wr => ∃ k : Nat, k ≤ 7 ∧ iv = .int .i64 k ∧ Hid (Below w.heap.size w wr) ∧ Hid (Blk wr (fun _ => 0) 0 gl (LL.map slV)) ∧ Hid (Sls wr LL)) (fun iv _ => 7 - (intOf iv).toNat)
  case atStart => exact ⟨0, by omega, rfl, HBW32.out, HBL.out, HSL32.out⟩
  case round =>
    clear HBW32 HBL HSL32
    obtain ⟨k, hk, rfl, HB, HL, HS⟩ := hrel
    by_cases hk7 : k < 7
    · obtain ⟨s, hs⟩ : ∃ s, LL[k]? = some s := ⟨LL[k], List.getElem?_eq_getElem (by omega)⟩
      obtain ⟨hsl, hll⟩ := HS.out s (List.mem_of_getElem? hs)
      have hsc : (LL.map slV)[k]? = some (slV s) := by rw [List.getElem?_map, hs]; rfl
      clear hs
      obtain ⟨sa, sc, sb⟩ := s
      simp only at hsl hll
      have hsc' : (LL.map slV)[k]? = some (.slice sa sb.length sc) := hsc
      have HSC := Lib.hid hsc'
      have kd1 := fun W h => deq_any sa sc sb W h hll
      have kd2 := fun W h => rdeq_any sa sc sb W h hll
      have kd3 := fun W h => dea_any sa sc sb W h hll
      have kd4 := fun W h => rdea_any sa sc sb W h hll
      obtain ⟨D, hD⟩ : ∃ D, decRq sb = D := ⟨_, rfl⟩
      obtain ⟨E, hE⟩ : ∃ D, decAn sb = D := ⟨_, rfl⟩
      obtain ⟨f1, hf1⟩ : ∃ e, decE (decOk sb) = e := ⟨_, rfl⟩
      obtain ⟨f2, hf2⟩ : ∃ e, decE (adecOk sb) = e := ⟨_, rfl⟩
      rw [hD, hf1] at kd1 kd2
      rw [hE, hf2] at kd3 kd4
      obtain ⟨di, dk, dd, dv, dof, dt⟩ := D
      obtain ⟨ei, ee, ev, et⟩ := E
      simp only at kd1 kd2 kd3 kd4
      have kpl := fun W => plain_any ⟨di, dk, dd, dv, dof, dt⟩ W
      have kan := fun W => answ_any ⟨ei, ee, ev, et⟩ W
      simp only at kpl kan
      have KD1 := Lib.hid kd1
      have KD2 := Lib.hid kd2
      have KD3 := Lib.hid kd3
      have KD4 := Lib.hid kd4
      have KPL := Lib.hid kpl
      have KAN := Lib.hid kan
      have HSE := Lib.hid hsl
      have hkI : (k : Int) < 7 := by omega
      have hk0 : (0 : Int) ≤ (k : Int) := by omega
      have c := HL.out.cell (j := k) HSC.out
      clear hsc hsc' hD hE hf1 hf2 kd1 kd2 kd3 kd4 kpl kan hsl
      go_wp2_with fail
      refine (KD1.out wr HSE.out).mono ?_
      rintro e u1 ⟨rfl, hb⟩
      obtain ⟨u2, hu⟩ : ∃ x, x = u1.alloc (.cells #[.int .i64 di, .int .i64 dk, .string dd, .int .i64 dv, .int .i64 dof, .string dt] 44) := ⟨_, rfl⟩
      have hb2 : Below wr.heap.size wr u2 := by rw [hu]; exact hb.alloc hb.size _
      have hm1 : Blk u2 (fun _ => 0) 0 u1.heap.size [.int .i64 di, .int .i64 dk, .string dd, .int .i64 dv, .int .i64 dof, .string dt] := by rw [hu]; exact ⟨_, heap_alloc_new _ _, rfl⟩
      obtain ⟨m1, hme⟩ : ∃ g, u1.heap.size = g := ⟨_, rfl⟩
      rw [hme] at hm1
      have HM11 := Lib.hid hm1
      have HBBn := Lib.hid hb2
      have HBB := HBBn
      clear HBBn
      clear c
      have c := (HL.out.same HBB.out).cell (j := k) HSC.out
      rw [hu] at c
      have HU := Lib.hid hu
      have HM := Lib.hid hme
      clear hb hb2 hu hme hm1 KD1
      go_wp2_with fail
      rw [← HU.out, HM.out]
      refine (KD2.out u2 (HSE.out.below HBB.out)).mono ?_
      rintro e u3 ⟨rfl, hb⟩
      obtain ⟨u4, hu⟩ : ∃ x, x = u3.alloc (.cells #[.int .i64 di, .int .i64 dk, .string dd, .int .i64 dv, .int .i64 dof, .string dt] 60) := ⟨_, rfl⟩
      have hb2 : Below u2.heap.size u2 u4 := by rw [hu]; exact hb.alloc hb.size _
      have hm2 : Blk u4 (fun _ => 0) 0 u3.heap.size [.int .i64 di, .int .i64 dk, .string dd, .int .i64 dv, .int .i64 dof, .string dt] := by rw [hu]; exact ⟨_, heap_alloc_new _ _, rfl⟩
      obtain ⟨m2, hme⟩ : ∃ g, u3.heap.size = g := ⟨_, rfl⟩
      rw [hme] at hm2
      have HM12 := Lib.hid (HM11.out.same hb2)
      have HM22 := Lib.hid hm2
      have HBBn := Lib.hid (Below.step HBB.out hb2)
      clear HBB HU HM HM11
      have HBB := HBBn
      clear HBBn
      clear c
      have c := (HL.out.same HBB.out).cell (j := k) HSC.out
      rw [hu] at c
      have HU := Lib.hid hu
      have HM := Lib.hid hme
      clear hb hb2 hu hme hm2 KD2
      go_wp2_with fail
      rw [← HU.out, HM.out]
      refine (KD3.out u4 (HSE.out.below HBB.out)).mono ?_
      rintro e u5 ⟨rfl, hb⟩
      obtain ⟨u6, hu⟩ : ∃ x, x = u5.alloc (.cells #[.int .i64 ei, .int .i64 ee, .int .i64 ev, .string et] 53) := ⟨_, rfl⟩
      have hb2 : Below u4.heap.size u4 u6 := by rw [hu]; exact hb.alloc hb.size _
      have hm3 : Blk u6 (fun _ => 0) 0 u5.heap.size [.int .i64 ei, .int .i64 ee, .int .i64 ev, .string et] := by rw [hu]; exact ⟨_, heap_alloc_new _ _, rfl⟩
      obtain ⟨m3, hme⟩ : ∃ g, u5.heap.size = g := ⟨_, rfl⟩
      rw [hme] at hm3
      have HM13 := Lib.hid (HM12.out.same hb2)
      have HM23 := Lib.hid (HM22.out.same hb2)
      have HM33 := Lib.hid hm3
      have HBBn := Lib.hid (Below.step HBB.out hb2)
      clear HBB HU HM HM12 HM22
      have HBB := HBBn
      clear HBBn
      clear c
      have c := (HL.out.same HBB.out).cell (j := k) HSC.out
      rw [hu] at c
      have HU := Lib.hid hu
      have HM := Lib.hid hme
      clear hb hb2 hu hme hm3 KD3
      go_wp2_with fail
      rw [← HU.out, HM.out]
      refine (KD4.out u6 (HSE.out.below HBB.out)).mono ?_
      rintro e u7 ⟨rfl, hb⟩
      obtain ⟨u8, hu⟩ : ∃ x, x = u7.alloc (.cells #[.int .i64 ei, .int .i64 ee, .int .i64 ev, .string et] 84) := ⟨_, rfl⟩
      have hb2 : Below u6.heap.size u6 u8 := by rw [hu]; exact hb.alloc hb.size _
      have hm4 : Blk u8 (fun _ => 0) 0 u7.heap.size [.int .i64 ei, .int .i64 ee, .int .i64 ev, .string et] := by rw [hu]; exact ⟨_, heap_alloc_new _ _, rfl⟩
      obtain ⟨m4, hme⟩ : ∃ g, u7.heap.size = g := ⟨_, rfl⟩
      rw [hme] at hm4
      have HM14 := Lib.hid (HM13.out.same hb2)
      have HM24 := Lib.hid (HM23.out.same hb2)
      have HM34 := Lib.hid (HM33.out.same hb2)
      have HM44 := Lib.hid hm4
      have HBBn := Lib.hid (Below.step HBB.out hb2)
      clear HBB HU HM HM13 HM23 HM33
      have HBB := HBBn
      clear HBBn
      clear c
      have HU := Lib.hid hu
      have HM := Lib.hid hme
      clear hb hb2 hu hme hm4 KD4
      have HSA : Hid (∀ W, Below u8.heap.size u8 W → Below u8.heap.size u8 W ∧ W.cell? ⟨m1, 0, none⟩ = some (.int .i64 di) ∧ W.cell? ⟨m1, 1, none⟩ = some (.int .i64 dk) ∧ W.cell? ⟨m1, 2, none⟩ = some (.string dd) ∧ W.cell? ⟨m1, 3, none⟩ = some (.int .i64 dv) ∧ W.cell? ⟨m1, 4, none⟩ = some (.int .i64 dof) ∧ W.cell? ⟨m1, 5, none⟩ = some (.string dt) ∧ W.cell? ⟨m2, 0, none⟩ = some (.int .i64 di) ∧ W.cell? ⟨m2, 1, none⟩ = some (.int .i64 dk) ∧ W.cell? ⟨m2, 2, none⟩ = some (.string dd) ∧ W.cell? ⟨m2, 3, none⟩ = some (.int .i64 dv) ∧ W.cell? ⟨m2, 4, none⟩ = some (.int .i64 dof) ∧ W.cell? ⟨m2, 5, none⟩ = some (.string dt) ∧ W.cell? ⟨m3, 0, none⟩ = some (.int .i64 ei) ∧ W.cell? ⟨m3, 1, none⟩ = some (.int .i64 ee) ∧ W.cell? ⟨m3, 2, none⟩ = some (.int .i64 ev) ∧ W.cell? ⟨m3, 3, none⟩ = some (.string et) ∧ W.cell? ⟨m4, 0, none⟩ = some (.int .i64 ei) ∧ W.cell? ⟨m4, 1, none⟩ = some (.int .i64 ee) ∧ W.cell? ⟨m4, 2, none⟩ = some (.int .i64 ev) ∧ W.cell? ⟨m4, 3, none⟩ = some (.string et)) := by
        intro W hb
        have j1 := HM14.out.same hb
        have j2 := HM24.out.same hb
        have j3 := HM34.out.same hb
        have j4 := HM44.out.same hb
        exact ⟨hb, j1.cell (j := 0) rfl, j1.cell (j := 1) rfl, j1.cell (j := 2) rfl, j1.cell (j := 3) rfl, j1.cell (j := 4) rfl, j1.cell (j := 5) rfl, j2.cell (j := 0) rfl, j2.cell (j := 1) rfl, j2.cell (j := 2) rfl, j2.cell (j := 3) rfl, j2.cell (j := 4) rfl, j2.cell (j := 5) rfl, j3.cell (j := 0) rfl, j3.cell (j := 1) rfl, j3.cell (j := 2) rfl, j3.cell (j := 3) rfl, j4.cell (j := 0) rfl, j4.cell (j := 1) rfl, j4.cell (j := 2) rfl, j4.cell (j := 3) rfl⟩
      clear HM14 HM24 HM34 HM44
      go_wp2_with fail
      rw [← HU.out, HM.out]
      clear HU HM
      refine wp_region_held_drew (S := fun W => Below u8.heap.size u8 W ∧ W.cell? ⟨m1, 0, none⟩ = some (.int .i64 di) ∧ W.cell? ⟨m1, 1, none⟩ = some (.int .i64 dk) ∧ W.cell? ⟨m1, 2, none⟩ = some (.string dd) ∧ W.cell? ⟨m1, 3, none⟩ = some (.int .i64 dv) ∧ W.cell? ⟨m1, 4, none⟩ = some (.int .i64 dof) ∧ W.cell? ⟨m1, 5, none⟩ = some (.string dt) ∧ W.cell? ⟨m2, 0, none⟩ = some (.int .i64 di) ∧ W.cell? ⟨m2, 1, none⟩ = some (.int .i64 dk) ∧ W.cell? ⟨m2, 2, none⟩ = some (.string dd) ∧ W.cell? ⟨m2, 3, none⟩ = some (.int .i64 dv) ∧ W.cell? ⟨m2, 4, none⟩ = some (.int .i64 dof) ∧ W.cell? ⟨m2, 5, none⟩ = some (.string dt) ∧ W.cell? ⟨m3, 0, none⟩ = some (.int .i64 ei) ∧ W.cell? ⟨m3, 1, none⟩ = some (.int .i64 ee) ∧ W.cell? ⟨m3, 2, none⟩ = some (.int .i64 ev) ∧ W.cell? ⟨m3, 3, none⟩ = some (.string et) ∧ W.cell? ⟨m4, 0, none⟩ = some (.int .i64 ei) ∧ W.cell? ⟨m4, 1, none⟩ = some (.int .i64 ee) ∧ W.cell? ⟨m4, 2, none⟩ = some (.int .i64 ev) ∧ W.cell? ⟨m4, 3, none⟩ = some (.string et)) (by kernel_rfl) (HSA.out _ (Below.drew (Below.refl _ u8))) (fun h0 => ?_)
      (first | ((refine wpAnyH_take (i := 0) (oi := ⟨_, _, _, _, _, _⟩) (v := ?_) rfl (by kernel_rfl) (by kernel_rfl) (by kernel_rfl) (fun _ _ _ h => h) (Or.inl ⟨by rfl, ?_⟩) (by assumption) ?_); rotate_left; focus ((intro w hSw); (try dsimp only at hSw); go_simp; all_goals (with_reducible rfl))) | (refine wpAnyH_take (i := 0) (oi := ⟨_, _, _, _, _, _⟩) (v := undef) rfl (by kernel_rfl) (by kernel_rfl) (by kernel_rfl) (fun _ _ _ h => h) (Or.inr ⟨by rfl, rfl⟩) (by assumption) ?_))
      try simp only [Act.put, List.setIfInBounds_toArray, List.set_cons_zero, List.set_cons_succ]
      (first | ((refine wpAnyH_take (i := 1) (oi := ⟨_, _, _, _, _, _⟩) (v := ?_) rfl (by kernel_rfl) (by kernel_rfl) (by kernel_rfl) (fun _ _ _ h => h) (Or.inl ⟨by rfl, ?_⟩) (by assumption) ?_); rotate_left; focus ((intro w hSw); (try dsimp only at hSw); go_simp; all_goals (with_reducible rfl))) | (refine wpAnyH_take (i := 1) (oi := ⟨_, _, _, _, _, _⟩) (v := undef) rfl (by kernel_rfl) (by kernel_rfl) (by kernel_rfl) (fun _ _ _ h => h) (Or.inr ⟨by rfl, rfl⟩) (by assumption) ?_))
      try simp only [Act.put, List.setIfInBounds_toArray, List.set_cons_zero, List.set_cons_succ]
      (first | ((refine wpAnyH_take (i := 2) (oi := ⟨_, _, _, _, _, _⟩) (v := ?_) rfl (by kernel_rfl) (by kernel_rfl) (by kernel_rfl) (fun _ _ _ h => h) (Or.inl ⟨by rfl, ?_⟩) (by assumption) ?_); rotate_left; focus ((intro w hSw); (try dsimp only at hSw); go_simp; all_goals (with_reducible rfl))) | (refine wpAnyH_take (i := 2) (oi := ⟨_, _, _, _, _, _⟩) (v := undef) rfl (by kernel_rfl) (by kernel_rfl) (by kernel_rfl) (fun _ _ _ h => h) (Or.inr ⟨by rfl, rfl⟩) (by assumption) ?_))
      try simp only [Act.put, List.setIfInBounds_toArray, List.set_cons_zero, List.set_cons_succ]
      (first | ((refine wpAnyH_take (i := 3) (oi := ⟨_, _, _, _, _, _⟩) (v := ?_) rfl (by kernel_rfl) (by kernel_rfl) (by kernel_rfl) (fun _ _ _ h => h) (Or.inl ⟨by rfl, ?_⟩) (by assumption) ?_); rotate_left; focus ((intro w hSw); (try dsimp only at hSw); go_simp; all_goals (with_reducible rfl))) | (refine wpAnyH_take (i := 3) (oi := ⟨_, _, _, _, _, _⟩) (v := undef) rfl (by kernel_rfl) (by kernel_rfl) (by kernel_rfl) (fun _ _ _ h => h) (Or.inr ⟨by rfl, rfl⟩) (by assumption) ?_))
      try simp only [Act.put, List.setIfInBounds_toArray, List.set_cons_zero, List.set_cons_succ]
      (first | ((refine wpAnyH_take (i := 4) (oi := ⟨_, _, _, _, _, _⟩) (v := ?_) rfl (by kernel_rfl) (by kernel_rfl) (by kernel_rfl) (fun _ _ _ h => h) (Or.inl ⟨by rfl, ?_⟩) (by assumption) ?_); rotate_left; focus ((intro w hSw); (try dsimp only at hSw); go_simp; all_goals (with_reducible rfl))) | (refine wpAnyH_take (i := 4) (oi := ⟨_, _, _, _, _, _⟩) (v := undef) rfl (by kernel_rfl) (by kernel_rfl) (by kernel_rfl) (fun _ _ _ h => h) (Or.inr ⟨by rfl, rfl⟩) (by assumption) ?_))
      try simp only [Act.put, List.setIfInBounds_toArray, List.set_cons_zero, List.set_cons_succ]
      (first | ((refine wpAnyH_take (i := 5) (oi := ⟨_, _, _, _, _, _⟩) (v := ?_) rfl (by kernel_rfl) (by kernel_rfl) (by kernel_rfl) (fun _ _ _ h => h) (Or.inl ⟨by rfl, ?_⟩) (by assumption) ?_); rotate_left; focus ((intro w hSw); (try dsimp only at hSw); go_simp; all_goals (with_reducible rfl))) | (refine wpAnyH_take (i := 5) (oi := ⟨_, _, _, _, _, _⟩) (v := undef) rfl (by kernel_rfl) (by kernel_rfl) (by kernel_rfl) (fun _ _ _ h => h) (Or.inr ⟨by rfl, rfl⟩) (by assumption) ?_))
      try simp only [Act.put, List.setIfInBounds_toArray, List.set_cons_zero, List.set_cons_succ]
      (first | ((refine wpAnyH_take (i := 6) (oi := ⟨_, _, _, _, _, _⟩) (v := ?_) rfl (by kernel_rfl) (by kernel_rfl) (by kernel_rfl) (fun _ _ _ h => h) (Or.inl ⟨by rfl, ?_⟩) (by assumption) ?_); rotate_left; focus ((intro w hSw); (try dsimp only at hSw); go_simp; all_goals (with_reducible rfl))) | (refine wpAnyH_take (i := 6) (oi := ⟨_, _, _, _, _, _⟩) (v := undef) rfl (by kernel_rfl) (by kernel_rfl) (by kernel_rfl) (fun _ _ _ h => h) (Or.inr ⟨by rfl, rfl⟩) (by assumption) ?_))
      try simp only [Act.put, List.setIfInBounds_toArray, List.set_cons_zero, List.set_cons_succ]
      (first | ((refine wpAnyH_take (i := 7) (oi := ⟨_, _, _, _, _, _⟩) (v := ?_) rfl (by kernel_rfl) (by kernel_rfl) (by kernel_rfl) (fun _ _ _ h => h) (Or.inl ⟨by rfl, ?_⟩) (by assumption) ?_); rotate_left; focus ((intro w hSw); (try dsimp only at hSw); go_simp; all_goals (with_reducible rfl))) | (refine wpAnyH_take (i := 7) (oi := ⟨_, _, _, _, _, _⟩) (v := undef) rfl (by kernel_rfl) (by kernel_rfl) (by kernel_rfl) (fun _ _ _ h => h) (Or.inr ⟨by rfl, rfl⟩) (by assumption) ?_))
      try simp only [Act.put, List.setIfInBounds_toArray, List.set_cons_zero, List.set_cons_succ]
      (first | ((refine wpAnyH_take (i := 8) (oi := ⟨_, _, _, _, _, _⟩) (v := ?_) rfl (by kernel_rfl) (by kernel_rfl) (by kernel_rfl) (fun _ _ _ h => h) (Or.inl ⟨by rfl, ?_⟩) (by assumption) ?_); rotate_left; focus ((intro w hSw); (try dsimp only at hSw); go_simp; all_goals (with_reducible rfl))) | (refine wpAnyH_take (i := 8) (oi := ⟨_, _, _, _, _, _⟩) (v := undef) rfl (by kernel_rfl) (by kernel_rfl) (by kernel_rfl) (fun _ _ _ h => h) (Or.inr ⟨by rfl, rfl⟩) (by assumption) ?_))
      try simp only [Act.put, List.setIfInBounds_toArray, List.set_cons_zero, List.set_cons_succ]
      (first | ((refine wpAnyH_take (i := 9) (oi := ⟨_, _, _, _, _, _⟩) (v := ?_) rfl (by kernel_rfl) (by kernel_rfl) (by kernel_rfl) (fun _ _ _ h => h) (Or.inl ⟨by rfl, ?_⟩) (by assumption) ?_); rotate_left; focus ((intro w hSw); (try dsimp only at hSw); go_simp; all_goals (with_reducible rfl))) | (refine wpAnyH_take (i := 9) (oi := ⟨_, _, _, _, _, _⟩) (v := undef) rfl (by kernel_rfl) (by kernel_rfl) (by kernel_rfl) (fun _ _ _ h => h) (Or.inr ⟨by rfl, rfl⟩) (by assumption) ?_))
      try simp only [Act.put, List.setIfInBounds_toArray, List.set_cons_zero, List.set_cons_succ]
      (first | ((refine wpAnyH_take (i := 11) (oi := ⟨_, _, _, _, _, _⟩) (v := ?_) rfl (by kernel_rfl) (by kernel_rfl) (by kernel_rfl) (fun _ _ _ h => h) (Or.inl ⟨by rfl, ?_⟩) (by assumption) ?_); rotate_left; focus ((intro w hSw); (try dsimp only at hSw); go_simp; all_goals (with_reducible rfl))) | (refine wpAnyH_take (i := 11) (oi := ⟨_, _, _, _, _, _⟩) (v := undef) rfl (by kernel_rfl) (by kernel_rfl) (by kernel_rfl) (fun _ _ _ h => h) (Or.inr ⟨by rfl, rfl⟩) (by assumption) ?_))
      try simp only [Act.put, List.setIfInBounds_toArray, List.set_cons_zero, List.set_cons_succ]
      refine wpAnyH_ready (rs := [10]) (by kernel_rfl) (by simp) ?_
      refine AllReadyH.cons (o := ⟨_, _, _, _, _, _⟩) rfl (fun K hK => ?_) ?_
      · go_simp
        (with_reducible refine (KPL.out _).mono ?_)
        rintro e W1 ⟨rfl, hbb⟩
        go_wp2_with fail
        refine hK.out _ _ (HSA.out _ (Below.step h0.1 hbb)) (fun h1 => ?_)
        clear hK K
        try simp only [Act.put, List.setIfInBounds_toArray, List.set_cons_zero, List.set_cons_succ]
        (first | ((refine wpAnyH_take (i := 12) (oi := ⟨_, _, _, _, _, _⟩) (v := ?_) rfl (by kernel_rfl) (by kernel_rfl) (by kernel_rfl) (fun _ _ _ h => h) (Or.inl ⟨by rfl, ?_⟩) (by assumption) ?_); rotate_left; focus ((intro w hSw); (try dsimp only at hSw); go_simp; all_goals (with_reducible rfl))) | (refine wpAnyH_take (i := 12) (oi := ⟨_, _, _, _, _, _⟩) (v := undef) rfl (by kernel_rfl) (by kernel_rfl) (by kernel_rfl) (fun _ _ _ h => h) (Or.inr ⟨by rfl, rfl⟩) (by assumption) ?_))
        try simp only [Act.put, List.setIfInBounds_toArray, List.set_cons_zero, List.set_cons_succ]
        (first | ((refine wpAnyH_take (i := 13) (oi := ⟨_, _, _, _, _, _⟩) (v := ?_) rfl (by kernel_rfl) (by kernel_rfl) (by kernel_rfl) (fun _ _ _ h => h) (Or.inl ⟨by rfl, ?_⟩) (by assumption) ?_); rotate_left; focus ((intro w hSw); (try dsimp only at hSw); go_simp; all_goals (with_reducible rfl))) | (refine wpAnyH_take (i := 13) (oi := ⟨_, _, _, _, _, _⟩) (v := undef) rfl (by kernel_rfl) (by kernel_rfl) (by kernel_rfl) (fun _ _ _ h => h) (Or.inr ⟨by rfl, rfl⟩) (by assumption) ?_))
        try simp only [Act.put, List.setIfInBounds_toArray, List.set_cons_zero, List.set_cons_succ]
        (first | ((refine wpAnyH_take (i := 14) (oi := ⟨_, _, _, _, _, _⟩) (v := ?_) rfl (by kernel_rfl) (by kernel_rfl) (by kernel_rfl) (fun _ _ _ h => h) (Or.inl ⟨by rfl, ?_⟩) (by assumption) ?_); rotate_left; focus ((intro w hSw); (try dsimp only at hSw); go_simp; all_goals (with_reducible rfl))) | (refine wpAnyH_take (i := 14) (oi := ⟨_, _, _, _, _, _⟩) (v := undef) rfl (by kernel_rfl) (by kernel_rfl) (by kernel_rfl) (fun _ _ _ h => h) (Or.inr ⟨by rfl, rfl⟩) (by assumption) ?_))
        try simp only [Act.put, List.setIfInBounds_toArray, List.set_cons_zero, List.set_cons_succ]
        (first | ((refine wpAnyH_take (i := 15) (oi := ⟨_, _, _, _, _, _⟩) (v := ?_) rfl (by kernel_rfl) (by kernel_rfl) (by kernel_rfl) (fun _ _ _ h => h) (Or.inl ⟨by rfl, ?_⟩) (by assumption) ?_); rotate_left; focus ((intro w hSw); (try dsimp only at hSw); go_simp; all_goals (with_reducible rfl))) | (refine wpAnyH_take (i := 15) (oi := ⟨_, _, _, _, _, _⟩) (v := undef) rfl (by kernel_rfl) (by kernel_rfl) (by kernel_rfl) (fun _ _ _ h => h) (Or.inr ⟨by rfl, rfl⟩) (by assumption) ?_))
        try simp only [Act.put, List.setIfInBounds_toArray, List.set_cons_zero, List.set_cons_succ]
        (first | ((refine wpAnyH_take (i := 17) (oi := ⟨_, _, _, _, _, _⟩) (v := ?_) rfl (by kernel_rfl) (by kernel_rfl) (by kernel_rfl) (fun _ _ _ h => h) (Or.inl ⟨by rfl, ?_⟩) (by assumption) ?_); rotate_left; focus ((intro w hSw); (try dsimp only at hSw); go_simp; all_goals (with_reducible rfl))) | (refine wpAnyH_take (i := 17) (oi := ⟨_, _, _, _, _, _⟩) (v := undef) rfl (by kernel_rfl) (by kernel_rfl) (by kernel_rfl) (fun _ _ _ h => h) (Or.inr ⟨by rfl, rfl⟩) (by assumption) ?_))
        try simp only [Act.put, List.setIfInBounds_toArray, List.set_cons_zero, List.set_cons_succ]
        refine wpAnyH_ready (rs := [16]) (by kernel_rfl) (by simp) ?_
        refine AllReadyH.cons (o := ⟨_, _, _, _, _, _⟩) rfl (fun K hK => ?_) ?_
        · go_simp
          (with_reducible refine (KAN.out _).mono ?_)
          rintro e W2 ⟨rfl, hbc⟩
          go_wp2_with fail
          refine hK.out _ _ (HSA.out _ (Below.step h1.1 hbc)) (fun h2 => ?_)
          clear hK K
          try simp only [Act.put, List.setIfInBounds_toArray, List.set_cons_zero, List.set_cons_succ]
          (first | ((refine wpAnyH_take (i := 18) (oi := ⟨_, _, _, _, _, _⟩) (v := ?_) rfl (by kernel_rfl) (by kernel_rfl) (by kernel_rfl) (fun _ _ _ h => h) (Or.inl ⟨by rfl, ?_⟩) (by assumption) ?_); rotate_left; focus ((intro w hSw); (try dsimp only at hSw); go_simp; all_goals (with_reducible rfl))) | (refine wpAnyH_take (i := 18) (oi := ⟨_, _, _, _, _, _⟩) (v := undef) rfl (by kernel_rfl) (by kernel_rfl) (by kernel_rfl) (fun _ _ _ h => h) (Or.inr ⟨by rfl, rfl⟩) (by assumption) ?_))
          try simp only [Act.put, List.setIfInBounds_toArray, List.set_cons_zero, List.set_cons_succ]
          (first | ((refine wpAnyH_take (i := 19) (oi := ⟨_, _, _, _, _, _⟩) (v := ?_) rfl (by kernel_rfl) (by kernel_rfl) (by kernel_rfl) (fun _ _ _ h => h) (Or.inl ⟨by rfl, ?_⟩) (by assumption) ?_); rotate_left; focus ((intro w hSw); (try dsimp only at hSw); go_simp; all_goals (with_reducible rfl))) | (refine wpAnyH_take (i := 19) (oi := ⟨_, _, _, _, _, _⟩) (v := undef) rfl (by kernel_rfl) (by kernel_rfl) (by kernel_rfl) (fun _ _ _ h => h) (Or.inr ⟨by rfl, rfl⟩) (by assumption) ?_))
          try simp only [Act.put, List.setIfInBounds_toArray, List.set_cons_zero, List.set_cons_succ]
          refine wpAnyH_done (by kernel_rfl) ?_ _
          have hend := Below.step HBB.out h2.1
          have HN1 := Lib.hid (Below.step HB.out hend)
          have HN2 := Lib.hid (HL.out.same hend)
          have HN3 := Lib.hid (HS.out.same hend)
          clear h0 h1 h2 hbb hbc hend
          go_wp2_with fail
          go_roundw
          case rel => exact ⟨k + 1, by omega, by go_num, HN1.out, HN2.out, HN3.out⟩
          case measure => simp [intOf]; omega
        exact AllReadyH.nil
      exact AllReadyH.nil
    · have hk7' : k = 7 := by omega
      subst hk7'
      clear HL HS
      go_wp2_with fail
      refine (lives_any wr).mono ?_
      rintro e w7 ⟨rfl, hb7⟩
      go_wp2_with fail
      go_ret
      exact ⟨rfl, Below.step HB.out hb7⟩
end Go.Proofs.Ytaonhmdifinadaa
