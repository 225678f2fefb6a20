/-
  Rows of edits that a call owns; contracts: growth, both Inverts.
-/
import Derived.Test.YtpncjgcdiomloaaEdC
import Derived.Deep.RegionHeld3
import Derived.Deep.AppendLies
namespace Go.Proofs.Ytpncjgcdiomloaa
open Go Go.Proofs
open Go.RowKit
set_option linter.unusedVariables false
set_option linter.unusedSimpArgs false

theorem elemE : ElemT Try.prog 22 39 (.agg #[.int .i64 0, .int .i64 0, .string ⟨#[]⟩]) 3 32 := ⟨Try.underlying22, info_parts (by kernel_rfl), rfl, by decide⟩

/-- 'append' to what is owned, in a region that draws. -/
theorem step_append_src {P : Program} {w : World} {ops : Array Oper} {q : Oper} {a : Act} {K : Act → World → Prop} {Q : Exit → Act → World → Prop} {E' : Prop}
    (hg : q.guard = none) (s x : Operand) (t : TypeId) (ho : q.op = .call { callee := .builtin .append, args := #[s, x], argTypes := #[t, t] })
    {e : TypeId} {z : Value} {size bytes : Nat} (E : ElemT P t e z size bytes) (base : Nat)
    (v : Value) (n : Nat) (xs : List Value) (hs : a.eval s = v) (hown : w.ownsRow base e size v n xs) (ao : Option Addr) (m c : Nat) (news : List Value) (hx : a.eval x = .slice ao m c)
    (hsrc : RowAt w ao m c size news) (h1 : ∀ u ∈ news, u.oneCell' = true)
    (h63 : n + m ≤ 9223372036854775807) (hbytes : (n + m) * bytes ≤ 140737488355328) (hbase : base ≤ w.heap.size)
    (h : ∀ v' w', w'.ownsRow base e size v' (n + m) (xs ++ news) → Below base w w' → w.grownBy w' v.ownBlock → K (a.put q.dst v') w') :
    if Region.wanted q (yielded ops a.tmps) = true then Oper.wp P q a w K Q else E' := by
  have hw : Region.wanted q (yielded ops a.tmps) = true := by simp [Region.wanted, hg]
  rw [if_pos hw]
  obtain ⟨v', w', hr, h2, h3, h4⟩ := run_append_src (P := P) w E q.type base v n xs hown ao m c news hsrc h1 h63 hbytes hbase
  unfold Oper.wp execOp
  simp only [ho, resolve, invoke, builtin, Sem.run_bind, Sem.run_pure, Result.andThen_ok, List.map_toArray, List.map_cons, List.map_nil, hs, hx, hr]
  exact h v' w' h2 h3 h4

theorem ownsRow_row {w : World} {base : Nat} {e : TypeId} {size : Nat} {v : Value} {n : Nat} {xs : List Value} (h : w.ownsRow base e size v n xs) :
    ∃ a cap, v = .slice a n cap ∧ RowAt w a n cap size xs := by
  obtain ⟨hl, h2⟩ := h
  rcases h2 with ⟨rfl, rfl⟩ | ⟨g, cap, cur, rfl, hg, hgg, hc, hm, hs, ht⟩
  · exact ⟨none, 0, rfl, hl, Nat.le_refl _, by omega, fun _ => rfl, fun h => by omega⟩
  · refine ⟨_, cap, rfl, hl, hc, by simpa [maxLen] using hm, by simp, fun hp => ⟨g, 0, rfl, fun i v hi => ?_⟩⟩
    rw [Nat.zero_add, cell_of_row w g i cur e (0, 0) hgg]
    have hlt := (List.getElem?_eq_some_iff.1 hi).1
    have e2 : (List.take (n * size) cur.toList)[i]? = some v := by rw [ht]; exact hi
    rw [List.getElem?_take, if_pos (by omega)] at e2
    simpa using e2
def OwnEds (w : World) (base : Nat) (v : Value) (es : List Ed) : Prop := w.ownsRow base 39 3 v es.length (edCs es)
theorem OwnEds.at {w : World} {base : Nat} {v : Value} {es : List Ed} (h : OwnEds w base v es) : ∃ a cap, v = .slice a es.length cap ∧ EdsAt w a cap es := by
  obtain ⟨a, cap, hv, hr⟩ := ownsRow_row h
  exact ⟨a, cap, hv, hr⟩
theorem OwnEds.below {w w' : World} {base : Nat} {v : Value} {es : List Ed} (h : OwnEds w base v es) (hb : Below w.heap.size w w') : OwnEds w' base v es := ownsRow_below h hb
theorem OwnEds.nil (w : World) (base : Nat) : OwnEds w base (.slice none 0 0) [] := World.ownsRow_nil _ _ _ _
/-- An edit more, as the walk has it. -/
theorem OwnEds.snoc {w : World} {base : Nat} {v : Value} {es : List Ed} {e : Ed} (h : w.ownsRow base 39 3 v (es.length + 1) (edCs es ++ edC e)) : OwnEds w base v (es ++ [e]) := by
  unfold OwnEds
  rw [edCs_app, List.length_append]
  simpa [edCs] using h
/-- A struct's block that has just been made. -/
theorem ed_new (w : World) (e : Ed) : (w.alloc (.cells #[.int .i64 e.f, .int .i64 e.t, .string (strB e.x)] 39)).heap[w.heap.size]? = some (.cells #[.int .i64 e.f, .int .i64 e.t, .string (strB e.x)] 39 (0, 0)) := heap_alloc_new w _
theorem ed_cells {w : World} {b : Nat} {v0 v1 v2 : Value} {t : TypeId} (h : w.heap[b]? = some (.cells #[v0, v1, v2] t (0, 0))) :
    w.cell? ⟨b, 0, none⟩ = some v0 ∧ w.cell? ⟨b, 1, none⟩ = some v1 ∧ w.cell? ⟨b, 2, none⟩ = some v2 := ⟨cell_of_row w b 0 _ _ _ h, cell_of_row w b 1 _ _ _ h, cell_of_row w b 2 _ _ _ h⟩

theorem ed_far {W W2 : World} {g : Nat} {v0 v1 v2 : Value} {row : Option Nat} (h : W.cell? ⟨g, 0, none⟩ = some v0 ∧ W.cell? ⟨g, 1, none⟩ = some v1 ∧ W.cell? ⟨g, 2, none⟩ = some v2) (hg : W.grownBy W2 row) (hlt : g < W.heap.size) (hne : some g ≠ row) :
    W2.cell? ⟨g, 0, none⟩ = some v0 ∧ W2.cell? ⟨g, 1, none⟩ = some v1 ∧ W2.cell? ⟨g, 2, none⟩ = some v2 :=
  ⟨(hg.cell_far (a := ⟨g, 0, none⟩) hlt hne).trans h.1, (hg.cell_far (a := ⟨g, 1, none⟩) hlt hne).trans h.2.1, (hg.cell_far (a := ⟨g, 2, none⟩) hlt hne).trans h.2.2⟩
theorem growth_any (f t : Int) (x : List UInt8) (w : World) (hx : x.length ≤ 1000000000) (h1 : -10000000000000 ≤ f) (h2 : f ≤ 10000000000000) (h3 : -10000000000000 ≤ t) (h4 : t ≤ 10000000000000) :
    Calls Try.prog 41 #[.agg #[.int .i64 f, .int .i64 t, .string (strB x)]] w fun e w' => e = .returned (.int .i64 (growE ⟨f, t, x⟩)) ∧ Below w.heap.size w w' := by
  have hs := strB_size x
  have HS := Lib.hid hs
  have hz : (strB x).size ≤ 1000000000 := by rw [hs]; exact hx
  clear hs
  go_enter Try.func41, Try.ntmps41
  go_wp2
  go_ret
  exact ⟨by rw [HS.out]; rfl, (Below.refl _ w).alloc (Nat.le_refl _) _⟩

/-- All that the lists' numbers and texts may be. -/
def EdS (e : Ed) : Prop := -1000000000000 ≤ e.f ∧ e.f ≤ 1000000000000 ∧ -1000000000000 ≤ e.t ∧ e.t ≤ 1000000000000 ∧ e.x.length ≤ 1000000
def invX (l : List UInt8) (es : List Ed) : List Ed := if validL l.length es = 0 then invL l 0 es else []
theorem invX_ok {l : List UInt8} {es : List Ed} (h : validL l.length es = 0) : invX l es = invL l 0 es := by unfold invX; rw [if_pos h]
theorem invX_bad {l : List UInt8} {es : List Ed} (h : validL l.length es ≠ 0) : invX l es = [] := by unfold invX; rw [if_neg h]

set_option maxRecDepth 100000 in
set_option maxHeartbeats 4000000 in
theorem Invert_any (s : ByteArray) (a : Option Addr) (c : Nat) (es : List Ed) (w : World) (hs : s.size ≤ 1000000000) (hx : EdsAt w a c es) (hl : ∀ e ∈ es, e.x.length ≤ 1000000) :
    Calls Try.prog 18 #[.string s, .slice a es.length c] w fun e w' => ∃ v, e = .returned (.tuple #[v, .int .i64 (validL s.size es)]) ∧ OwnEds w' w.heap.size v (invX s.data.toList es) ∧ Below w.heap.size w w' := by
  have K := Lib.hid (valid_any s a c es w (by omega) hx)
  by_cases hv : validL s.size es = 0
  · have hv' : validL s.data.toList.length es = 0 := hv
    have h64 : es.length ≤ 64 := by
      unfold validL at hv
      split at hv
      · omega
      · omega
    have hS := valid_snd hv
    rw [invX_ok hv']
    rw [hv] at K ⊢
    generalize hR : invL s.data.toList 0 es = R
    have HR := Lib.hid hR
    have HS := Lib.hid hS
    have HL := Lib.hid hl
    clear hv hv' hR hS hl
    have hm := hx.max
    go_enter Try.func18, Try.ntmps18
    go_wp2_with fail
    refine K.out.mono ?_
    rintro e w1 ⟨rfl, hb1⟩
    go_wp2_with fail
    go_loopw [7, 8, 19] (fun ov dv iv wr => ∃ (k p : Nat) (d : Int) (acc : List Ed), k ≤ es.length ∧ iv = .int .i64 k ∧ dv = .int .i64 d ∧ 0 ≤ (p : Int) + d ∧ d ≤ 1000000 * (k : Int) ∧ acc.length = k ∧ Hid (acc ++ invL s.data.toList d (es.drop k) = R) ∧ Hid (Snd s.size p (es.drop k)) ∧ OwnEds wr w.heap.size ov acc ∧ Below w.heap.size w wr) (fun _ _ iv _ => es.length - (intOf iv).toNat)
    case atStart => exact ⟨0, 0, 0, [], by omega, rfl, rfl, by omega, by omega, rfl, HR.out, HS.out, OwnEds.nil _ _, hb1⟩
    case round =>
      obtain ⟨k, p, d, acc, hk, rfl, rfl, hd1, hd2, hal, hA, hS, hO, hB⟩ := hrel
      by_cases hlt : k < es.length
      · obtain ⟨b, off, rfl⟩ := hx.addr (by omega)
        obtain ⟨e, he⟩ : ∃ e, es[k]? = some e := ⟨es[k], List.getElem?_eq_getElem hlt⟩
        obtain ⟨f0, f1, f2⟩ := (hx.below hB).cells he
        have hle := HL.out e (List.mem_of_getElem? he)
        have hd : es.drop k = e :: es.drop (k + 1) := by
          rw [List.getElem?_eq_getElem hlt, Option.some.injEq] at he
          rw [List.drop_eq_getElem_cons hlt, he]
        have hA' := hA.out
        have hS' := hS.out
        rw [hd] at hA' hS'
        obtain ⟨g1, g2, g3, g4⟩ := hS'
        obtain ⟨ef, et, ex⟩ := e
        simp only [invL] at hA'
        simp only at g1 g2 g3 g4 f0 f1 f2 hle
        obtain ⟨f, rfl⟩ : ∃ f : Nat, ef = f := ⟨ef.toNat, by omega⟩
        obtain ⟨t, rfl⟩ : ∃ t : Nat, et = t := ⟨et.toNat, by omega⟩
        simp only [Int.toNat_natCast] at hA' g4
        rw [← ext_list] at hA'
        have HA := Lib.hid hA'
        have HS := Lib.hid g4
        have hple := g4.le
        clear hA' g4 hA hS hd he
        have hsb := strB_size ex
        have HSB := Lib.hid hsb
        have hsz : (strB ex).size ≤ 1000000 := by omega
        clear hsb
        obtain ⟨W0, hW0⟩ : ∃ x, x = wr.alloc (.cells #[.int .i64 f, .int .i64 t, .string (strB ex)] 39) := ⟨_, rfl⟩
        have hb0 : W0.heap[wr.heap.size]? = some (.cells #[.int .i64 f, .int .i64 t, .string (strB ex)] 39 (0, 0)) := by rw [hW0]; exact heap_alloc_new wr _
        have hz0 : W0.heap.size = wr.heap.size + 1 := by rw [hW0]; exact World.size_alloc _ _
        have hBB : Below wr.heap.size wr W0 := by rw [hW0]; exact (Below.refl _ wr).alloc (Nat.le_refl _) _
        have hB0 := hB.trans (hBB.mono hB.size)
        have hO0 := hO.below hBB
        have hsz1 := hB.size
        have hne : some wr.heap.size ≠ u7.ownBlock := fun h => Nat.lt_irrefl _ (hO.lt _ h.symm).2
        obtain ⟨x0, x1, x2⟩ := ed_cells hb0
        have HW0 := Lib.hid hW0
        have HO0 := Lib.hid hO0
        have HB0 := Lib.hid hB0
        have HZ := Lib.hid hz0
        have HNE := Lib.hid hne
        clear hW0 hO0 hB0 hBB hz0 hne hO hB
        generalize hg : wr.heap.size = g at *
        go_wp2_with fail
        rw [← HW0.out]
        have e1 := IntWalk.i64_in ((f : Int) + d) (by omega)
        have e2 := IntWalk.i64_in ((f : Int) + d + (strB ex).size) (by omega)
        go_region_held3 (fun W => W.cell? ⟨g, 0, none⟩ = some (.int .i64 f) ∧ W.cell? ⟨g, 1, none⟩ = some (.int .i64 t) ∧ W.cell? ⟨g, 2, none⟩ = some (.string (strB ex)))
          (first | assumption | exact ⟨x0, x1, x2⟩ | exact ed_far (by assumption) hgrow (by simp; have := HZ.out; omega) HNE.out | go_keep)
          ((refine step_append_src (by rfl) (.tmp 23) (.tmp 43) 22 (by rfl) elemE w.heap.size _ acc.length _ (by rfl) (ownsRow_below HO0.out ((Below.drew (Below.refl _ W0)).alloc (Nat.le_refl _) _)) (some ⟨W0.heap.size, 0, none⟩) 1 1 [.int .i64 (f + d), .int .i64 (f + d + (strB ex).size), .string (s.extract f t)] (by rfl) (row_new (cs := [.int .i64 (f + d), .int .i64 (f + d + (strB ex).size), .string (s.extract f t)]) (by simp) (by omega)) (by simp [Value.oneCell']) (by omega) (by omega) (by simp; have := HZ.out; omega) ?_; intro v' w2 hown2 hB2 hgrow))
        have hh : w2.cell? ⟨g, 0, none⟩ = some (.int .i64 f) ∧ w2.cell? ⟨g, 1, none⟩ = some (.int .i64 t) ∧ w2.cell? ⟨g, 2, none⟩ = some (.string (strB ex)) := by assumption
        obtain ⟨y0, y1, y2⟩ := hh
        obtain ⟨gr, hgr⟩ : ∃ z, growE ⟨f, t, ex⟩ = z := ⟨_, rfl⟩
        have hgr' : gr = (ex.length : Int) - ((t : Int) - f) := by rw [← hgr]; rfl
        have kg := growth_any f t ex w2 (by omega) (by omega) (by omega) (by omega) (by omega)
        rw [hgr] at kg
        have KG := Lib.hid kg
        have b1 : -1000000000 ≤ gr ∧ gr ≤ 1000000 := by omega
        have HG := Lib.hid hgr'
        have b2 : 0 ≤ (t : Int) + (d + gr) := by omega
        have HGR := Lib.hid hgr
        have HB2 := Lib.hid hB2
        have HOW := Lib.hid hown2
        clear e1 e2 x0 x1 x2 f0 f1 f2 kg hgr hgr' hgrow hB2 hown2
        obtain ⟨b3, b4⟩ := b1
        obtain ⟨av, cv, rfl, _⟩ := ownsRow_row HOW.out
        go_wp2_with fail
        refine KG.out.mono ?_
        rintro e w3 ⟨rfl, hb3⟩
        go_wp2
        go_roundw
        case rel =>
          have hB3 : Below w.heap.size w w3 := ((HB0.out.trans ((Below.drew (Below.refl w.heap.size W0)).alloc (show w.heap.size ≤ W0.heap.size by have := HZ.out; omega) _)).trans HB2.out).trans (hb3.mono (Nat.le_trans (Nat.le_trans (show w.heap.size ≤ W0.heap.size by have := HZ.out; omega) (by simp)) HB2.out.size))
          have hO3 : OwnEds w3 w.heap.size (.slice av (k + 1) cv) (acc ++ [⟨f + d, f + d + ex.length, (s.extract f t).data.toList⟩]) := by
            have h := HOW.out
            rw [hal] at h
            refine OwnEds.below (OwnEds.snoc ?_) hb3
            rw [hal]
            unfold edC
            simp only [strB_of]
            rw [← HSB.out]
            exact h
          exact ⟨k + 1, t, d + gr, acc ++ [⟨f + d, f + d + ex.length, (s.extract f t).data.toList⟩], by omega, by go_num, rfl, by omega, by omega, by simp; omega, Lib.hid (by rw [← HA.out, ← HGR.out]; simp only [List.append_assoc, List.singleton_append]), HS.out, hO3, hB3⟩
        case measure => simp [intOf]; omega
      · have hA' := hA.out
        rw [List.drop_of_length_le (by omega)] at hA'
        simp only [invL, List.append_nil] at hA'
        subst hA'
        clear hA hS HR
        have HO := Lib.hid hO
        clear hO
        go_wp2
        go_ret2
        exact ⟨_, rfl, HO.out, hB⟩
  · have hv' : validL s.data.toList.length es ≠ 0 := hv
    rw [invX_bad hv']
    clear hv'
    generalize validL s.size es = v at *
    have hne : (v != 0) = true := by simpa using hv
    clear hv hl
    go_enter Try.func18, Try.ntmps18
    go_wp2_with fail
    refine K.out.mono ?_
    rintro e w1 ⟨rfl, hb1⟩
    go_wp2
    go_ret2
    exact ⟨_, rfl, OwnEds.nil _ _, hb1⟩
end Go.Proofs.Ytpncjgcdiomloaa
