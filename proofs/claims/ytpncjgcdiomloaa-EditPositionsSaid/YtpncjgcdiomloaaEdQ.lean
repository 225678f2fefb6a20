/-
  The walk of the law EditApply.
-/
import Derived.Test.YtpncjgcdiomloaaEdP
import Derived.Test.YtpncjgcdiomloaaEdOp
namespace Go.Proofs.Ytpncjgcdiomloaa
open Go Go.Proofs
open Go.RowKit
set_option linter.unusedVariables false
set_option linter.unusedSimpArgs false

theorem grow_le {n B : Nat} {l : List Ed} : ∀ {q : Nat}, Snd n q l → (∀ e ∈ l, e.x.length ≤ B) → growL l ≤ ((B * l.length : Nat) : Int) := by
  induction l with
  | nil => intro q _ _; simp [growL]
  | cons x l ihl =>
    intro q hq hx
    obtain ⟨g1, g2, g3, g4⟩ := hq
    have h1 := ihl g4 (fun e he => hx e (List.mem_cons_of_mem _ he))
    have h2 := hx x (by simp)
    simp only [growL, growE, List.length_cons, Nat.mul_add, Nat.mul_one]
    generalize B * l.length = z at *
    omega
theorem apply_le {s : List UInt8} {es : List Ed} {B : Nat} : ∀ {p : Nat}, Snd s.length p es → (∀ e ∈ es, e.x.length ≤ B) → (applyL s p es).length ≤ s.length + B * es.length := by
  induction es with
  | nil => intro p _ _; simp [applyL]
  | cons e es ih =>
    intro p h hb
    obtain ⟨h1, h2, h3, h4⟩ := h
    have h5 := apply_len h4
    have h6 := hb e (by simp)
    have h7 := grow_le h4 fun x hx => hb x (List.mem_cons_of_mem _ hx)
    have hc := cutL_len (s := s) (a := p) (b := e.f.toNat) (by omega) (by omega)
    simp only [applyL, List.length_append, hc, List.length_cons, Nat.mul_add, Nat.mul_one]
    generalize B * es.length = z at *
    omega
theorem applyX_le {s : List UInt8} {es : List Ed} {B : Nat} (hb : ∀ e ∈ es, e.x.length ≤ B) : (applyX s es).length ≤ s.length + B * es.length := by
  unfold applyX
  split
  · rename_i h
    exact apply_le (valid_snd h) hb
  · simp
theorem few_x {es : List Ed} {m : Nat} : ∀ e ∈ fewL es m, e.x.length ≤ 8 := by
  intro e he
  unfold fewL at he
  obtain ⟨x, _, rfl⟩ := List.mem_map.1 he
  exact cutL_le x.x 0 8

theorem applies_any (s : ByteArray) (a : Option Addr) (c : Nat) (es : List Ed) (w : World) (hs : s.size ≤ 1000) (hx : EdsAt w a c es) (hl : es.length ≤ 100) (hb : ∀ e ∈ es, e.x.length ≤ 8) :
    Calls Try.prog 14 #[.string s, .slice a es.length c] w fun e w' => e = .returned (.bool true) ∧ Below w.heap.size w w' := by
  have hle : (applyX s.data.toList es).length ≤ 1000000000 := by
    have := applyX_le (s := s.data.toList) hb
    rw [size_list] at this
    omega
  have K1 := Lib.hid (Apply_any s a c es w (by omega) hx hle)
  have K2 := Lib.hid fun W hW => rApply_any s a c es W (by omega) (hx.below hW) hle
  have K3 := Lib.hid fun W hW => valid_any s a c es W (by omega) (hx.below hW)
  have K4 := Lib.hid fun W hW => rvalid_any s a c es W (by omega) (hx.below hW)
  generalize strB (applyX s.data.toList es) = r at *
  generalize validL s.size es = v at *
  clear hx hle hb
  have h1 : (v == v) = true := by simp
  have h2 : (r.toList == r.toList) = true := by simp
  go_enter Try.func14, Try.ntmps14
  go_wp2_with fail
  refine K1.out.mono ?_
  rintro e w1 ⟨rfl, hb1⟩
  go_wp2_with fail
  refine (K2.out w1 hb1).mono ?_
  rintro e w2 ⟨rfl, hb2⟩
  have hB2 := Below.step hb1 hb2
  go_wp2_with fail
  refine (K3.out w2 hB2).mono ?_
  rintro e w3 ⟨rfl, hb3⟩
  have hB3 := Below.step hB2 hb3
  go_wp2_with fail
  refine (K4.out w3 hB3).mono ?_
  rintro e w4 ⟨rfl, hb4⟩
  go_wp2_with fail
  go_ret
  exact ⟨rfl, Below.step hB3 hb4⟩

theorem editApply_walk (s : ByteArray) (a : Option Addr) (c : Nat) (es : List Ed) (a2 : Option Addr) (c2 : Nat) (xs : List Int) (w : World) (hs : s.size ≤ 9223372036854775807) (hx : EdsAt w a c es) (hw : ∀ e ∈ es, EdW e) (hn : SliceAt w a2 c2 (xs.map intV)) (hnb : ∀ n ∈ xs, -9223372036854775808 ≤ n ∧ n ≤ 9223372036854775807) :
    Calls Try.prog 3 #[.string s, .slice a es.length c, .slice a2 xs.length c2] w fun e w' => e = .returned (.bool true) ∧ Below w.heap.size w w' := by
  have K1 := Lib.hid (short_any s 40 w hs (by decide))
  have K2 := Lib.hid (fewEd_any a c es 6 w hx (by decide) fun e he => (hw e he).2.2.2.2)
  have hfs := size_extract0 s 40
  have K3 := Lib.hid fun W (hW : Below w.heap.size w W) => raw_any (s.extract 0 40) a2 c2 xs W (by omega) (hn.below hW) hnb
  generalize s.extract 0 40 = t at *
  clear hx hw hn hnb
  go_enter Try.func3, Try.ntmps3
  go_wp2_with fail
  refine K1.out.mono ?_
  rintro e w1 ⟨rfl, rfl⟩
  go_wp2_with fail
  refine K2.out.mono ?_
  rintro e w2 ⟨v, rfl, ho, hb2⟩
  obtain ⟨b, d, rfl, hat⟩ := ho.at
  have K4 := Lib.hid (applies_any t b d (fewL es 6) w2 (by omega) hat (by have := few_len es 6; omega) few_x)
  clear ho hat K1 K2
  go_wp2_with fail
  refine K4.out.mono ?_
  rintro e w3 ⟨rfl, hb3⟩
  have hB3 := Below.step hb2 hb3
  clear K4
  go_wp2_with fail
  refine (K3.out w3 hB3).mono ?_
  rintro e w4 ⟨b4, d4, gs, rfl, hg, hat, hb4⟩
  have hB4 := Below.step hB3 hb4
  have K5 := Lib.hid (applies_any t b4 d4 gs w4 (by omega) hat (by have := hg.2.1; omega) (fun e he => by have := hg.2.2 e he; omega))
  clear hat hg
  go_wp2_with fail
  refine K5.out.mono ?_
  rintro e w5 ⟨rfl, hb5⟩
  have hB5 := Below.step hB4 hb5
  go_wp2_with fail
  refine (lives_any w5).mono ?_
  rintro e w6 ⟨rfl, hb6⟩
  go_wp2_with fail
  go_ret
  exact ⟨rfl, Below.step hB5 hb6⟩
end Go.Proofs.Ytpncjgcdiomloaa
