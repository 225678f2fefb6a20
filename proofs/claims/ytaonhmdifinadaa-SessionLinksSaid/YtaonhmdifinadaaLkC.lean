/-
  The law SessionLinks: what is encoded can be decoded. No program in sight.
-/
import Derived.Test.YtaonhmdifinadaaSesW
import Derived.Test.YtaonhmdifinadaaLkS
namespace Go.Proofs.Ytaonhmdifinadaa
open Go Go.Proofs
set_option linter.unusedVariables false
set_option linter.unusedSimpArgs false

theorem rd_rq {r : Rq} (h : okR r = true) : rdRq ⟨encRq r, 0⟩ = r ∧ rq6 ⟨encRq r, 0⟩ = ⟨[], 0⟩ := by
  obtain ⟨h1, h2, h3, h4, h5, h6, h7, h8, h9, h10⟩ := okR_iff.1 h
  have e : encRq r = encI r.id ++ (encI r.kind ++ (encR r.doc.data.toList ++ (encI r.ver ++ (encI r.off ++ (encR r.txt.data.toList ++ []))))) := by simp [encRq]
  have s1 := size_list r.doc
  have s2 := size_list r.txt
  have i1 := fun t => intR_enc (n := r.id) (by omega) (by omega) t
  have i2 := fun t => intR_enc (n := r.kind) (by omega) (by omega) t
  have i3 := fun t => rawR_enc (bs := r.doc.data.toList) (by omega) t
  have i4 := fun t => intR_enc (n := r.ver) (by omega) (by omega) t
  have i5 := fun t => intR_enc (n := r.off) (by omega) (by omega) t
  have i6 := fun t => rawR_enc (bs := r.txt.data.toList) (by omega) t
  rw [e]
  unfold rdRq rq6 rq5 rq4 rq3 rq2 rq1
  rw [i1, i2, i3, i4, i5, i6]
  exact ⟨by simp, rfl⟩
theorem dec_rq {r : Rq} (h : okR r = true) : decOk (encRq r) = true ∧ decRq (encRq r) = r := by
  obtain ⟨h1, h2⟩ := rd_rq h
  have hd : decOk (encRq r) = true := by
    unfold decOk
    rw [h1, h2, h]
    rfl
  exact ⟨hd, by unfold decRq; rw [if_pos hd, h1]⟩
theorem okB_okA {a : An} (h : okB a) : okA a = true := okA_iff.2 (by unfold okB at h; omega)
theorem rd_an {a : An} (h : okA a = true) : rdAn ⟨encAn a, 0⟩ = a ∧ an4 ⟨encAn a, 0⟩ = ⟨[], 0⟩ := by
  obtain ⟨h1, h2, h3, h4, h5, h6, h7⟩ := okA_iff.1 h
  have e : encAn a = encI a.id ++ (encI a.err ++ (encI a.ver ++ (encR a.txt.data.toList ++ []))) := by simp [encAn]
  have s1 := size_list a.txt
  have i1 := fun t => intR_enc (n := a.id) (by omega) (by omega) t
  have i2 := fun t => intR_enc (n := a.err) (by omega) (by omega) t
  have i3 := fun t => intR_enc (n := a.ver) (by omega) (by omega) t
  have i4 := fun t => rawR_enc (bs := a.txt.data.toList) (by omega) t
  rw [e]
  unfold rdAn an4 an3 rq2 rq1
  rw [i1, i2, i3, i4]
  exact ⟨by simp, rfl⟩
theorem dec_an {a : An} (h : okA a = true) : adecOk (encAn a) = true ∧ decAn (encAn a) = a := by
  obtain ⟨h1, h2⟩ := rd_an h
  have hd : adecOk (encAn a) = true := by
    unfold adecOk
    rw [h1, h2, h]
    rfl
  exact ⟨hd, by unfold decAn; rw [if_pos hd, h1]⟩
theorem enc_rq_len {r : Rq} (h : okR r = true) : (encRq r).length ≤ 65536 := by
  obtain ⟨h1, h2, h3, h4, h5, h6, h7, h8, h9, h10⟩ := okR_iff.1 h
  have s1 := size_list r.doc
  have s2 := size_list r.txt
  have i1 := encI_len r.id (by omega) (by omega)
  have i2 := encI_len r.kind (by omega) (by omega)
  have i3 := encR_len r.doc.data.toList (by omega)
  have i4 := encI_len r.ver (by omega) (by omega)
  have i5 := encI_len r.off (by omega) (by omega)
  have i6 := encR_len r.txt.data.toList (by omega)
  unfold encRq
  simp only [List.length_append, List.length_nil]
  omega
theorem enc_an_len {a : An} (h : okB a) : (encAn a).length ≤ 65536 := by
  unfold okB at h
  have s1 := size_list a.txt
  have i1 := encI_len a.id (by omega) (by omega)
  have i2 := encI_len a.err (by omega) (by omega)
  have i3 := encI_len a.ver (by omega) (by omega)
  have i6 := encR_len a.txt.data.toList (by omega)
  unfold encAn
  simp only [List.length_append, List.length_nil]
  omega
end Go.Proofs.Ytaonhmdifinadaa
