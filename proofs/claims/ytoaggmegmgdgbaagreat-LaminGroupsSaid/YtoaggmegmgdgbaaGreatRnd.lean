import Derived.Test.YtoaggmegmgdgbaaGreatAngN
namespace Go.Proofs.YtoaggmegmgdgbaaGreat
open Go.RowKit
theorem okA_inj {n n' : Bool} {a d a' d' : ByteArray} (h : okA n a d = true) (h' : okA n' a' d' = true) (e : be (sl a) * be (sl d') = be (sl a') * be (sl d)) : n = n' ∧ a = a' ∧ d = d' := by
  obtain ⟨rfl, ma, md, g, lt, -⟩ := okA_spec h
  obtain ⟨rfl, ma', md', g', lt', -⟩ := okA_spec h'
  have e1 : be (sl d) ∣ be (sl d') := by
    have : be (sl d) ∣ be (sl a) * be (sl d') := by rw [e]; exact Nat.dvd_mul_left _ _
    exact Nat.Coprime.dvd_of_dvd_mul_left (Nat.Coprime.symm g) this
  have e2 : be (sl d') ∣ be (sl d) := by
    have : be (sl d') ∣ be (sl a') * be (sl d) := by rw [← e]; exact Nat.dvd_mul_left _ _
    exact Nat.Coprime.dvd_of_dvd_mul_left (Nat.Coprime.symm g') this
  have e3 : be (sl d) = be (sl d') := Nat.dvd_antisymm e1 e2
  rw [e3] at e
  have e4 : be (sl a) = be (sl a') := Nat.eq_of_mul_eq_mul_right (by omega) e
  refine ⟨rfl, ?_, ?_⟩
  · rw [← natS_be ma, ← natS_be ma', e4]
  · rw [← natS_be md, ← natS_be md', e3]
theorem okA_size {n : Bool} {a d : ByteArray} (h : okA n a d = true) : a.size ≤ 9223372036854775807 ∧ d.size ≤ 9223372036854775807 := by
  obtain ⟨-, ma, md, -⟩ := okA_spec h
  have := mayB_size ma
  have := mayB_size md
  omega
end Go.Proofs.YtoaggmegmgdgbaaGreat
