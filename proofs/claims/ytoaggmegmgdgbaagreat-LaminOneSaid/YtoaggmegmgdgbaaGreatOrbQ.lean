import Derived.Test.YtoaggmegmgdgbaaGreatRowQ
namespace Go.Proofs.YtoaggmegmgdgbaaGreat
def symF (s t x y d n : Nat) : Nat := symV s t (orbM x y d n).1 (orbM x y d n).2 d
section
variable {s t x y d n : Nat}
theorem symL_get {i : Nat} (h : i < n) : (symL s t x y d n)[i]? = some (symF s t x y d i) := by simp [symL, symF, orbL_get h]
theorem orbM_round {p k r : Nat} (hd : 1 ≤ d) (hy : 0 < y) (hp : p = (kindN y d).1) (hk : k = (kindN y d).2) (u : Nat) : orbM x y d (p + r + k * u) = orbM x y d (p + r) := by
  unfold orbM
  rw [orb_round hd hy hp hk u]
theorem raw_at (hd : 1 ≤ d) (hy : 0 < y) : rowAt ((symL s t x y d (orbN y d)).take (kindN y d).1) ((symL s t x y d (orbN y d)).drop (kindN y d).1) n = symF s t x y d n := by
  obtain ⟨p, hp⟩ : ∃ p, p = (kindN y d).1 := ⟨_, rfl⟩
  obtain ⟨k, hk⟩ : ∃ k, k = (kindN y d).2 := ⟨_, rfl⟩
  have hk1 : 1 ≤ k := by rw [hk]; exact kindN_pos hy
  have hN : orbN y d = p + k := by rw [hp, hk]; rfl
  rw [← hp, hN]
  have l1 : ((symL s t x y d (p + k)).take p).length = p := by rw [List.length_take, symL_len]; omega
  have l2 : ((symL s t x y d (p + k)).drop p).length = k := by rw [List.length_drop, symL_len]; omega
  rcases Nat.lt_or_ge n p with h | h
  · have e := rowAt_pre (p := (symL s t x y d (p + k)).take p) (q := (symL s t x y d (p + k)).drop p) (n := n) (by rw [l1]; exact h)
    rw [List.getElem?_take_of_lt h, symL_get (by omega)] at e
    exact (Option.some.inj e).symm
  · have e := rowAt_per (p := (symL s t x y d (p + k)).take p) (q := (symL s t x y d (p + k)).drop p) (n := n) (by rw [l1]; exact h) (by rw [l2]; exact hk1)
    have hr := Nat.mod_lt (n - p) hk1
    rw [l1, l2, List.getElem?_drop, symL_get (by omega)] at e
    rw [← Option.some.inj e]
    unfold symF
    have h1 := orbM_round (x := x) (r := (n - p) % k) hd hy hp hk ((n - p) / k)
    have h2 := Nat.div_add_mod (n - p) k
    rw [show p + (n - p) % k + k * ((n - p) / k) = n by omega] at h1
    rw [h1]
theorem raw_len (hy : 0 < y) : ((symL s t x y d (orbN y d)).take (kindN y d).1).length + ((symL s t x y d (orbN y d)).drop (kindN y d).1).length = orbN y d ∧ 0 < ((symL s t x y d (orbN y d)).drop (kindN y d).1).length := by
  have hk1 := kindN_pos (d := d) hy
  rw [List.length_take, List.length_drop, symL_len]
  unfold orbN
  omega
theorem symB_of {v d : Nat} (hd : d ≤ 64) (h : v = 255 ∨ v < d) : symB v = true := by
  unfold symB
  rcases h with rfl | h
  · rfl
  · rw [decide_eq_true (by omega : v < 64)]; rfl
theorem symV_or {s t p q d : Nat} (hd : 0 < d) : symV s t p q d = 255 ∨ symV s t p q d < d := by
  by_cases h : symV s t p q d = 255
  · exact .inl h
  · exact .inr (symV_lt hd h)
theorem raw_may (hd : 1 ≤ d) (hd2 : d ≤ 64) (hy : 0 < y) (hn : orbN y d ≤ 4096) : mayI ((symL s t x y d (orbN y d)).take (kindN y d).1) ((symL s t x y d (orbN y d)).drop (kindN y d).1) = true := by
  obtain ⟨h1, h2⟩ := raw_len (s := s) (t := t) (x := x) (d := d) hy
  have hall : ∀ v, v ∈ symL s t x y d (orbN y d) → symB v = true := fun v hv => by
    unfold symL at hv
    obtain ⟨m, -, rfl⟩ := List.mem_map.1 hv
    exact symB_of hd2 (symV_or hd)
  have hne : (symL s t x y d (orbN y d)).drop (kindN y d).1 ≠ [] := fun e => by rw [e] at h2; simp at h2
  simp only [mayI, Bool.and_eq_true, List.all_eq_true, decide_eq_true_eq]
  exact ⟨⟨⟨hne, by omega⟩, fun v hv => hall v (List.mem_of_mem_take hv)⟩, fun v hv => hall v (List.mem_of_mem_drop hv)⟩
theorem of_at (hd : 1 ≤ d) (hy : 0 < y) (n : Nat) : rowAt (ofP s t x y d) (ofQ s t x y d) n = symF s t x y d n := by
  unfold ofP ofQ
  rw [low_at (raw_len hy).2, raw_at hd hy]
theorem of_may (hd : 1 ≤ d) (hd2 : d ≤ 64) (hy : 0 < y) (hn : orbN y d ≤ 4096) : mayI (ofP s t x y d) (ofQ s t x y d) = true := low_may (raw_may hd hd2 hy hn)
theorem of_low (hy : 0 < y) {p q : List Nat} (hd : 1 ≤ d) (hq : 0 < q.length) (h : ∀ n, rowAt p q n = symF s t x y d n) : lowP p q = ofP s t x y d ∧ lowQ p q = ofQ s t x y d :=
  low_alike hq (raw_len hy).2 fun n => by rw [h, raw_at hd hy]
end
section
variable {P Q : List Nat}
end
end Go.Proofs.YtoaggmegmgdgbaaGreat
