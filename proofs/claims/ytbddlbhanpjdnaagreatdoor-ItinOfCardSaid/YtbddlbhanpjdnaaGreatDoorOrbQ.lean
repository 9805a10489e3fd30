/- The row of an orbit: its symbols, one after another; where a Star stands; the address of a kneading row. No program in sight. -/
import Derived.Test.YtbddlbhanpjdnaaGreatDoorRowQ
namespace Go.Proofs.YtbddlbhanpjdnaaGreatDoor

/-- The symbol of the n-th member. -/
def symF (s t x y d n : Nat) : Nat := symV s t (orbM x y d n).1 (orbM x y d n).2 d
section
variable {s t x y d n : Nat}
theorem symL_get {i : Nat} (h : i < n) : (symL s t x y d n)[i]? = some (symF s t x y d i) := by simp [symL, symF, orbL_get h]
theorem orbM_round {p k r : Nat} (hd : 1 ≤ d) (hy : 0 < y) (hp : p = (kindN y d).1) (hk : k = (kindN y d).2) (u : Nat) : orbM x y d (p + r + k * u) = orbM x y d (p + r) := by
  unfold orbM
  rw [orb_round hd hy hp hk u]
theorem raw_at (hd : 1 ≤ d) (hy : 0 < y) : rowAt ((symL s t x y d (orbN y d)).take (kindN y d).1) ((symL s t x y d (orbN y d)).drop (kindN y d).1) n = symF s t x y d n := by
  obtain ⟨p, hp⟩ : ∃ p, p = (kindN y d).1 := ⟨_, rfl⟩
  obtain ⟨k, hk⟩ : ∃ k, k = (kindN y d).2 := ⟨_, rfl⟩
  have hk1 : 1 ≤ k := by rw [hk]; exact kindN_pos hy
  have hN : orbN y d = p + k := by rw [hp, hk]; rfl
  rw [← hp, hN]
  have l1 : ((symL s t x y d (p + k)).take p).length = p := by rw [List.length_take, symL_len]; omega
  have l2 : ((symL s t x y d (p + k)).drop p).length = k := by rw [List.length_drop, symL_len]; omega
  rcases Nat.lt_or_ge n p with h | h
  · have e := rowAt_pre (p := (symL s t x y d (p + k)).take p) (q := (symL s t x y d (p + k)).drop p) (n := n) (by rw [l1]; exact h)
    rw [List.getElem?_take_of_lt h, symL_get (by omega)] at e
    exact (Option.some.inj e).symm
  · have e := rowAt_per (p := (symL s t x y d (p + k)).take p) (q := (symL s t x y d (p + k)).drop p) (n := n) (by rw [l1]; exact h) (by rw [l2]; exact hk1)
    have hr := Nat.mod_lt (n - p) hk1
    rw [l1, l2, List.getElem?_drop, symL_get (by omega)] at e
    rw [← Option.some.inj e]
    unfold symF
    have h1 := orbM_round (x := x) (r := (n - p) % k) hd hy hp hk ((n - p) / k)
    have h2 := Nat.div_add_mod (n - p) k
    rw [show p + (n - p) % k + k * ((n - p) / k) = n by omega] at h1
    rw [h1]
theorem raw_len (hy : 0 < y) : ((symL s t x y d (orbN y d)).take (kindN y d).1).length + ((symL s t x y d (orbN y d)).drop (kindN y d).1).length = orbN y d ∧ 0 < ((symL s t x y d (orbN y d)).drop (kindN y d).1).length := by
  have hk1 := kindN_pos (d := d) hy
  rw [List.length_take, List.length_drop, symL_len]
  unfold orbN
  omega
theorem symB_of {v d : Nat} (hd : d ≤ 64) (h : v = 255 ∨ v < d) : symB v = true := by
  unfold symB
  rcases h with rfl | h
  · rfl
  · rw [decide_eq_true (by omega : v < 64)]; rfl
theorem symV_or {s t p q d : Nat} (hd : 0 < d) : symV s t p q d = 255 ∨ symV s t p q d < d := by
  by_cases h : symV s t p q d = 255
  · exact .inl h
  · exact .inr (symV_lt hd h)
theorem raw_may (hd : 1 ≤ d) (hd2 : d ≤ 64) (hy : 0 < y) (hn : orbN y d ≤ 4096) : mayI ((symL s t x y d (orbN y d)).take (kindN y d).1) ((symL s t x y d (orbN y d)).drop (kindN y d).1) = true := by
  obtain ⟨h1, h2⟩ := raw_len (s := s) (t := t) (x := x) (d := d) hy
  have hall : ∀ v, v ∈ symL s t x y d (orbN y d) → symB v = true := fun v hv => by
    unfold symL at hv
    obtain ⟨m, -, rfl⟩ := List.mem_map.1 hv
    exact symB_of hd2 (symV_or hd)
  have hne : (symL s t x y d (orbN y d)).drop (kindN y d).1 ≠ [] := fun e => by rw [e] at h2; simp at h2
  simp only [mayI, Bool.and_eq_true, List.all_eq_true, decide_eq_true_eq]
  exact ⟨⟨⟨hne, by omega⟩, fun v hv => hall v (List.mem_of_mem_take hv)⟩, fun v hv => hall v (List.mem_of_mem_drop hv)⟩
theorem of_at (hd : 1 ≤ d) (hy : 0 < y) (n : Nat) : rowAt (ofP s t x y d) (ofQ s t x y d) n = symF s t x y d n := by
  unfold ofP ofQ
  rw [low_at (raw_len hy).2, raw_at hd hy]
theorem of_may (hd : 1 ≤ d) (hd2 : d ≤ 64) (hy : 0 < y) (hn : orbN y d ≤ 4096) : mayI (ofP s t x y d) (ofQ s t x y d) = true := low_may (raw_may hd hd2 hy hn)
theorem of_low (hy : 0 < y) {p q : List Nat} (hd : 1 ≤ d) (hq : 0 < q.length) (h : ∀ n, rowAt p q n = symF s t x y d n) : lowP p q = ofP s t x y d ∧ lowQ p q = ofQ s t x y d :=
  low_alike hq (raw_len hy).2 fun n => by rw [h, raw_at hd hy]

/-- Star just where the member is turned into the parting angle. -/
theorem star_iff (hd : 1 ≤ d) (hd2 : d ≤ 64) (hy : 0 < y) (hst : Nat.gcd s t = 1) (ht : s < t) : symF s t x y d n = 255 ↔ orbM x y d (n + 1) = (s, t) := by
  obtain ⟨⟨p, q⟩, hpq⟩ : ∃ m, m = orbM x y d n := ⟨_, rfl⟩
  have hf := orbM_facts (x := x) (d := d) (n := n) hy
  have hnx := orbM_next hy hpq
  rw [← hpq] at hf
  rw [← hnx]
  unfold symF
  rw [← hpq]
  simp only
  simp only at hf
  have hq : 0 < q := by omega
  have e1 : turnX p q d 1 = d * p % q := by rw [turnX_eq, Nat.pow_one, Nat.mul_comm]
  have h1 : symV s t p q d = 255 ↔ s * q = (d * p % q) * t := by
    unfold symV
    split
    · rename_i h; simp [h]
    · rename_i h
      have := Nat.mod_lt (d * p / q + if s * q < (d * p % q) * t then 1 else 0) hd
      constructor
      · intro e; omega
      · intro e; exact absurd e h
  rw [h1]
  unfold orbM
  rw [e1]
  have hr := rd_facts hq (Nat.mod_lt (d * p) hq)
  obtain ⟨R, hR⟩ : ∃ R, R = d * p % q := ⟨_, rfl⟩
  rw [← hR] at hr ⊢
  constructor
  · intro e
    have h2 : rd (t * R) (t * q) = rd (q * s) (q * t) := by
      rw [show t * R = q * s by rw [Nat.mul_comm t R, ← e, Nat.mul_comm], Nat.mul_comm t q]
    rw [rd_scale (by omega), rd_scale hq, rd_self hst] at h2
    exact h2
  · intro e
    have h2 : R = s * Nat.gcd R q := by
      have := congrArg Prod.fst e
      simp only [rd] at this
      rw [← this, Nat.div_mul_cancel (Nat.gcd_dvd_left _ _)]
    have h3 : q = t * Nat.gcd R q := by
      have := congrArg Prod.snd e
      simp only [rd] at this
      rw [← this, Nat.div_mul_cancel (Nat.gcd_dvd_right _ _)]
    obtain ⟨g, hg⟩ : ∃ g, g = Nat.gcd R q := ⟨_, rfl⟩
    rw [← hg] at h2 h3
    rw [h2, h3]
    ac_rfl

/-- Turned once: shifted by one. -/
theorem symF_turn {N D : Nat} (hy : 0 < y) (h : (N, D) = orbM x y d 1) : symF s t N D d n = symF s t x y d (n + 1) := by
  have : orbM N D d n = orbM x y d (1 + n) := turn_turn hy h
  unfold symF
  rw [this, Nat.add_comm]
theorem orbN_turn {N D : Nat} (hy : 0 < y) (hc : Nat.gcd x y = 1) (h : (N, D) = orbM x y d 1) : orbN D d ≤ orbN y d := by
  have e : D = y / Nat.gcd y d := by
    have h1 := congrArg Prod.snd h
    simp only [orbM, rd, turnX_eq, Nat.pow_one] at h1
    rw [h1]
    congr 1
    rw [← Nat.gcd_rec y (x * d)] 
    rw [Nat.mul_comm]
    exact Nat.Coprime.gcd_mul_right_cancel_right d (show Nat.Coprime x y from hc)
  rw [e]
  unfold orbN
  rw [kindN_turn hy]
  simp only
  omega

/-- The kneading row: Star just where the angle comes back. -/
theorem knead_star {i : Nat} (hd : 1 ≤ d) (hd2 : d ≤ 64) (hy : 0 < y) (hc : Nat.gcd x y = 1) (hxy : x < y) : symF x y x y d i = 255 ↔ (kindN y d).1 = 0 ∧ (i + 1) % (kindN y d).2 = 0 := by
  rw [star_iff hd hd2 hy hc hxy, ← orbM_zero (d := d) hc hxy]
  obtain ⟨p, hp⟩ : ∃ p, p = (kindN y d).1 := ⟨_, rfl⟩
  obtain ⟨k, hk⟩ : ∃ k, k = (kindN y d).2 := ⟨_, rfl⟩
  have hk1 : 1 ≤ k := by rw [hk]; exact kindN_pos hy
  have hN : orbN y d = p + k := by rw [hp, hk]; rfl
  rw [← hp, ← hk]
  have hnew : ∀ j, 0 < j → j < p + k → orbM x y d j ≠ orbM x y d 0 := fun j h1 h2 e => orbM_new hd hy hc h1 (by rw [hN]; exact h2) e.symm
  rcases Nat.lt_or_ge (i + 1) p with h | h
  · constructor
    · intro e; exact absurd e (hnew _ (by omega) (by omega))
    · intro e; omega
  · have h1 := orbM_round (x := x) (r := (i + 1 - p) % k) hd hy hp hk ((i + 1 - p) / k)
    have h2 := Nat.div_add_mod (i + 1 - p) k
    have hr := Nat.mod_lt (i + 1 - p) hk1
    rw [show p + (i + 1 - p) % k + k * ((i + 1 - p) / k) = i + 1 by omega] at h1
    rw [h1]
    constructor
    · intro e
      rcases Nat.eq_zero_or_pos (p + (i + 1 - p) % k) with h0 | h0
      · have hp0 : p = 0 := by omega
        rw [hp0, Nat.sub_zero, Nat.zero_add] at h0
        exact ⟨hp0, h0⟩
      · exact absurd e (hnew _ h0 (by omega))
    · rintro ⟨e1, e2⟩
      rw [e1, Nat.sub_zero, Nat.zero_add, e2]
end

section
variable {P Q : List Nat}
theorem rhoN_gt (hq : 0 < Q.length) (n : Nat) (h : rhoN P Q n ≠ 0) : n < rhoN P Q n := by
  rcases rhoN_spec (p := P) hq n with ⟨h1, -⟩ | ⟨j, h1, -⟩
  · exact absurd h1 h
  · omega
/-- The address rises. -/
theorem adrF_rise (hq : 0 < Q.length) (m : Nat) : ∀ f n acc, acc.Pairwise (· < ·) → (n ≠ 0 → ∀ x, x ∈ acc → x < n) → (adrF P Q m f n acc).1.Pairwise (· < ·)
  | 0, _, acc, h, _ => h
  | f + 1, n, acc, h, hn => by
    unfold adrF
    split
    · exact h
    · rename_i h0
      split
      · exact h
      · refine adrF_rise hq m f _ _ ?_ ?_
        · rw [List.pairwise_append]
          exact ⟨h, List.pairwise_singleton _ _, fun a ha b hb => by rw [List.mem_singleton.1 hb]; exact hn h0 a ha⟩
        · intro h1 x hx
          have h2 := rhoN_gt hq n h1
          rcases List.mem_append.1 hx with h3 | h3
          · have := hn h0 x h3; omega
          · rw [List.mem_singleton.1 h3]; exact h2
theorem adr_rise (hq : 0 < Q.length) (m : Nat) : (adr P Q m).1.Pairwise (· < ·) := adrF_rise hq m _ _ _ List.Pairwise.nil (fun _ x hx => by cases hx)
/-- It ends where rho ends. -/
theorem adrF_ends (hq : 0 < Q.length) {N : Nat} (hN : N ≤ 4096) (h0 : rhoN P Q N = 0) (h1 : ∀ k, 1 ≤ k → k < N → rhoN P Q k ≠ 0 ∧ rhoN P Q k ≤ N) :
    ∀ f n acc, 1 ≤ n → n ≤ N → 4098 ≤ f + n → acc.length < n → ∃ pre, adrF P Q 4096 f n acc = (pre ++ [N], true)
  | 0, n, acc, a1, a2, a3, a4 => by omega
  | f + 1, n, acc, a1, a2, a3, a4 => by
    rw [adrF_step (by omega) (by omega)]
    by_cases e : n = N
    · rw [e, h0, adrF_end (by omega)]
      exact ⟨acc, rfl⟩
    · obtain ⟨k1, k2⟩ := h1 n a1 (by omega)
      have k3 := rhoN_gt hq n k1
      exact adrF_ends hq hN h0 h1 f _ _ (by omega) k2 (by omega) (by rw [List.length_append]; simp only [List.length_cons, List.length_nil]; omega)
theorem adr_ends (hq : 0 < Q.length) {N : Nat} (h1N : 1 ≤ N) (hN : N ≤ 4096) (h0 : rhoN P Q N = 0) (h1 : ∀ k, 1 ≤ k → k < N → rhoN P Q k ≠ 0 ∧ rhoN P Q k ≤ N) : ∃ pre, adr P Q 4096 = (pre ++ [N], true) :=
  adrF_ends hq hN h0 h1 _ _ _ (Nat.le_refl _) h1N (by omega) (by simp)
/-- A row with a Star at n - 1, and every n places on, and nowhere else, that goes on over n: its address ends with n. -/
theorem adr_star (hq : 0 < Q.length) {n : Nat} (h1 : 1 ≤ n) (hn : n ≤ 4096) (hs : ∀ i, rowAt P Q i = 255 ↔ (i + 1) % n = 0) (hp : ∀ i, rowAt P Q (i + n) = rowAt P Q i) : ∃ pre, adr P Q 4096 = (pre ++ [n], true) := by
  refine adr_ends hq h1 hn ?_ ?_
  · rcases rhoN_spec (p := P) hq n with ⟨h, -⟩ | ⟨j, -, h, -⟩
    · exact h
    · exact absurd (hp j) h
  · intro k k1 k2
    have hd : rowAt P Q (n - 1 - k + k) ≠ rowAt P Q (n - 1 - k) := by
      rw [show n - 1 - k + k = n - 1 by omega, (hs (n - 1)).2 (by rw [show n - 1 + 1 = n by omega, Nat.mod_self])]
      intro e
      have := (hs (n - 1 - k)).1 e.symm
      rw [show n - 1 - k + 1 = n - k by omega, Nat.mod_eq_of_lt (by omega)] at this
      omega
    rcases rhoN_spec (p := P) hq k with ⟨-, h⟩ | ⟨j, h2, -, h3⟩
    · exact absurd (h _) hd
    · refine ⟨by omega, ?_⟩
      rcases Nat.lt_or_ge (n - 1 - k) j with h4 | h4
      · exact absurd (h3 _ h4) hd
      · omega
end
end Go.Proofs.YtbddlbhanpjdnaaGreatDoor
