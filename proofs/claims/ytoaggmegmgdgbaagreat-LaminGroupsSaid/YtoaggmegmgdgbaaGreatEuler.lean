import Derived.Test.YtoaggmegmgdgbaaGreatAngH
namespace Go.Proofs.YtoaggmegmgdgbaaGreat
def Pr (p : Nat) : Prop := 2 ≤ p ∧ ∀ m, m ∣ p → m = 1 ∨ m = p
theorem Pr.coprime {p a : Nat} (hp : Pr p) (h : ¬ p ∣ a) : Nat.Coprime a p := by
  rcases hp.2 (Nat.gcd a p) (Nat.gcd_dvd_right _ _) with h1 | h1
  · exact h1
  · exfalso
    apply h
    have := Nat.gcd_dvd_left a p
    rwa [h1] at this
theorem Pr.apart {p q : Nat} (hp : Pr p) (hq : Pr q) (h : p ≠ q) : Nat.Coprime p q := by
  refine hq.coprime fun hd => ?_
  rcases hp.2 q hd with h1 | h1
  · have := hq.1; omega
  · exact h h1.symm
theorem Pr.dvd_mul {p a b : Nat} (hp : Pr p) (h : p ∣ a * b) : p ∣ a ∨ p ∣ b := by
  by_cases ha : p ∣ a
  · exact Or.inl ha
  · exact Or.inr (Nat.Coprime.dvd_of_dvd_mul_left (hp.coprime ha).symm h)
theorem Pr.dvd_pow {p a : Nat} (hp : Pr p) : ∀ {c : Nat}, p ∣ a ^ c → p ∣ a
  | 0, h => by
    have := Nat.le_of_dvd (by simp) h
    have h2 := hp.1
    simp at this
    omega
  | c + 1, h => by
    rw [Nat.pow_succ] at h
    rcases hp.dvd_mul h with h1 | h1
    · exact hp.dvd_pow h1
    · exact h1
theorem exists_prime : ∀ (n : Nat), 2 ≤ n → ∃ q, Pr q ∧ q ∣ n := by
  intro n
  induction n using Nat.strongRecOn with
  | _ n ih =>
    intro h
    by_cases hp : ∀ m, m ∣ n → m = 1 ∨ m = n
    · exact ⟨n, ⟨h, hp⟩, Nat.dvd_refl _⟩
    · obtain ⟨m, hm⟩ : ∃ m, ¬ (m ∣ n → m = 1 ∨ m = n) := Classical.not_forall.1 hp
      have h1 : m ∣ n := Classical.byContradiction fun h => hm fun h' => absurd h' h
      have h2 : ¬ (m = 1 ∨ m = n) := fun h => hm fun _ => h
      have h3 : m ≤ n := Nat.le_of_dvd (by omega) h1
      have h4 : m ≠ 0 := fun e => by
        rw [e] at h1
        have := Nat.eq_zero_of_zero_dvd h1
        omega
      obtain ⟨q, hq, hd⟩ := ih m (by omega) (by omega)
      exact ⟨q, hq, Nat.dvd_trans hd h1⟩
def One (n d k : Nat) : Prop := n ∣ d ^ k - 1
theorem One.zero (n d : Nat) : One n d 0 := by simp [One]
theorem sub_mul_one (a b : Nat) (ha : 1 ≤ a) (hb : 1 ≤ b) : a * b - 1 = (a - 1) * b + (b - 1) := by
  have h : (a - 1) * b = a * b - b := by rw [Nat.sub_mul, Nat.one_mul]
  have h2 : b ≤ a * b := Nat.le_mul_of_pos_left b ha
  omega
theorem one_pow {d k : Nat} (hd : 1 ≤ d) : 1 ≤ d ^ k := Nat.one_le_iff_ne_zero.2 (Nat.ne_of_gt (Nat.pow_pos hd))
theorem One.add {n d j k : Nat} (hd : 1 ≤ d) (hj : One n d j) (hk : One n d k) : One n d (j + k) := by
  unfold One at *
  rw [Nat.pow_add, sub_mul_one _ _ (one_pow hd) (one_pow hd)]
  exact Nat.dvd_add (Nat.dvd_trans hj (Nat.dvd_mul_right _ _)) hk
theorem One.mul {n d j : Nat} (hd : 1 ≤ d) (hj : One n d j) : ∀ k, One n d (j * k)
  | 0 => One.zero _ _
  | k + 1 => by rw [Nat.mul_succ]; exact (One.mul hd hj k).add hd hj
theorem One.dvd {n d j k : Nat} (hd : 1 ≤ d) (hj : One n d j) (h : j ∣ k) : One n d k := by
  obtain ⟨q, rfl⟩ := h
  exact hj.mul hd q
theorem One.rest {n d j k : Nat} (hd : 1 ≤ d) (h : One n d (j + k)) (hj : One n d j) : One n d k := by
  unfold One at *
  rw [Nat.pow_add, sub_mul_one _ _ (one_pow hd) (one_pow hd)] at h
  exact (Nat.dvd_add_right (Nat.dvd_trans hj (Nat.dvd_mul_right _ _))).1 h
theorem One.gcd {n d : Nat} (hd : 1 ≤ d) : ∀ (j k : Nat), One n d j → One n d k → One n d (Nat.gcd j k) := by
  intro j k
  induction j, k using Nat.gcd.induction with
  | H0 k => intro _ h; rwa [Nat.gcd_zero_left]
  | H1 j k hj ih =>
    intro h1 h2
    rw [Nat.gcd_rec]
    refine ih ?_ h1
    rw [← Nat.div_add_mod k j] at h2
    exact h2.rest hd (h1.mul hd _)
theorem one_iff {n d k : Nat} (hn : 1 < n) (hd : 1 ≤ d) : d ^ k % n = 1 ↔ One n d k := by
  unfold One
  have h1 := one_pow (k := k) hd
  constructor
  · intro h
    exact Nat.dvd_of_mod_eq_zero (Nat.sub_mod_eq_zero_of_mod_eq (by rw [h, Nat.mod_eq_of_lt hn]))
  · rintro ⟨q, hq⟩
    rw [show d ^ k = n * q + 1 by omega, Nat.mul_add_mod, Nat.mod_eq_of_lt hn]
def prodU : List Nat → Nat
  | [] => 1
  | x :: l => x * prodU l
theorem prodU_perm {l m : List Nat} (h : l.Perm m) : prodU l = prodU m := by
  induction h with
  | nil => rfl
  | cons x _ ih => simp [prodU, ih]
  | swap x y l => simp only [prodU]; exact Nat.mul_left_comm _ _ _
  | trans _ _ h1 h2 => exact h1.trans h2
theorem prodU_map (a p : Nat) : ∀ l : List Nat, prodU (l.map fun x => a * x % p) % p = a ^ l.length * prodU l % p
  | [] => by simp [prodU]
  | x :: l => by
    simp only [List.map_cons, prodU, List.length_cons]
    rw [Nat.mul_mod, Nat.mod_mod, prodU_map a p l, ← Nat.mul_mod]
    congr 1
    rw [Nat.pow_succ]
    ac_rfl
theorem prodU_coprime {p : Nat} : ∀ {l : List Nat}, (∀ x, x ∈ l → Nat.Coprime x p) → Nat.Coprime (prodU l) p
  | [], _ => Nat.coprime_one_left p
  | x :: l, h => Nat.Coprime.mul_left (h x (by simp)) (prodU_coprime fun y hy => h y (by simp [hy]))
theorem perm_of : ∀ (l m : List Nat), l.Nodup → (∀ x, x ∈ l → x ∈ m) → m.length ≤ l.length → l.Perm m
  | [], m, _, _, h => by
    have : m = [] := List.eq_nil_of_length_eq_zero (by simpa using h)
    rw [this]
  | x :: l, m, hn, hs, hl => by
    have hx : x ∈ m := hs x (by simp)
    have h1 := List.perm_cons_erase hx
    have h2 : l.Perm (m.erase x) := perm_of l _ (List.nodup_cons.1 hn).2 (fun y hy => by
      refine (List.mem_erase_of_ne ?_).2 (hs y (by simp [hy]))
      rintro rfl
      exact (List.nodup_cons.1 hn).1 hy) (by rw [List.length_erase_of_mem hx]; simp at hl; omega)
    exact (h2.cons x).trans h1.symm
theorem fermat {p a : Nat} (hp : Pr p) (ha : ¬ p ∣ a) : One p a (p - 1) := by
  have hp2 := hp.1
  have hac : Nat.Coprime a p := hp.coprime ha
  obtain ⟨L, hL⟩ : ∃ L, L = (List.range (p - 1)).map (· + 1) := ⟨_, rfl⟩
  have hmem : ∀ x, x ∈ L ↔ 0 < x ∧ x < p := fun x => by
    rw [hL, List.mem_map]
    constructor
    · rintro ⟨k, hk, rfl⟩
      have := List.mem_range.1 hk
      omega
    · intro h
      exact ⟨x - 1, List.mem_range.2 (by omega), by omega⟩
  have hlen : L.length = p - 1 := by rw [hL]; simp
  have hnd : L.Nodup := by
    rw [hL]
    exact List.Pairwise.map _ (fun a b (h : a ≠ b) => by omega) List.nodup_range
  have hdv : ∀ x, 0 < x → x < p → ¬ p ∣ x := fun x h0 h1 h => by
    have := Nat.le_of_dvd h0 h; omega
  have hinj : ∀ x y, x < y → y < p → a * x % p ≠ a * y % p := fun x y h1 h2 e => by
    have h3 : p ∣ a * y - a * x := Nat.dvd_of_mod_eq_zero (Nat.sub_mod_eq_zero_of_mod_eq e.symm)
    rw [← Nat.mul_sub] at h3
    exact hdv (y - x) (by omega) (by omega) (Nat.Coprime.dvd_of_dvd_mul_left hac.symm h3)
  have hM : (L.map fun x => a * x % p).Perm L := by
    refine perm_of _ _ ?_ ?_ (by simp)
    · refine List.Pairwise.map _ (R := fun x y => x ≠ y ∧ x < p ∧ y < p) (fun x y h e => ?_) ?_
      · rcases Nat.lt_or_gt_of_ne h.1 with h1 | h1
        · exact hinj x y h1 h.2.2 e
        · exact hinj y x h1 h.2.1 e.symm
      · refine List.Pairwise.imp_of_mem ?_ hnd
        intro x y hx hy h
        exact ⟨h, ((hmem x).1 hx).2, ((hmem y).1 hy).2⟩
    · intro y hy
      obtain ⟨x, hx, rfl⟩ := List.mem_map.1 hy
      obtain ⟨h0, h1⟩ := (hmem x).1 hx
      refine (hmem _).2 ⟨?_, Nat.mod_lt _ (by omega)⟩
      rcases Nat.eq_zero_or_pos (a * x % p) with h | h
      · exfalso
        exact hdv x h0 h1 (Nat.Coprime.dvd_of_dvd_mul_left hac.symm (Nat.dvd_of_mod_eq_zero h))
      · exact h
  have h1 := prodU_map a p L
  rw [prodU_perm hM, hlen] at h1
  have hP : Nat.Coprime (prodU L) p := prodU_coprime fun x hx => by
    obtain ⟨h0, h1⟩ := (hmem x).1 hx
    exact hp.coprime (hdv x h0 h1)
  have h2 : p ∣ a ^ (p - 1) * prodU L - prodU L := Nat.dvd_of_mod_eq_zero (Nat.sub_mod_eq_zero_of_mod_eq h1.symm)
  rw [show a ^ (p - 1) * prodU L - prodU L = prodU L * (a ^ (p - 1) - 1) by rw [Nat.mul_sub, Nat.mul_one, Nat.mul_comm]] at h2
  exact Nat.Coprime.dvd_of_dvd_mul_left hP.symm h2
def geo (b : Nat) : Nat → Nat
  | 0 => 0
  | k + 1 => geo b k * b + 1
theorem geo_eq {b : Nat} (hb : 1 ≤ b) : ∀ k, (b - 1) * geo b k + 1 = b ^ k
  | 0 => by simp [geo]
  | k + 1 => by
    have ih := geo_eq hb k
    rw [geo, Nat.pow_succ, ← ih, Nat.mul_add, Nat.add_mul, Nat.mul_one, Nat.one_mul, Nat.mul_assoc]
    omega
theorem geo_mod {b p : Nat} (h : b % p = 1 % p) : ∀ k, geo b k % p = k % p
  | 0 => rfl
  | k + 1 => by
    rw [geo, Nat.add_mod, Nat.mul_mod, geo_mod h k, h, ← Nat.mul_mod, Nat.mul_one, ← Nat.add_mod]
theorem lift_one {b m p : Nat} (hb : 1 ≤ b) (hm : m ∣ b - 1) (hp : p ∣ m) : m * p ∣ b ^ p - 1 := by
  have e := geo_eq hb p
  have h1 : b % p = 1 % p := by
    obtain ⟨q, hq⟩ := Nat.dvd_trans hp hm
    rw [show b = p * q + 1 by omega, Nat.mul_add_mod]
  have h2 : p ∣ geo b p := Nat.dvd_of_mod_eq_zero (by rw [geo_mod h1]; exact Nat.mod_self p)
  rw [show b ^ p - 1 = (b - 1) * geo b p by omega]
  exact Nat.mul_dvd_mul hm h2
theorem fermat_pow {p a : Nat} (hp : Pr p) (ha : ¬ p ∣ a) (ha1 : 1 ≤ a) : ∀ c, One (p ^ (c + 1)) a (p ^ c * (p - 1))
  | 0 => by simpa using fermat hp ha
  | c + 1 => by
    have ih := fermat_pow hp ha ha1 c
    unfold One at *
    have h := lift_one (one_pow ha1) ih (Nat.dvd_mul_left p (p ^ c) |> fun h => by rw [Nat.pow_succ]; exact h)
    rw [← Nat.pow_mul] at h
    rw [Nat.pow_succ p (c + 1), Nat.pow_succ p c, show p ^ c * p * (p - 1) = p ^ c * (p - 1) * p by ac_rfl, ← Nat.pow_succ p c]
    exact h
def Ris : Nat → List (Nat × Nat) → Prop
  | _, [] => True
  | b, x :: M => b ≤ x.1 ∧ Pr x.1 ∧ 1 ≤ x.2 ∧ Ris (x.1 + 1) M
theorem Ris.mono {b b' : Nat} (h : b' ≤ b) : ∀ {M : List (Nat × Nat)}, Ris b M → Ris b' M
  | [], _ => trivial
  | _ :: _, k => ⟨Nat.le_trans h k.1, k.2⟩
theorem Ris.coprime {p : Nat} (hp : Pr p) : ∀ {M : List (Nat × Nat)}, Ris (p + 1) M → Nat.Coprime p (prodL M)
  | [], _ => Nat.coprime_one_right p
  | x :: M, h => by
    have h1 : Nat.Coprime p x.1 := hp.apart h.2.1 (by have := h.1; omega)
    exact Nat.Coprime.mul_right (Nat.Coprime.pow_right _ h1) (Ris.coprime hp (h.2.2.2.mono (by have := h.1; omega)))
theorem Ris.mem : ∀ {M : List (Nat × Nat)} {b : Nat}, Ris b M → ∀ x, x ∈ M → Pr x.1 ∧ 1 ≤ x.2
  | [], _, _, x, h => by simp at h
  | y :: M, _, h, x, hx => by
    rcases List.mem_cons.1 hx with rfl | hx
    · exact ⟨h.2.1, h.2.2.1⟩
    · exact Ris.mem h.2.2.2 x hx
theorem Ris.above : ∀ {M : List (Nat × Nat)} {b : Nat}, Ris b M → ∀ x, x ∈ M → b ≤ x.1
  | [], _, _, x, h => by simp at h
  | y :: M, _, h, x, hx => by
    rcases List.mem_cons.1 hx with rfl | hx
    · exact h.1
    · have := Ris.above h.2.2.2 x hx; have := h.1; omega
theorem Ris.just : ∀ {M : List (Nat × Nat)} {b : Nat}, Ris b M → ∀ x, x ∈ M → ¬ x.1 ^ (x.2 + 1) ∣ prodL M
  | [], _, _, x, h => by simp at h
  | y :: M, b, h, x, hx => by
    rcases List.mem_cons.1 hx with rfl | hx
    · intro hd
      simp only [prodL] at hd
      rw [Nat.pow_succ] at hd
      have h1 := Nat.dvd_of_mul_dvd_mul_left (Nat.pow_pos (by have := h.2.1.1; omega)) hd
      have h2 := Ris.coprime h.2.1 h.2.2.2
      have h3 := Nat.Coprime.eq_one_of_dvd h2 h1
      have := h.2.1.1
      omega
    · intro hd
      obtain ⟨p1, p2⟩ := Ris.mem h.2.2.2 x hx
      simp only [prodL] at hd
      refine Ris.just h.2.2.2 x hx ?_
      refine Nat.Coprime.dvd_of_dvd_mul_left ?_ hd
      refine Nat.Coprime.pow _ _ (p1.apart h.2.1 ?_)
      intro e
      have := Ris.above h.2.2.2 x hx
      omega
theorem prime_mem {q : Nat} (hq : Pr q) : ∀ {M : List (Nat × Nat)} {b : Nat}, Ris b M → q ∣ prodL M → ∃ x, x ∈ M ∧ x.1 = q
  | [], _, _, h => by
    have := Nat.le_of_dvd (by simp [prodL]) h
    have := hq.1
    simp [prodL] at *
    omega
  | y :: M, _, h, hd => by
    simp only [prodL] at hd
    rcases hq.dvd_mul hd with h1 | h1
    · refine ⟨y, by simp, ?_⟩
      rcases h.2.1.2 q (hq.dvd_pow h1) with h2 | h2
      · have := hq.1; omega
      · exact h2.symm
    · obtain ⟨x, hx, e⟩ := prime_mem hq h.2.2.2 h1
      exact ⟨x, by simp [hx], e⟩
theorem prod_dvd {N : Nat} : ∀ {M : List (Nat × Nat)} {b : Nat}, Ris b M → (∀ x, x ∈ M → x.1 ^ x.2 ∣ N) → prodL M ∣ N
  | [], _, _, _ => Nat.one_dvd _
  | y :: M, _, h, hd => by
    simp only [prodL]
    exact Nat.Coprime.mul_dvd_of_dvd_of_dvd (Nat.Coprime.pow_left _ (Ris.coprime h.2.1 h.2.2.2)) (hd y (by simp)) (prod_dvd h.2.2.2 fun x hx => hd x (by simp [hx]))
def NoD (b n : Nat) : Prop := ∀ q, 2 ≤ q → q < b → ¬ q ∣ n
theorem NoD.prime {b n : Nat} (h : NoD b n) (h2 : 2 ≤ n) (hb : n < b * b) : Pr n := by
  refine ⟨h2, fun m hm => ?_⟩
  obtain ⟨r, hr⟩ := id hm
  by_cases m1 : m = 1
  · exact Or.inl m1
  by_cases r1 : r = 1
  · rw [r1, Nat.mul_one] at hr
    exact Or.inr hr.symm
  exfalso
  have m0 : m ≠ 0 := fun e => by rw [e, Nat.zero_mul] at hr; omega
  have r0 : r ≠ 0 := fun e => by rw [e, Nat.mul_zero] at hr; omega
  have hmb : b ≤ m := by
    rcases Nat.lt_or_ge m b with hl | hl
    · exact absurd hm (h m (by omega) hl)
    · exact hl
  have hrb : b ≤ r := by
    rcases Nat.lt_or_ge r b with hl | hl
    · exact absurd ⟨m, by rw [hr, Nat.mul_comm]⟩ (h r (by omega) hl)
    · exact hl
  have := Nat.mul_le_mul hmb hrb
  omega
theorem facF_ris : ∀ (f n p : Nat), 2 ≤ p → 0 < n → n + 2 ≤ f + p → NoD p n → Ris p (facF f n p) := by
  have hend : ∀ n p : Nat, 2 ≤ p → 0 < n → NoD p n → n < p * p → Ris p (if 1 < n then [(n, 1)] else []) := by
    intro n p hp h0 hno hpp
    split
    · refine ⟨?_, hno.prime (by omega) hpp, Nat.le_refl _, trivial⟩
      rcases Nat.lt_or_ge n p with h | h
      · exact absurd (Nat.dvd_refl n) (hno n (by omega) h)
      · exact h
    · trivial
  intro f
  induction f with
  | zero =>
    intro n p hp h0 hf hno
    simp only [facF]
    refine hend n p hp h0 hno ?_
    have : p * 1 ≤ p * p := Nat.mul_le_mul_left p (by omega)
    omega
  | succ f ih =>
    intro n p hp h0 hf hno
    simp only [facF]
    split
    · obtain ⟨h1, h2, h3⟩ := strip_spec hp h0
      obtain ⟨X, hX⟩ : ∃ X, X = (strip n p).1 := ⟨_, rfl⟩
      obtain ⟨C, hC⟩ : ∃ C, C = (strip n p).2 := ⟨_, rfl⟩
      rw [← hX, ← hC] at h1 ⊢
      rw [← hX] at h2 h3
      have hXn : X ∣ n := ⟨_, h1.symm⟩
      have hXle : X ≤ n := Nat.le_of_dvd h0 hXn
      have hno2 : NoD (p + 1) X := fun q hq hlt hd => by
        rcases Nat.lt_or_ge q p with h | h
        · exact hno q hq h (Nat.dvd_trans hd hXn)
        · rw [show q = p by omega] at hd
          exact h2 (Nat.mod_eq_zero_of_dvd hd)
      have hr := ih X (p + 1) (by omega) h3 (by omega) hno2
      split
      · rename_i hc
        rw [List.singleton_append]
        refine ⟨Nat.le_refl _, ⟨hp, fun m hm => ?_⟩, hc, hr⟩
        have hpn : p ∣ n := by
          rw [← h1]
          obtain ⟨k, rfl⟩ : ∃ k, C = k + 1 := ⟨C - 1, by omega⟩
          exact Nat.dvd_trans (Nat.dvd_mul_left p (p ^ k)) (by rw [← Nat.pow_succ]; exact Nat.dvd_mul_left _ _)
        have hmp := Nat.le_of_dvd (by omega) hm
        have hm0 : m ≠ 0 := fun e => by rw [e] at hm; have := Nat.eq_zero_of_zero_dvd hm; omega
        by_cases m1 : m = 1
        · exact Or.inl m1
        · by_cases m2 : m = p
          · exact Or.inr m2
          · exact absurd (Nat.dvd_trans hm hpn) (hno m (by omega) (by omega))
      · rw [List.nil_append]
        exact hr.mono (by omega)
    · exact hend n p hp h0 hno (by omega)
theorem factorsL_ris {n : Nat} (h0 : 0 < n) : Ris 2 (factorsL n) :=
  facF_ris n n 2 (Nat.le_refl _) h0 (by omega) (fun q h1 h2 => by omega)
theorem phiA_base : ∀ (M : List (Nat × Nat)) (f : Nat), f ∣ phiA f M
  | [], _ => Nat.dvd_refl _
  | _ :: M, _ => Nat.dvd_trans (Nat.dvd_mul_right _ _) (phiA_base M _)
theorem phiA_dvd : ∀ (M : List (Nat × Nat)) (f : Nat), ∀ x, x ∈ M → x.1 ^ (x.2 - 1) * (x.1 - 1) ∣ phiA f M
  | [], _, x, h => by simp at h
  | y :: M, f, x, hx => by
    rcases List.mem_cons.1 hx with rfl | hx
    · exact Nat.dvd_trans (Nat.dvd_mul_left _ _) (phiA_base M _)
    · exact phiA_dvd M _ x hx
theorem euler {n d : Nat} (h0 : 0 < n) (hd : 1 ≤ d) (hc : Nat.Coprime d n) : One n d (phiN n) := by
  have hr := factorsL_ris h0
  obtain ⟨-, hp⟩ := factorsL_good h0
  unfold One
  have key : prodL (factorsL n) ∣ d ^ phiN n - 1 := prod_dvd hr fun x hx => by
    obtain ⟨h1, h2⟩ := hr.mem x hx
    have hxn : x.1 ∣ n := by
      rw [← hp]
      clear hp hc h0
      have : ∀ (M : List (Nat × Nat)), x ∈ M → x.1 ∣ prodL M := by
        intro M
        induction M with
        | nil => intro h; simp at h
        | cons y M ih =>
          intro h
          simp only [prodL]
          rcases List.mem_cons.1 h with rfl | h
          · obtain ⟨k, hk⟩ : ∃ k, x.2 = k + 1 := ⟨x.2 - 1, by omega⟩
            rw [hk, Nat.pow_succ]
            exact Nat.dvd_trans (Nat.dvd_mul_left _ _) (Nat.dvd_mul_right _ _)
          · exact Nat.dvd_trans (ih h) (Nat.dvd_mul_left _ _)
      exact this _ hx
    have hnd : ¬ x.1 ∣ d := fun h => by
      have := Nat.dvd_gcd h hxn
      rw [hc] at this
      have := Nat.le_of_dvd (by omega) this
      have := h1.1
      omega
    have h3 := fermat_pow h1 hnd hd (x.2 - 1)
    rw [show x.2 - 1 + 1 = x.2 by omega] at h3
    exact h3.dvd hd (phiA_dvd _ 1 x hx)
  rwa [hp] at key
def Stop (n d p l : Nat) : Prop := ¬ (p ∣ l ∧ One n d (l / p))
theorem Stop.mono {n d p l l' : Nat} (hd : 1 ≤ d) (hp : 0 < p) (h : Stop n d p l) (hl : l' ∣ l) : Stop n d p l' := by
  rintro ⟨⟨s, rfl⟩, h2⟩
  obtain ⟨t, rfl⟩ := hl
  refine h ⟨⟨s * t, by rw [Nat.mul_assoc]⟩, ?_⟩
  rw [Nat.mul_div_cancel_left _ hp] at h2
  rw [Nat.mul_assoc, Nat.mul_div_cancel_left _ hp]
  exact h2.mul hd t
theorem ordP_one {n d p : Nat} (hn : 1 < n) (hd : 1 ≤ d) (hp : 2 ≤ p) : ∀ (k l : Nat), p ^ k ∣ l → One n d l →
    ordP d n p k l ∣ l ∧ One n d (ordP d n p k l) ∧ (l = ordP d n p k l * p ^ k ∨ ¬ One n d (ordP d n p k l / p))
  | 0, l, _, h => ⟨Nat.dvd_refl _, h, Or.inl (by simp [ordP])⟩
  | k + 1, l, hdv, h => by
    obtain ⟨q, hq⟩ := hdv
    have e : l = p * (p ^ k * q) := by rw [hq, Nat.pow_succ]; ac_rfl
    have e2 : l / p = p ^ k * q := by rw [e, Nat.mul_div_cancel_left _ (by omega)]
    by_cases h1 : d ^ (l / p) % n = 1
    · rw [ordP_go h1]
      rw [e2] at h1 ⊢
      obtain ⟨a, b, c⟩ := ordP_one hn hd hp k (p ^ k * q) (Nat.dvd_mul_right _ _) ((one_iff hn hd).1 h1)
      refine ⟨Nat.dvd_trans a (by rw [e]; exact Nat.dvd_mul_left _ _), b, ?_⟩
      rcases c with c | c
      · refine Or.inl ?_
        rw [Nat.pow_succ, ← Nat.mul_assoc, ← c, e, Nat.mul_comm]
      · exact Or.inr c
    · rw [ordP_end h1]
      exact ⟨Nat.dvd_refl _, h, Or.inr fun h2 => h1 ((one_iff hn hd).2 h2)⟩
theorem ordA_one {n d : Nat} (hn : 1 < n) (hd : 1 ≤ d) : ∀ (M : List (Nat × Nat)) (b l : Nat), Ris b M → (∀ x, x ∈ M → ¬ x.1 ^ (x.2 + 1) ∣ l) → prodL M ∣ l → 0 < l → One n d l →
    ordA d n l M ∣ l ∧ One n d (ordA d n l M) ∧ ∀ x, x ∈ M → Stop n d x.1 (ordA d n l M)
  | [], _, l, _, _, _, _, h => ⟨Nat.dvd_refl _, h, fun x hx => by simp at hx⟩
  | x :: M, b, l, hr, hj, hpd, h0, h => by
    have hp2 := hr.2.1.1
    simp only [prodL] at hpd
    obtain ⟨s1, s2, -⟩ := ordP_spec (d := d) (n := n) hp2 x.2 l (prodL M) h0 (by rw [Nat.mul_comm]; exact hpd)
    obtain ⟨a1, a2, a3⟩ := ordP_one hn hd hp2 x.2 l (Nat.dvd_trans (Nat.dvd_mul_right _ _) hpd) h
    have hst : Stop n d x.1 (ordP d n x.1 x.2 l) := by
      rintro ⟨h1, h2⟩
      rcases a3 with a3 | a3
      · refine hj x (by simp) ?_
        rw [Nat.pow_succ, a3, Nat.mul_comm (x.1 ^ x.2)]
        exact Nat.mul_dvd_mul h1 (Nat.dvd_refl _)
      · exact a3 h2
    obtain ⟨b1, b2, b3⟩ := ordA_one hn hd M (x.1 + 1) (ordP d n x.1 x.2 l) hr.2.2.2 (fun y hy hd' => hj y (by simp [hy]) (Nat.dvd_trans hd' a1)) s1 s2 a2
    refine ⟨Nat.dvd_trans b1 a1, b2, fun y hy => ?_⟩
    rcases List.mem_cons.1 hy with rfl | hy
    · exact hst.mono hd (by omega) b1
    · exact b3 y hy
theorem ordG_order {n d : Nat} (h0 : 0 < n) (hd : 1 ≤ d) (hc : Nat.Coprime d n) : One n d (ordG n d) ∧ ∀ k, One n d k → ordG n d ∣ k := by
  unfold ordG
  split
  · rename_i h1
    subst h1
    exact ⟨Nat.one_dvd _, fun k _ => Nat.one_dvd _⟩
  · have hn : 1 < n := by omega
    obtain ⟨f1, -⟩ := phiN_le h0
    have hr := factorsL_ris f1
    obtain ⟨-, hp⟩ := factorsL_good f1
    obtain ⟨a1, a2, a3⟩ := ordA_one hn hd (factorsL (phiN n)) 2 (phiN n) hr (fun x hx => by rw [← hp]; rw [hp]; have := hr.just x hx; rwa [hp] at this) (by rw [hp]; exact Nat.dvd_refl _) f1 (euler h0 hd hc)
    refine ⟨a2, fun k hk => ?_⟩
    obtain ⟨l, hl⟩ : ∃ l, l = ordA d n (phiN n) (factorsL (phiN n)) := ⟨_, rfl⟩
    rw [← hl] at a1 a2 a3 ⊢
    have hg := One.gcd hd k l hk a2
    have hl0 : 0 < l := Nat.pos_of_dvd_of_pos a1 f1
    obtain ⟨t, ht⟩ := Nat.gcd_dvd_right k l
    obtain ⟨g, hgg⟩ : ∃ g, g = Nat.gcd k l := ⟨_, rfl⟩
    rw [← hgg] at hg ht
    by_cases t1 : t = 1
    · rw [t1, Nat.mul_one] at ht
      rw [ht, hgg]
      exact Nat.gcd_dvd_left _ _
    · exfalso
      have t0 : t ≠ 0 := fun e => by rw [e, Nat.mul_zero] at ht; omega
      obtain ⟨q, hq, s, hs⟩ := exists_prime t (by omega)
      have hql : l = q * (g * s) := by rw [ht, hs]; ac_rfl
      have hqp : q ∣ prodL (factorsL (phiN n)) := by rw [hp]; exact Nat.dvd_trans ⟨_, hql⟩ a1
      obtain ⟨x, hx, rfl⟩ := prime_mem hq hr hqp
      refine a3 x hx ⟨⟨_, hql⟩, ?_⟩
      rw [hql, Nat.mul_div_cancel_left _ (by have := hq.1; omega)]
      exact hg.mul hd s
end Go.Proofs.YtoaggmegmgdgbaaGreat
