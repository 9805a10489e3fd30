import Derived.Test.YtoaggmegmgdgbaaGreatRowP
import Derived.Test.YtoaggmegmgdgbaaGreatItO
import Derived.Test.YtoaggmegmgdgbaaGreatLamP
namespace Go.Proofs.YtoaggmegmgdgbaaGreat
def Per (f : Nat → Nat) (N m : Nat) : Prop := ∀ n, N ≤ n → f (n + m) = f n
section
variable {f g : Nat → Nat} {N N' m k a b : Nat}
theorem Per.mul (h : Per f N m) : ∀ k, Per f N (k * m)
  | 0 => fun n _ => by rw [Nat.zero_mul, Nat.add_zero]
  | k + 1 => fun n hn => by
    rw [Nat.succ_mul, ← Nat.add_assoc, h _ (by omega), h.mul k n hn]
theorem Per.sub (h : Per f N a) (h2 : Per f N b) (hab : a ≤ b) : Per f N (b - a) := fun n hn => by
  rw [← h (n + (b - a)) (by omega), show n + (b - a) + a = n + b by omega, h2 n hn]
theorem Per.mod_ (h : Per f N a) (h2 : Per f N b) : Per f N (b % a) := by
  have e : b % a = b - b / a * a := by
    have h1 := Nat.div_add_mod b a
    have h2 := Nat.mul_comm a (b / a)
    omega
  rw [e]
  exact (h.mul (b / a)).sub h2 (Nat.div_mul_le_self b a)
theorem Per.gcd_ : ∀ a b, Per f N a → Per f N b → Per f N (Nat.gcd a b) := by
  intro a
  induction a using Nat.strongRecOn with
  | _ a ih =>
    intro b h h2
    rcases Nat.eq_zero_or_pos a with rfl | h0
    · rwa [Nat.gcd_zero_left]
    · rw [Nat.gcd_rec]
      exact ih (b % a) (Nat.mod_lt _ h0) a (h.mod_ h2) h
theorem Per.down (h : Per f N m) (hm : 1 ≤ m) (h2 : Per f N' k) : Per f N k := fun n hn => by
  have h3 := h.mul N'
  have h4 := Nat.le_mul_of_pos_right N' hm
  rw [← h3 (n + k) (by omega), show n + k + N' * m = n + N' * m + k by omega, h2 _ (by omega), h3 n hn]
theorem Per.rest (h : Per f N m) {n : Nat} (hn : N ≤ n) : f n = f (N + (n - N) % m) := by
  have h1 := h.mul ((n - N) / m) (N + (n - N) % m) (by omega)
  have h2 := Nat.div_add_mod (n - N) m
  have h3 := Nat.mul_comm m ((n - N) / m)
  rw [show N + (n - N) % m + (n - N) / m * m = n by omega] at h1
  exact h1
end
section
variable {p q p' q' : List Nat}
theorem per_row (_hq : 0 < q.length) : Per (rowAt p q) p.length q.length := fun _ hn => rowAt_next hn
theorem per_rootM (hq : 0 < q.length) : Per (rowAt p q) p.length (rootM q) := fun _ hn => rowAt_root hq hn
theorem getD_row {i : Nat} (hi : i < q.length) : q.getD i 0 = rowAt p q (p.length + i) := by
  have h1 : ¬ p.length + i < p.length := by omega
  rw [rowAt, if_neg h1, Nat.add_sub_cancel_left, Nat.mod_eq_of_lt hi]
theorem rootM_le {N k : Nat} (hq : 0 < q.length) (hk : 1 ≤ k) (h : Per (rowAt p q) N k) : rootM q ≤ k := by
  have h1 := (per_row (p := p) hq).down hq h
  have h2 := Per.gcd_ _ _ h1 (per_row (p := p) hq)
  obtain ⟨c, hc⟩ : ∃ c, c = Nat.gcd k q.length := ⟨_, rfl⟩
  have hc0 : 1 ≤ c := by rw [hc]; exact Nat.gcd_pos_of_pos_left _ hk
  have hck : c ≤ k := by rw [hc]; exact Nat.gcd_le_left _ hk
  have hcd : q.length % c = 0 := by rw [hc]; exact Nat.mod_eq_zero_of_dvd (Nat.gcd_dvd_right _ _)
  rw [← hc] at h2
  have hcq : c ≤ q.length := Nat.le_of_dvd hq (Nat.dvd_of_mod_eq_zero hcd)
  have hp : per q c = true := per_iff.2 ⟨hcd, fun i hi => by
    have hm := Nat.mod_lt i hc0
    rw [getD_row (p := p) hi, getD_row (p := p) (by omega : i % c < q.length)]
    have := h2.rest (n := p.length + i) (by omega)
    rw [Nat.add_sub_cancel_left] at this
    exact this⟩
  obtain ⟨-, -, -, r4⟩ := rootM_spec hq
  rcases Nat.lt_or_ge c (rootM q) with h3 | h3
  · have := r4 c hc0 h3; rw [hp] at this; cases this
  · omega
theorem lowN_per {m : Nat} : ∀ n, Per (rowAt p q) n m → Per (rowAt p q) (lowN p q m n) m
  | 0, h => h
  | n + 1, h => by
    unfold lowN
    split
    · rename_i e
      exact lowN_per n fun j hj => by
        rcases Nat.lt_or_ge n j with h1 | h1
        · exact h j h1
        · rw [show j = n by omega]; exact e.symm
    · exact h
theorem lowN_least {m N : Nat} (h : Per (rowAt p q) N m) : ∀ n, lowN p q m n ≤ N
  | 0 => Nat.zero_le _
  | n + 1 => by
    unfold lowN
    split
    · exact lowN_least h n
    · rename_i e
      rcases Nat.lt_or_ge n N with h1 | h1
      · exact h1
      · exact absurd (h n h1).symm e
theorem rowL_alike (h : ∀ n, rowAt p q n = rowAt p' q' n) (a k : Nat) : rowL p q a k = rowL p' q' a k := by simp only [rowL, h]
theorem per_alike {N m : Nat} (h : ∀ n, rowAt p q n = rowAt p' q' n) (k : Per (rowAt p q) N m) : Per (rowAt p' q') N m := fun n hn => by
  rw [← h, ← h]; exact k n hn
theorem low_alike (hq : 0 < q.length) (hq' : 0 < q'.length) (h : ∀ n, rowAt p q n = rowAt p' q' n) : lowP p q = lowP p' q' ∧ lowQ p q = lowQ p' q' := by
  have hs : ∀ n, rowAt p' q' n = rowAt p q n := fun n => (h n).symm
  have e1 : rootM q = rootM q' := Nat.le_antisymm (rootM_le (p := p) hq (rootM_spec hq').1 (per_alike hs (per_rootM (p := p') hq'))) (rootM_le (p := p') hq' (rootM_spec hq).1 (per_alike h (per_rootM (p := p) hq)))
  have a1 := lowN_per (q := q) p.length (per_rootM hq)
  have a2 := lowN_per (q := q') p'.length (per_rootM hq')
  have e2 : lowN p q (rootM q) p.length = lowN p' q' (rootM q') p'.length := Nat.le_antisymm (lowN_least (by rw [e1]; exact per_alike hs a2) _) (lowN_least (by rw [← e1]; exact per_alike h a1) _)
  unfold lowP lowQ
  rw [take_rowL (q := q) (lowN_le _ _ _ _), take_rowL (q := q') (lowN_le _ _ _ _), ← e2, ← e1]
  exact ⟨rowL_alike h _ _, rowL_alike h _ _⟩
theorem lowP_len : (lowP p q).length = lowN p q (rootM q) p.length := by
  unfold lowP
  rw [List.length_take]
  have := lowN_le p q (rootM q) p.length
  omega
theorem lowQ_len : (lowQ p q).length = rootM q := by unfold lowQ; rw [rowL_len]
theorem lowQ_pos (hq : 0 < q.length) : 0 < (lowQ p q).length := by rw [lowQ_len]; exact (rootM_spec hq).1
theorem low_at (hq : 0 < q.length) (n : Nat) : rowAt (lowP p q) (lowQ p q) n = rowAt p q n := by
  obtain ⟨N, hN⟩ : ∃ N, N = lowN p q (rootM q) p.length := ⟨_, rfl⟩
  have hNl : N ≤ p.length := by rw [hN]; exact lowN_le _ _ _ _
  have hP : lowP p q = rowL p q 0 N := by unfold lowP; rw [take_rowL (q := q) (lowN_le _ _ _ _), ← hN]
  have hQ : lowQ p q = rowL p q N (rootM q) := by unfold lowQ; rw [← hN]
  have hp := lowN_per (q := q) p.length (per_rootM hq)
  rw [← hN] at hp
  obtain ⟨r1, -⟩ := rootM_spec hq
  rw [hP, hQ]
  unfold rowAt
  rw [rowL_len, rowL_len]
  split
  · rename_i h
    rw [List.getD_eq_getElem?_getD, rowL_get h, Nat.zero_add]
    rfl
  · rename_i h
    rw [List.getD_eq_getElem?_getD, rowL_get (Nat.mod_lt _ r1)]
    exact (hp.rest (by omega)).symm
theorem low_may (h : mayI p q = true) : mayI (lowP p q) (lowQ p q) = true := by
  obtain ⟨m1, m2, m3, m4⟩ := mayI_spec h
  have h1 := lowQ_pos (p := p) m1
  have h2 : (lowP p q).length ≤ p.length := by rw [lowP_len]; exact lowN_le _ _ _ _
  have h3 : (lowQ p q).length ≤ q.length := by rw [lowQ_len]; exact (rootM_spec m1).2.1
  have hs : ∀ j, symB (rowAt p q j) = true := fun j => by
    rcases rowAt_mem (p := p) (q := q) (n := j) m1 with h | h
    · exact m3 _ h
    · exact m4 _ h
  have hn : lowQ p q ≠ [] := fun e => by rw [e] at h1; simp at h1
  simp only [mayI, Bool.and_eq_true, List.all_eq_true, decide_eq_true_eq]
  refine ⟨⟨⟨hn, by omega⟩, fun x hx => ?_⟩, fun x hx => ?_⟩
  · exact m3 _ (List.mem_of_mem_take hx)
  · unfold lowQ rowL at hx
    obtain ⟨j, -, rfl⟩ := List.mem_map.1 hx
    exact hs _
end
end Go.Proofs.YtoaggmegmgdgbaaGreat
namespace Go.Proofs.YtoaggmegmgdgbaaGreat
def symF (s t x y d n : Nat) : Nat := symV s t (orbM x y d n).1 (orbM x y d n).2 d
section
variable {s t x y d n : Nat}
theorem symL_get {i : Nat} (h : i < n) : (symL s t x y d n)[i]? = some (symF s t x y d i) := by simp [symL, symF, orbL_get h]
theorem orbM_round {p k r : Nat} (hd : 1 ≤ d) (hy : 0 < y) (hp : p = (kindN y d).1) (hk : k = (kindN y d).2) (u : Nat) : orbM x y d (p + r + k * u) = orbM x y d (p + r) := by
  unfold orbM
  rw [orb_round hd hy hp hk u]
theorem raw_at (hd : 1 ≤ d) (hy : 0 < y) : rowAt ((symL s t x y d (orbN y d)).take (kindN y d).1) ((symL s t x y d (orbN y d)).drop (kindN y d).1) n = symF s t x y d n := by
  obtain ⟨p, hp⟩ : ∃ p, p = (kindN y d).1 := ⟨_, rfl⟩
  obtain ⟨k, hk⟩ : ∃ k, k = (kindN y d).2 := ⟨_, rfl⟩
  have hk1 : 1 ≤ k := by rw [hk]; exact kindN_pos hy
  have hN : orbN y d = p + k := by rw [hp, hk]; rfl
  rw [← hp, hN]
  have l1 : ((symL s t x y d (p + k)).take p).length = p := by rw [List.length_take, symL_len]; omega
  have l2 : ((symL s t x y d (p + k)).drop p).length = k := by rw [List.length_drop, symL_len]; omega
  rcases Nat.lt_or_ge n p with h | h
  · have e := rowAt_pre (p := (symL s t x y d (p + k)).take p) (q := (symL s t x y d (p + k)).drop p) (n := n) (by rw [l1]; exact h)
    rw [List.getElem?_take_of_lt h, symL_get (by omega)] at e
    exact (Option.some.inj e).symm
  · have e := rowAt_per (p := (symL s t x y d (p + k)).take p) (q := (symL s t x y d (p + k)).drop p) (n := n) (by rw [l1]; exact h) (by rw [l2]; exact hk1)
    have hr := Nat.mod_lt (n - p) hk1
    rw [l1, l2, List.getElem?_drop, symL_get (by omega)] at e
    rw [← Option.some.inj e]
    unfold symF
    have h1 := orbM_round (x := x) (r := (n - p) % k) hd hy hp hk ((n - p) / k)
    have h2 := Nat.div_add_mod (n - p) k
    rw [show p + (n - p) % k + k * ((n - p) / k) = n by omega] at h1
    rw [h1]
theorem raw_len (hy : 0 < y) : ((symL s t x y d (orbN y d)).take (kindN y d).1).length + ((symL s t x y d (orbN y d)).drop (kindN y d).1).length = orbN y d ∧ 0 < ((symL s t x y d (orbN y d)).drop (kindN y d).1).length := by
  have hk1 := kindN_pos (d := d) hy
  rw [List.length_take, List.length_drop, symL_len]
  unfold orbN
  omega
theorem symB_of {v d : Nat} (hd : d ≤ 64) (h : v = 255 ∨ v < d) : symB v = true := by
  unfold symB
  rcases h with rfl | h
  · rfl
  · rw [decide_eq_true (by omega : v < 64)]; rfl
theorem symV_or {s t p q d : Nat} (hd : 0 < d) : symV s t p q d = 255 ∨ symV s t p q d < d := by
  by_cases h : symV s t p q d = 255
  · exact .inl h
  · exact .inr (symV_lt hd h)
theorem raw_may (hd : 1 ≤ d) (hd2 : d ≤ 64) (hy : 0 < y) (hn : orbN y d ≤ 4096) : mayI ((symL s t x y d (orbN y d)).take (kindN y d).1) ((symL s t x y d (orbN y d)).drop (kindN y d).1) = true := by
  obtain ⟨h1, h2⟩ := raw_len (s := s) (t := t) (x := x) (d := d) hy
  have hall : ∀ v, v ∈ symL s t x y d (orbN y d) → symB v = true := fun v hv => by
    unfold symL at hv
    obtain ⟨m, -, rfl⟩ := List.mem_map.1 hv
    exact symB_of hd2 (symV_or hd)
  have hne : (symL s t x y d (orbN y d)).drop (kindN y d).1 ≠ [] := fun e => by rw [e] at h2; simp at h2
  simp only [mayI, Bool.and_eq_true, List.all_eq_true, decide_eq_true_eq]
  exact ⟨⟨⟨hne, by omega⟩, fun v hv => hall v (List.mem_of_mem_take hv)⟩, fun v hv => hall v (List.mem_of_mem_drop hv)⟩
theorem of_at (hd : 1 ≤ d) (hy : 0 < y) (n : Nat) : rowAt (ofP s t x y d) (ofQ s t x y d) n = symF s t x y d n := by
  unfold ofP ofQ
  rw [low_at (raw_len hy).2, raw_at hd hy]
theorem of_may (hd : 1 ≤ d) (hd2 : d ≤ 64) (hy : 0 < y) (hn : orbN y d ≤ 4096) : mayI (ofP s t x y d) (ofQ s t x y d) = true := low_may (raw_may hd hd2 hy hn)
theorem of_low (hy : 0 < y) {p q : List Nat} (hd : 1 ≤ d) (hq : 0 < q.length) (h : ∀ n, rowAt p q n = symF s t x y d n) : lowP p q = ofP s t x y d ∧ lowQ p q = ofQ s t x y d :=
  low_alike hq (raw_len hy).2 fun n => by rw [h, raw_at hd hy]
end
section
variable {P Q : List Nat}
end
end Go.Proofs.YtoaggmegmgdgbaaGreat
namespace Go.Proofs.YtoaggmegmgdgbaaGreat
def btw3 (a c b : Nat) : Prop := (a < b ∧ b < c) ∨ (c < b ∧ b < a)
def lk (a c b e : Nat) : Prop := (b ≠ a ∧ b ≠ c ∧ e ≠ a ∧ e ≠ c) ∧ ¬ (btw3 a c b ↔ btw3 a c e)
theorem lk_symm {a c b e : Nat} (h : lk a c b e) : lk b e a c := by
  unfold lk btw3 at *
  omega
theorem mod_two {x r N : Nat} (hx : x < N) (hr : r < N) : ((x + r) % N = x + r ∧ x + r < N) ∨ ((x + r) % N + N = x + r) := by
  rcases Nat.lt_or_ge (x + r) N with h | h
  · exact .inl ⟨Nat.mod_eq_of_lt h, h⟩
  · right
    rw [Nat.mod_eq_sub_mod h, Nat.mod_eq_of_lt (by omega)]
    omega
theorem lk_rot {N r a c b e : Nat} (ha : a < N) (hc : c < N) (hb : b < N) (he : e < N) (hr : r < N) (h : lk a c b e) : lk ((a + r) % N) ((c + r) % N) ((b + r) % N) ((e + r) % N) := by
  have h1 := mod_two ha hr
  have h2 := mod_two hc hr
  have h3 := mod_two hb hr
  have h4 := mod_two he hr
  generalize (a + r) % N = A at *
  generalize (c + r) % N = C at *
  generalize (b + r) % N = B at *
  generalize (e + r) % N = E at *
  unfold lk btw3 at *
  rcases h1 with h1 | h1 <;> rcases h2 with h2 | h2 <;> rcases h3 with h3 | h3 <;> rcases h4 with h4 | h4 <;> omega
theorem lk_mul {d a c b e : Nat} (hd : 0 < d) (h : lk a c b e) : lk (d * a) (d * c) (d * b) (d * e) := by
  have h1 : ∀ x y, d * x < d * y ↔ x < y := fun x y => Nat.mul_lt_mul_left hd
  have h2 : ∀ x y, d * x = d * y ↔ x = y := fun x y => by
    have := h1 x y
    have := h1 y x
    omega
  unfold lk btw3 at *
  simp only [h1, h2, ne_eq] at *
  exact h
theorem lk_blocks {M a c b e : Nat} (hM : 0 < M) (h : lk a c b e) (h1 : a / M = c / M) (h2 : b / M = e / M) : a / M = b / M ∧ lk (a % M) (c % M) (b % M) (e % M) := by
  have mono : ∀ {x y : Nat}, x ≤ y → x / M ≤ y / M := fun h => Nat.div_le_div_right h
  have hk : a / M = b / M := by
    have m1 := @mono a b
    have m2 := @mono b c
    have m3 := @mono c b
    have m4 := @mono b a
    have m5 := @mono a e
    have m6 := @mono e c
    have m7 := @mono c e
    have m8 := @mono e a
    unfold lk btw3 at h
    omega
  refine ⟨hk, ?_⟩
  have ea := Nat.div_add_mod a M
  have ec := Nat.div_add_mod c M
  have eb := Nat.div_add_mod b M
  have ee := Nat.div_add_mod e M
  rw [← h1] at ec
  rw [← hk] at eb
  rw [← h2, ← hk] at ee
  generalize M * (a / M) = K at *
  clear h1 h2 hk mono
  generalize a % M = A at *
  generalize c % M = C at *
  generalize b % M = B at *
  generalize e % M = E at *
  unfold lk btw3 at *
  omega
theorem lk_stars {M a c b e : Nat} (hM : 0 < M) (h : lk a c b e) (h1 : a % M = 0) (h2 : c % M = 0) (h3 : b / M = e / M) (h4 : b % M ≠ 0) (h5 : e % M ≠ 0) : False := by
  have mono : ∀ {x y : Nat}, x ≤ y → x / M ≤ y / M := fun h => Nat.div_le_div_right h
  have key : ∀ {x : Nat}, x % M = 0 → ¬ btw3 b e x := by
    intro x hx hb
    have m1 := @mono b x
    have m2 := @mono x e
    have m3 := @mono e x
    have m4 := @mono x b
    have hk : x / M = b / M := by unfold btw3 at hb; omega
    have e1 := Nat.div_add_mod x M
    have e2 := Nat.div_add_mod b M
    have e3 := Nat.div_add_mod e M
    rw [hx, hk] at e1
    rw [← h3] at e3
    unfold btw3 at hb
    omega
  have h6 := lk_symm h
  have k1 := key h1
  have k2 := key h2
  unfold lk at h6
  exact h6.2 ⟨fun x => absurd x k1, fun x => absurd x k2⟩
def symU (d M S U : Nat) : Nat := if S = d * U % M then 255 else (d * U / M + if S < d * U % M then 1 else 0) % d
def posU (d M S U : Nat) : Nat := (d * U + (M - S)) % (M * d)
theorem pos_sym {d M S U : Nat} (hd : 0 < d) (hS : S < M) (hU : U < M) :
    symU d M S U = (if posU d M S U % M = 0 then 255 else posU d M S U / M) ∧ d * U % M = (posU d M S U % M + S) % M := by
  have hM : 0 < M := by omega
  have e0 := Nat.div_add_mod (d * U) M
  have hf := Nat.mod_lt (d * U) hM
  have e1 : posU d M S U % M = (d * U + (M - S)) % M := by unfold posU; exact Nat.mod_mul_right_mod _ _ _
  have e2 : posU d M S U / M = (d * U + (M - S)) / M % d := by unfold posU; exact Nat.mod_mul_right_div_self _ _ _
  rw [e1, e2]
  unfold symU
  generalize d * U / M = q at *
  generalize d * U % M = f at *
  rcases Nat.lt_or_ge f S with h | h
  · have e3 : d * U + (M - S) = M * q + (f + M - S) := by omega
    have h1 : f + M - S < M := by omega
    rw [e3, Nat.mul_add_mod, Nat.mod_eq_of_lt h1, Nat.mul_add_div hM, Nat.div_eq_of_lt h1]
    rw [if_neg (show ¬ S = f by omega), if_neg (show ¬ S < f by omega), if_neg (show ¬ f + M - S = 0 by omega)]
    refine ⟨rfl, ?_⟩
    rw [show f + M - S + S = f + M by omega, Nat.add_mod_right, Nat.mod_eq_of_lt hf]
  · have e3 : d * U + (M - S) = M * (q + 1) + (f - S) := by rw [Nat.mul_succ]; omega
    have h1 : f - S < M := by omega
    rw [e3, Nat.mul_add_mod, Nat.mod_eq_of_lt h1, Nat.mul_add_div hM, Nat.div_eq_of_lt h1]
    refine ⟨?_, by rw [show f - S + S = f by omega, Nat.mod_eq_of_lt hf]⟩
    by_cases h2 : S = f
    · rw [if_pos h2, if_pos (show f - S = 0 by omega)]
    · rw [if_neg h2, if_pos (show S < f by omega), if_neg (show ¬ f - S = 0 by omega)]
theorem pos_lk {d M S a c b e : Nat} (hd : 0 < d) (hS : S < M) (ha : a < M) (hc : c < M) (hb : b < M) (he : e < M) (h : lk a c b e) : lk (posU d M S a) (posU d M S c) (posU d M S b) (posU d M S e) ∨ d = 1 := by
  rcases Nat.lt_or_ge 1 d with h1 | h1
  · left
    have hlt : ∀ {x}, x < M → d * x < M * d := fun hx => by rw [Nat.mul_comm M d]; exact Nat.mul_lt_mul_of_pos_left hx hd
    have hM2 : M * 2 ≤ M * d := Nat.mul_le_mul_left M h1
    exact lk_rot (hlt ha) (hlt hc) (hlt hb) (hlt he) (by omega) (lk_mul hd h)
  · right; omega
theorem lk_step {d M S a c b e : Nat} (hd : 2 ≤ d) (hd2 : d ≤ 64) (hS : S < M) (ha : a < M) (hc : c < M) (hb : b < M) (he : e < M) (h : lk a c b e) (h1 : symU d M S a = symU d M S c) (h2 : symU d M S b = symU d M S e) :
    symU d M S a = symU d M S b ∧ (d * a % M = d * b % M ∨ lk (d * a % M) (d * c % M) (d * b % M) (d * e % M)) := by
  have hM : 0 < M := by omega
  have hd0 : 0 < d := by omega
  have hp := (pos_lk hd0 hS ha hc hb he h).resolve_right (by omega)
  obtain ⟨sa, ta⟩ := pos_sym hd0 hS ha
  obtain ⟨sc, tc⟩ := pos_sym hd0 hS hc
  obtain ⟨sb, tb⟩ := pos_sym hd0 hS hb
  obtain ⟨se, te⟩ := pos_sym hd0 hS he
  have hlt : ∀ U, posU d M S U / M < d := fun U => by
    have : posU d M S U < M * d := Nat.mod_lt _ (Nat.mul_pos hM hd0)
    exact Nat.div_lt_of_lt_mul this
  have la := hlt a
  have lc := hlt c
  have lb := hlt b
  have le := hlt e
  rw [sa, sb]
  rw [sa, sc] at h1
  rw [sb, se] at h2
  rw [ta, tc, tb, te]
  have ma := Nat.mod_lt (posU d M S a) hM
  have mc := Nat.mod_lt (posU d M S c) hM
  have mb := Nat.mod_lt (posU d M S b) hM
  have me := Nat.mod_lt (posU d M S e) hM
  clear sa sc sb se ta tc tb te hlt
  by_cases za : posU d M S a % M = 0
  · have zc : posU d M S c % M = 0 := by
      rw [if_pos za] at h1
      by_cases zc : posU d M S c % M = 0
      · exact zc
      · rw [if_neg zc] at h1; omega
    by_cases zb : posU d M S b % M = 0
    · rw [if_pos za, if_pos zb, za, zb]
      exact ⟨rfl, .inl rfl⟩
    · have ze : posU d M S e % M ≠ 0 := by
        intro ze
        rw [if_neg zb, if_pos ze] at h2; omega
      rw [if_neg zb, if_neg ze] at h2
      exact (lk_stars hM hp za zc h2 zb ze).elim
  · have zc : posU d M S c % M ≠ 0 := by
      intro zc
      rw [if_neg za, if_pos zc] at h1; omega
    rw [if_neg za, if_neg zc] at h1
    by_cases zb : posU d M S b % M = 0
    · have ze : posU d M S e % M = 0 := by
        rw [if_pos zb] at h2
        by_cases ze : posU d M S e % M = 0
        · exact ze
        · rw [if_neg ze] at h2; omega
      exact (lk_stars hM (lk_symm hp) zb ze h1 za zc).elim
    · have ze : posU d M S e % M ≠ 0 := by
        intro ze
        rw [if_neg zb, if_pos ze] at h2; omega
      rw [if_neg zb, if_neg ze] at h2
      obtain ⟨k1, k2⟩ := lk_blocks hM hp h1 h2
      rw [if_neg za, if_neg zb]
      exact ⟨k1, .inr (lk_rot ma mc mb me hS k2)⟩
def orbU (d M U n : Nat) : Nat := d ^ n * U % M
theorem orbU_next (d M U n : Nat) : orbU d M (d * U % M) n = orbU d M U (n + 1) := by
  unfold orbU
  rw [Nat.mul_mod_mod, Nat.pow_succ, Nat.mul_assoc]
theorem unlinkedU {d M S : Nat} (hd : 2 ≤ d) (hd2 : d ≤ 64) (hS : S < M) : ∀ (n : Nat) {a c b e : Nat}, a < M → c < M → b < M → e < M → lk a c b e →
    (∀ i, symU d M S (orbU d M a i) = symU d M S (orbU d M c i)) → (∀ i, symU d M S (orbU d M b i) = symU d M S (orbU d M e i)) → symU d M S (orbU d M a n) = symU d M S (orbU d M b n)
  | n, a, c, b, e, ha, hc, hb, he, h, h1, h2 => by
    have hM : 0 < M := by omega
    have z : ∀ {U}, U < M → orbU d M U 0 = U := fun hU => by unfold orbU; rw [Nat.pow_zero, Nat.one_mul, Nat.mod_eq_of_lt hU]
    have k1 := h1 0
    have k2 := h2 0
    rw [z ha, z hc] at k1
    rw [z hb, z he] at k2
    obtain ⟨k3, k4⟩ := lk_step hd hd2 hS ha hc hb he h k1 k2
    cases n with
    | zero => rw [z ha, z hb]; exact k3
    | succ n =>
      rw [← orbU_next, ← orbU_next]
      rcases k4 with k4 | k4
      · rw [k4]
      · exact unlinkedU hd hd2 hS n (Nat.mod_lt _ hM) (Nat.mod_lt _ hM) (Nat.mod_lt _ hM) (Nat.mod_lt _ hM) k4 (fun i => by rw [orbU_next, orbU_next]; exact h1 (i + 1)) (fun i => by rw [orbU_next, orbU_next]; exact h2 (i + 1))
def pu (M : Nat) (e : Nat × Nat) : Nat := e.1 * (M / e.2)
theorem pu_eq {M : Nat} {e : Nat × Nat} (hd : e.2 ∣ M) : pu M e * e.2 = e.1 * M := by unfold pu; rw [Nat.mul_assoc, Nat.div_mul_cancel hd]
theorem pu_lt {M : Nat} {e : Nat × Nat} (he : e.1 < e.2) (hM : 0 < M) (hd : e.2 ∣ M) : pu M e < M := by
  have h0 : 0 < e.2 := by omega
  rw [← Nat.mul_lt_mul_right h0, pu_eq hd, Nat.mul_comm M]
  exact Nat.mul_lt_mul_of_pos_right he hM
theorem pu_mono {M : Nat} {e f : Nat × Nat} (he : 0 < e.2) (hf : 0 < f.2) (hM : 0 < M) (hd : e.2 ∣ M) (hd' : f.2 ∣ M) : pu M e < pu M f ↔ e.1 * f.2 < f.1 * e.2 := by
  have e1 := pu_eq hd
  have e2 := pu_eq hd'
  have h2 : 0 < e.2 * f.2 := Nat.mul_pos he hf
  rw [← Nat.mul_lt_mul_right (a := e.2 * f.2) h2]
  have e3 : pu M e * (e.2 * f.2) = (e.1 * f.2) * M := by grind
  have e4 : pu M f * (e.2 * f.2) = (f.1 * e.2) * M := by grind
  rw [e3, e4, Nat.mul_lt_mul_right hM]
theorem pu_inj {M : Nat} {e f : Nat × Nat} (he : 0 < e.2) (hf : 0 < f.2) (hM : 0 < M) (hd : e.2 ∣ M) (hd' : f.2 ∣ M) : pu M e = pu M f ↔ e.1 * f.2 = f.1 * e.2 := by
  have h1 := pu_mono he hf hM hd hd'
  have h2 := pu_mono hf he hM hd' hd
  have e : ∀ {x y k l : Nat}, (x < y ↔ k < l) → (y < x ↔ l < k) → (x = y ↔ k = l) := by intro x y k l; omega
  exact e h1 h2
theorem sym_pu {s t p q d M : Nat} (ht : 0 < t) (hq : 0 < q) (hM : 0 < M) (hdt : t ∣ M) (hdq : q ∣ M) : symV s t p q d = symU d M (pu M (s, t)) (pu M (p, q)) := by
  have e1 : d * pu M (p, q) = (d * p) * (M / q) := by unfold pu; rw [Nat.mul_assoc]
  have hk : 0 < M / q := Nat.div_pos (Nat.le_of_dvd hM hdq) hq
  have eM : M = q * (M / q) := (Nat.mul_div_cancel' hdq).symm
  have e2 : d * pu M (p, q) % M = pu M (d * p % q, q) := by
    rw [e1]
    conv => lhs; arg 2; rw [eM]
    rw [Nat.mul_mod_mul_right]; rfl
  have e3 : d * pu M (p, q) / M = d * p / q := by
    rw [e1]
    conv => lhs; arg 2; rw [eM]
    exact Nat.mul_div_mul_right _ _ hk
  unfold symV symU
  rw [e2, e3]
  have h1 := pu_inj (M := M) (e := (s, t)) (f := (d * p % q, q)) ht hq hM hdt hdq
  have h2 := pu_mono (M := M) (e := (s, t)) (f := (d * p % q, q)) ht hq hM hdt hdq
  simp only at h1 h2
  simp only [h1, h2]
theorem pu_rd {M X y : Nat} (hy : 0 < y) (hd : y ∣ M) (hM : 0 < M) : pu M (rd X y) = pu M (X, y) ∧ (rd X y).2 ∣ M := by
  have hg : 0 < Nat.gcd X y := Nat.gcd_pos_of_pos_right _ hy
  have h1 : (rd X y).2 ∣ y := by unfold rd; exact Nat.div_dvd_of_dvd (Nat.gcd_dvd_right _ _)
  have h2 := Nat.dvd_trans h1 hd
  refine ⟨?_, h2⟩
  have h3 : 0 < (rd X y).2 := Nat.pos_of_dvd_of_pos h1 hy
  rw [pu_inj h3 hy hM h2 hd]
  unfold rd
  simp only
  have e1 : X = X / Nat.gcd X y * Nat.gcd X y := (Nat.div_mul_cancel (Nat.gcd_dvd_left _ _)).symm
  have e2 : y = y / Nat.gcd X y * Nat.gcd X y := (Nat.div_mul_cancel (Nat.gcd_dvd_right _ _)).symm
  generalize Nat.gcd X y = g at *
  generalize X / g = A at *
  generalize y / g = B at *
  rw [e1, e2]
  ac_rfl
theorem symF_pu {s t x y d M : Nat} (ht : 0 < t) (hy : 0 < y) (hM : 0 < M) (hdt : t ∣ M) (hdy : y ∣ M) (n : Nat) : symF s t x y d n = symU d M (pu M (s, t)) (orbU d M (pu M (x, y)) n) := by
  have h1 := pu_rd (X := turnX x y d n) hy hdy hM
  have h3 : 0 < (rd (turnX x y d n) y).2 := (Nat.pos_of_dvd_of_pos h1.2 hM)
  unfold symF orbM
  rw [sym_pu ht h3 hM hdt h1.2]
  congr 1
  rw [h1.1]
  unfold orbU turnX pu
  simp only
  have eM : M = y * (M / y) := (Nat.mul_div_cancel' hdy).symm
  conv => rhs; arg 2; rw [eM]
  rw [← Nat.mul_assoc, Nat.mul_mod_mul_right]
  rw [Nat.mul_mod_mod, Nat.mul_comm x]
theorem unlinked {s t d : Nat} {a c b e : Nat × Nat} (hst : s < t) (hd : 2 ≤ d) (hd2 : d ≤ 64) (ha : Ang a) (hc : Ang c) (hb : Ang b) (he : Ang e) (h : lk (ky a) (ky c) (ky b) (ky e))
    (h1 : ∀ n, symF s t a.1 a.2 d n = symF s t c.1 c.2 d n) (h2 : ∀ n, symF s t b.1 b.2 d n = symF s t e.1 e.2 d n) (n : Nat) : symF s t a.1 a.2 d n = symF s t b.1 b.2 d n := by
  have pa : 0 < a.2 := by have := ha.2.1; omega
  have pc : 0 < c.2 := by have := hc.2.1; omega
  have pb : 0 < b.2 := by have := hb.2.1; omega
  have pe : 0 < e.2 := by have := he.2.1; omega
  have pt : 0 < t := by omega
  obtain ⟨M, hM⟩ : ∃ M, M = t * (a.2 * (c.2 * (b.2 * e.2))) := ⟨_, rfl⟩
  have hM0 : 0 < M := by rw [hM]; exact Nat.mul_pos pt (Nat.mul_pos pa (Nat.mul_pos pc (Nat.mul_pos pb pe)))
  have dt : t ∣ M := ⟨_, hM⟩
  have da : a.2 ∣ M := by rw [hM]; exact Nat.dvd_trans (Nat.dvd_mul_right _ _) (Nat.dvd_mul_left _ _)
  have dc : c.2 ∣ M := by rw [hM]; exact Nat.dvd_trans (Nat.dvd_trans (Nat.dvd_mul_right _ _) (Nat.dvd_mul_left _ _)) (Nat.dvd_mul_left _ _)
  have db : b.2 ∣ M := by rw [hM]; exact Nat.dvd_trans (Nat.dvd_trans (Nat.dvd_trans (Nat.dvd_mul_right _ _) (Nat.dvd_mul_left _ _)) (Nat.dvd_mul_left _ _)) (Nat.dvd_mul_left _ _)
  have de : e.2 ∣ M := by rw [hM]; exact Nat.dvd_trans (Nat.dvd_trans (Nat.dvd_trans (Nat.dvd_mul_left _ _) (Nat.dvd_mul_left _ _)) (Nat.dvd_mul_left _ _)) (Nat.dvd_mul_left _ _)
  have hk : ∀ {p q : Nat × Nat}, Ang p → Ang q → p.2 ∣ M → q.2 ∣ M → (pu M p < pu M q ↔ ky p < ky q) := fun {p q} hp hq dp dq => by
    rw [pu_mono (by have := hp.2.1; omega) (by have := hq.2.1; omega) hM0 dp dq, ← cmpP_lt, ky_lt hp hq]
  have hl : lk (pu M a) (pu M c) (pu M b) (pu M e) := by
    have q1 := hk ha hb da db
    have q2 := hk hb ha db da
    have q3 := hk hc hb dc db
    have q4 := hk hb hc db dc
    have q5 := hk ha he da de
    have q6 := hk he ha de da
    have q7 := hk hc he dc de
    have q8 := hk he hc de dc
    clear hk
    unfold lk btw3 at *
    generalize pu M a = A at *
    generalize pu M b = B at *
    generalize pu M c = C at *
    generalize pu M e = E at *
    generalize ky a = A' at *
    generalize ky b = B' at *
    generalize ky c = C' at *
    generalize ky e = E' at *
    omega
  have f := fun {p : Nat × Nat} (hp : 0 < p.2) (dp : p.2 ∣ M) n => symF_pu (s := s) (x := p.1) (d := d) pt hp hM0 dt dp n
  rw [f pa da, f pb db]
  exact unlinkedU hd hd2 (pu_lt hst hM0 dt) n (pu_lt ha.2.1 hM0 da) (pu_lt hc.2.1 hM0 dc) (pu_lt hb.2.1 hM0 db) (pu_lt he.2.1 hM0 de) hl
    (fun i => by rw [← f pa da, ← f pc dc]; exact h1 i) (fun i => by rw [← f pb db, ← f pe de]; exact h2 i)
def rowK (s t d : Nat) (p : Nat × Nat) : List Nat × List Nat := (ofP s t p.1 p.2 d, ofQ s t p.1 p.2 d)
theorem rowK_iff {s t d : Nat} {p q : Nat × Nat} (hd : 1 ≤ d) (hp : 0 < p.2) (hq : 0 < q.2) : rowK s t d p = rowK s t d q ↔ ∀ n, symF s t p.1 p.2 d n = symF s t q.1 q.2 d n := by
  constructor
  · intro h n
    unfold rowK at h
    injection h with h1 h2
    rw [← of_at hd hp n, ← of_at hd hq n, h1, h2]
  · intro h
    have h1 := of_low (s := s) (t := t) (x := q.1) (y := q.2) (d := d) hq (p := (symL s t p.1 p.2 d (orbN p.2 d)).take (kindN p.2 d).1) (q := (symL s t p.1 p.2 d (orbN p.2 d)).drop (kindN p.2 d).1) hd (raw_len hp).2 (fun n => by rw [raw_at hd hp]; exact h n)
    exact Prod.ext h1.1 h1.2
theorem unlinkedK {s t d : Nat} {a c b e : Nat × Nat} (hst : s < t) (hd : 2 ≤ d) (hd2 : d ≤ 64) (ha : Ang a) (hc : Ang c) (hb : Ang b) (he : Ang e) (h : lk (ky a) (ky c) (ky b) (ky e))
    (h1 : rowK s t d a = rowK s t d c) (h2 : rowK s t d b = rowK s t d e) : rowK s t d a = rowK s t d b := by
  have p : ∀ {p : Nat × Nat}, Ang p → 0 < p.2 := fun hp => by have := hp.2.1; omega
  have hd1 : 1 ≤ d := by omega
  rw [rowK_iff hd1 (p ha) (p hb)]
  exact unlinked hst hd hd2 ha hc hb he h ((rowK_iff hd1 (p ha) (p hc)).1 h1) ((rowK_iff hd1 (p hb) (p he)).1 h2)
end Go.Proofs.YtoaggmegmgdgbaaGreat
