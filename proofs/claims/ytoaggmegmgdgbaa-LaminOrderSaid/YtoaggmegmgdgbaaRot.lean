/- Angles moved round the circle: crossing stays. (No program in sight.) -/
import Derived.Test.YtoaggmegmgdgbaaLamP
namespace Go.Proofs.Ytoaggmegmgdgbaa

/-- An angle moved round by another. -/
def rotP (t p : Nat × Nat) : Nat × Nat := (addX p.1 p.2 t.1 t.2 / Nat.gcd (addX p.1 p.2 t.1 t.2) (p.2 * t.2), p.2 * t.2 / Nat.gcd (addX p.1 p.2 t.1 t.2) (p.2 * t.2))
theorem rotP_ang {t p : Nat × Nat} (hp : Ang p) (ht : Ang t) (h : (rotP t p).2 ≤ 2147483647) : Ang (rotP t p) := by
  have hD : 0 < p.2 * t.2 := Nat.mul_pos hp.pos ht.pos
  have hX : addX p.1 p.2 t.1 t.2 < p.2 * t.2 := Nat.mod_lt _ hD
  have hg : 0 < Nat.gcd (addX p.1 p.2 t.1 t.2) (p.2 * t.2) := Nat.gcd_pos_of_pos_right _ hD
  refine ⟨Nat.coprime_div_gcd_div_gcd hg, ?_, h⟩
  show addX p.1 p.2 t.1 t.2 / _ < p.2 * t.2 / _
  exact Nat.div_lt_div_of_lt_of_dvd (Nat.gcd_dvd_right _ _) hX
/-- An angle's numerator over a common denominator. -/
def keyM (M : Nat) (p : Nat × Nat) : Nat := p.1 * (M / p.2)
theorem keyM_lt {M : Nat} {p q : Nat × Nat} (hp : p.2 ∣ M) (hq : q.2 ∣ M) (hp0 : 0 < p.2) (hq0 : 0 < q.2) (hM : 0 < M) : cmpP p q < 0 ↔ keyM M p < keyM M q := by
  obtain ⟨x, hx⟩ := hp
  obtain ⟨y, hy⟩ := hq
  have ex : M / p.2 = x := by rw [hx, Nat.mul_div_cancel_left _ hp0]
  have ey : M / q.2 = y := by rw [hy, Nat.mul_div_cancel_left _ hq0]
  unfold keyM
  rw [cmpP_lt, ex, ey]
  have hpq : 0 < p.2 * q.2 := Nat.mul_pos hp0 hq0
  have e1 : p.1 * x * (p.2 * q.2) = p.1 * q.2 * M := by rw [hx]; ac_rfl
  have e2 : q.1 * y * (p.2 * q.2) = q.1 * p.2 * M := by rw [hy]; ac_rfl
  rw [← Nat.mul_lt_mul_right hM, ← e1, ← e2, Nat.mul_lt_mul_right hpq]
theorem keyM_bd {M : Nat} {p : Nat × Nat} (hp : p.2 ∣ M) (hA : Ang p) (hM : 0 < M) : keyM M p < M := by
  obtain ⟨x, hx⟩ := hp
  have hp0 := hA.pos
  have ex : M / p.2 = x := by rw [hx, Nat.mul_div_cancel_left _ hp0]
  unfold keyM
  rw [ex]
  have hx0 : 0 < x := by
    rcases Nat.eq_zero_or_pos x with h | h
    · rw [h] at hx; omega
    · exact h
  calc p.1 * x < p.2 * x := Nat.mul_lt_mul_of_pos_right hA.2.1 hx0
    _ = M := hx.symm
theorem rotP_dvd {t p : Nat × Nat} : (rotP t p).2 ∣ p.2 * t.2 := Nat.div_dvd_of_dvd (Nat.gcd_dvd_right _ _)
theorem keyM_rot {M : Nat} {t p : Nat × Nat} (h : p.2 * t.2 ∣ M) (hp : Ang p) (ht : Ang t) : keyM M (rotP t p) = (keyM M p + keyM M t) % M := by
  obtain ⟨z, hz⟩ := h
  have hp0 := hp.pos
  have ht0 := ht.pos
  have hD : 0 < p.2 * t.2 := Nat.mul_pos hp0 ht0
  have hg : 0 < Nat.gcd (addX p.1 p.2 t.1 t.2) (p.2 * t.2) := Nat.gcd_pos_of_pos_right _ hD
  obtain ⟨g, hge⟩ : ∃ g, g = Nat.gcd (addX p.1 p.2 t.1 t.2) (p.2 * t.2) := ⟨_, rfl⟩
  obtain ⟨X, hX⟩ : ∃ X, X = addX p.1 p.2 t.1 t.2 := ⟨_, rfl⟩
  have e1 : keyM M (rotP t p) = X * z := by
    unfold keyM rotP
    simp only
    rw [← hX] at hge ⊢
    rw [← hge]
    rw [← hX, ← hge] at hg
    have d1 : g ∣ X := by rw [hge]; exact Nat.gcd_dvd_left _ _
    have d2 : g ∣ p.2 * t.2 := by rw [hge]; exact Nat.gcd_dvd_right _ _
    obtain ⟨a, ha⟩ := d1
    obtain ⟨b, hb⟩ := d2
    have hb0 : 0 < b := by
      rcases Nat.eq_zero_or_pos b with h | h
      · rw [h] at hb; omega
      · exact h
    rw [hz, ha, hb, Nat.mul_div_cancel_left _ hg, Nat.mul_div_cancel_left _ hg, show g * b * z = b * (g * z) by ac_rfl, Nat.mul_div_cancel_left _ hb0]
    ac_rfl
  have e2 : keyM M p = p.1 * t.2 * z := by
    unfold keyM
    rw [hz, show p.2 * t.2 * z = p.2 * (t.2 * z) by ac_rfl, Nat.mul_div_cancel_left _ hp0]
    ac_rfl
  have e3 : keyM M t = t.1 * p.2 * z := by
    unfold keyM
    rw [hz, show p.2 * t.2 * z = t.2 * (p.2 * z) by ac_rfl, Nat.mul_div_cancel_left _ ht0]
    ac_rfl
  rw [e1, e2, e3, hX, addX, ← Nat.add_mul, hz, Nat.mul_mod_mul_right]
/-- Crossing, by the order alone. -/
theorem crossP_cmp {l m : Lf} (hl : Lfp l) (hm : Lfp m) : crossP l m = true ↔ (cmpP l.1 m.1 < 0 ∧ cmpP m.1 l.2 < 0 ∧ cmpP l.2 m.2 < 0) ∨ (cmpP m.1 l.1 < 0 ∧ cmpP l.1 m.2 < 0 ∧ cmpP m.2 l.2 < 0) := by
  rw [crossP_ky hl hm, ky_lt hl.1.1 hm.1.1, ky_lt hm.1.1 hl.1.2, ky_lt hl.1.2 hm.1.2, ky_lt hm.1.1 hl.1.1, ky_lt hl.1.1 hm.1.2, ky_lt hm.1.2 hl.1.2]
theorem mod_two {x t M : Nat} (hx : x < M) (ht : t < M) : ((x + t) % M = x + t ∧ x + t < M) ∨ ((x + t) % M + M = x + t ∧ M ≤ x + t) := by
  rcases Nat.lt_or_ge (x + t) M with h | h
  · exact .inl ⟨Nat.mod_eq_of_lt h, h⟩
  · right
    have : (x + t) % M = x + t - M := by rw [Nat.mod_eq_sub_mod h, Nat.mod_eq_of_lt (by omega)]
    omega
theorem mkL_keyM {M : Nat} {p q : Nat × Nat} (hp : p.2 ∣ M) (hq : q.2 ∣ M) (hp0 : 0 < p.2) (hq0 : 0 < q.2) (hM : 0 < M) : (keyM M q < keyM M p ∧ mkL p q = (q, p)) ∨ (keyM M p ≤ keyM M q ∧ mkL p q = (p, q)) := by
  unfold mkL
  have h := keyM_lt (M := M) hq hp hq0 hp0 hM
  by_cases h1 : cmpP q p < 0
  · rw [if_pos h1]; exact .inl ⟨h.1 h1, rfl⟩
  · rw [if_neg h1]; exact .inr ⟨by have := fun h2 => h1 (h.2 h2); omega, rfl⟩
/-- Moved round the circle, leaves cross just as they did. -/
theorem cross_rot {a b : Lf} {t : Nat × Nat} (ha : Lfp a) (hb : Lfp b) (ht : Ang t) (h1 : (rotP t a.1).2 ≤ 2147483647) (h2 : (rotP t a.2).2 ≤ 2147483647) (h3 : (rotP t b.1).2 ≤ 2147483647) (h4 : (rotP t b.2).2 ≤ 2147483647) :
    rotP t a.1 ≠ rotP t a.2 ∧ rotP t b.1 ≠ rotP t b.2 ∧ crossP (mkL (rotP t a.1) (rotP t a.2)) (mkL (rotP t b.1) (rotP t b.2)) = crossP a b := by
  obtain ⟨M, hMe⟩ : ∃ M, M = a.1.2 * a.2.2 * b.1.2 * b.2.2 * t.2 := ⟨_, rfl⟩
  have p1 := ha.1.1.pos
  have p2 := ha.1.2.pos
  have p3 := hb.1.1.pos
  have p4 := hb.1.2.pos
  have pt := ht.pos
  have hM : 0 < M := by rw [hMe]; exact Nat.mul_pos (Nat.mul_pos (Nat.mul_pos (Nat.mul_pos p1 p2) p3) p4) pt
  have d1 : a.1.2 * t.2 ∣ M := ⟨a.2.2 * b.1.2 * b.2.2, by rw [hMe]; ac_rfl⟩
  have d2 : a.2.2 * t.2 ∣ M := ⟨a.1.2 * b.1.2 * b.2.2, by rw [hMe]; ac_rfl⟩
  have d3 : b.1.2 * t.2 ∣ M := ⟨a.1.2 * a.2.2 * b.2.2, by rw [hMe]; ac_rfl⟩
  have d4 : b.2.2 * t.2 ∣ M := ⟨a.1.2 * a.2.2 * b.1.2, by rw [hMe]; ac_rfl⟩
  have e1 : a.1.2 ∣ M := Nat.dvd_trans (Nat.dvd_mul_right _ _) d1
  have e2 : a.2.2 ∣ M := Nat.dvd_trans (Nat.dvd_mul_right _ _) d2
  have e3 : b.1.2 ∣ M := Nat.dvd_trans (Nat.dvd_mul_right _ _) d3
  have e4 : b.2.2 ∣ M := Nat.dvd_trans (Nat.dvd_mul_right _ _) d4
  have et : t.2 ∣ M := Nat.dvd_trans (Nat.dvd_mul_left _ _) d1
  have f1 := Nat.dvd_trans rotP_dvd d1
  have f2 := Nat.dvd_trans rotP_dvd d2
  have f3 := Nat.dvd_trans rotP_dvd d3
  have f4 := Nat.dvd_trans rotP_dvd d4
  have A1 := rotP_ang ha.1.1 ht h1
  have A2 := rotP_ang ha.1.2 ht h2
  have A3 := rotP_ang hb.1.1 ht h3
  have A4 := rotP_ang hb.1.2 ht h4
  have k1 := keyM_rot d1 ha.1.1 ht
  have k2 := keyM_rot d2 ha.1.2 ht
  have k3 := keyM_rot d3 hb.1.1 ht
  have k4 := keyM_rot d4 hb.1.2 ht
  have b1 := mod_two (keyM_bd e1 ha.1.1 hM) (keyM_bd et ht hM)
  have b2 := mod_two (keyM_bd e2 ha.1.2 hM) (keyM_bd et ht hM)
  have b3 := mod_two (keyM_bd e3 hb.1.1 hM) (keyM_bd et ht hM)
  have b4 := mod_two (keyM_bd e4 hb.1.2 hM) (keyM_bd et ht hM)
  rw [← k1] at b1
  rw [← k2] at b2
  rw [← k3] at b3
  rw [← k4] at b4
  have o1 := (keyM_lt e1 e2 p1 p2 hM).1 ha.2
  have o2 := (keyM_lt e3 e4 p3 p4 hM).1 hb.2
  have c1 := keyM_bd e1 ha.1.1 hM
  have c2 := keyM_bd e2 ha.1.2 hM
  have c3 := keyM_bd e3 hb.1.1 hM
  have c4 := keyM_bd e4 hb.1.2 hM
  have ct := keyM_bd et ht hM
  have n1 : rotP t a.1 ≠ rotP t a.2 := fun e => by
    have := congrArg (keyM M) e
    omega
  have n2 : rotP t b.1 ≠ rotP t b.2 := fun e => by
    have := congrArg (keyM M) e
    omega
  refine ⟨n1, n2, ?_⟩
  have x := mkL_keyM f1 f2 A1.pos A2.pos hM
  have y := mkL_keyM f3 f4 A3.pos A4.pos hM
  have lx := mkL_lfp A1 A2 n1
  have ly := mkL_lfp A3 A4 n2
  rw [Bool.eq_iff_iff, crossP_cmp lx ly, crossP_cmp ha hb, keyM_lt e1 e3 p1 p3 hM, keyM_lt e3 e2 p3 p2 hM, keyM_lt e2 e4 p2 p4 hM, keyM_lt e3 e1 p3 p1 hM, keyM_lt e1 e4 p1 p4 hM, keyM_lt e4 e2 p4 p2 hM]
  have m12 := keyM_lt f1 f3 A1.pos A3.pos hM
  rcases x with ⟨x0, x⟩ | ⟨x0, x⟩ <;> rcases y with ⟨y0, y⟩ | ⟨y0, y⟩
  all_goals
    rw [x, y]
    simp only [keyM_lt f1 f3 A1.pos A3.pos hM, keyM_lt f1 f4 A1.pos A4.pos hM, keyM_lt f2 f3 A2.pos A3.pos hM, keyM_lt f2 f4 A2.pos A4.pos hM, keyM_lt f3 f1 A3.pos A1.pos hM, keyM_lt f3 f2 A3.pos A2.pos hM, keyM_lt f4 f1 A4.pos A1.pos hM, keyM_lt f4 f2 A4.pos A2.pos hM]
    clear m12 lx ly k1 k2 k3 k4 x y n1 n2 A1 A2 A3 A4 f1 f2 f3 f4 d1 d2 d3 d4 e1 e2 e3 e4 et hMe h1 h2 h3 h4 p1 p2 p3 p4 pt
    generalize keyM M (rotP t a.1) = r1 at *
    generalize keyM M (rotP t a.2) = r2 at *
    generalize keyM M (rotP t b.1) = r3 at *
    generalize keyM M (rotP t b.2) = r4 at *
    generalize keyM M a.1 = v1 at *
    generalize keyM M a.2 = v2 at *
    generalize keyM M b.1 = v3 at *
    generalize keyM M b.2 = v4 at *
    generalize keyM M t = vt at *
    omega
end Go.Proofs.Ytoaggmegmgdgbaa
