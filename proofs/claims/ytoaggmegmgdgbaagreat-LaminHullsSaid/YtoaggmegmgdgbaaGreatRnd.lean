/- Round the circle: the plain law. -/
import Derived.Test.YtoaggmegmgdgbaaGreatAngN
namespace Go.Proofs.YtoaggmegmgdgbaaGreat
open Go.RowKit

theorem fr_lt {n1 d1 A1 n2 d2 A2 D : Nat} (h1 : n1 * D = A1 * d1) (h2 : n2 * D = A2 * d2) (p1 : 0 < d1) (p2 : 0 < d2) (hD : 0 < D) : n1 * d2 < n2 * d1 ↔ A1 < A2 := by
  have e1 : n1 * d2 * D = A1 * (d1 * d2) := by
    rw [Nat.mul_right_comm, h1, Nat.mul_assoc]
  have e2 : n2 * d1 * D = A2 * (d1 * d2) := by
    rw [Nat.mul_right_comm, h2, Nat.mul_assoc, Nat.mul_comm d2]
  have hp : 0 < d1 * d2 := Nat.mul_pos p1 p2
  constructor
  · intro h
    have h' := Nat.mul_lt_mul_of_pos_right h hD
    rw [e1, e2] at h'
    exact Nat.lt_of_mul_lt_mul_right h'
  · intro h
    have h' := Nat.mul_lt_mul_of_pos_right h hp
    rw [← e1, ← e2] at h'
    exact Nat.lt_of_mul_lt_mul_right h'

theorem fr_eq {n1 d1 A1 n2 d2 A2 D : Nat} (h1 : n1 * D = A1 * d1) (h2 : n2 * D = A2 * d2) (p1 : 0 < d1) (p2 : 0 < d2) (hD : 0 < D) : n1 * d2 = n2 * d1 ↔ A1 = A2 := by
  have a := fr_lt h1 h2 p1 p2 hD
  have b := fr_lt h2 h1 p2 p1 hD
  omega

/-- The same over one denominator. -/
def betwN (a x b : Nat) : Bool :=
  if a < b then decide (a < x) && decide (x < b) else if b < a then decide (a < x) || decide (x < b) else !decide (a = x)

theorem betw_N {x1 y1 x2 y2 x3 y3 A1 A2 A3 D : Nat} (h1 : x1 * D = A1 * y1) (h2 : x2 * D = A2 * y2) (h3 : x3 * D = A3 * y3) (p1 : 0 < y1) (p2 : 0 < y2) (p3 : 0 < y3) (hD : 0 < D) :
    betw x1 y1 x2 y2 x3 y3 = betwN A1 A2 A3 := by
  unfold betw betwN
  simp only [fr_lt h1 h2 p1 p2 hD, fr_lt h2 h3 p2 p3 hD, fr_lt h1 h3 p1 p3 hD, fr_lt h3 h1 p3 p1 hD, fr_eq h1 h2 p1 p2 hD]

theorem mod_add {A Y D : Nat} (hA : A < D) (hY : Y < D) : (A + Y) % D = if A + Y < D then A + Y else A + Y - D := by
  split
  · exact Nat.mod_eq_of_lt (by assumption)
  · rw [Nat.mod_eq_sub_mod (by omega), Nat.mod_eq_of_lt (by omega)]

theorem betwN_iff {a x b : Nat} : betwN a x b = true ↔ (a < b ∧ a < x ∧ x < b) ∨ (b < a ∧ (a < x ∨ x < b)) ∨ (a = b ∧ a ≠ x) := by
  unfold betwN
  by_cases h1 : a < b
  · rw [if_pos h1]; simp; omega
  · rw [if_neg h1]
    by_cases h2 : b < a
    · rw [if_pos h2]; simp; omega
    · rw [if_neg h2]; simp; omega

/-- Turned on together they stand as they stood. -/
theorem betwN_on {A X B Y D : Nat} (hA : A < D) (hX : X < D) (hB : B < D) (hY : Y < D) : betwN ((A + Y) % D) ((X + Y) % D) ((B + Y) % D) = betwN A X B := by
  rw [mod_add hA hY, mod_add hX hY, mod_add hB hY, Bool.eq_iff_iff, betwN_iff, betwN_iff]
  by_cases c1 : A + Y < D <;> by_cases c2 : X + Y < D <;> by_cases c3 : B + Y < D <;> simp only [c1, c2, c3, if_true, if_false] <;> omega

/-- Of three unlike ones one way round. -/
theorem betwN_one {A X B : Nat} (h1 : A ≠ X) (h2 : X ≠ B) (h3 : A ≠ B) : betwN A X B ≠ betwN B X A := by
  intro h
  rw [Bool.eq_iff_iff, betwN_iff, betwN_iff] at h
  omega

/-- An angle, over a denominator that its own divides. -/
theorem fr_of {x y D : Nat} (h : y ∣ D) : x * D = (x * (D / y)) * y := by
  rw [Nat.mul_assoc, Nat.div_mul_cancel h]

theorem fr_low {n d A D : Nat} (h : n * D = A * d) (hd : 0 < d) : (n / Nat.gcd n d) * D = A * (d / Nat.gcd n d) := by
  have g0 : 0 < Nat.gcd n d := Nat.gcd_pos_of_pos_right _ hd
  obtain ⟨g, hg⟩ : ∃ g, g = Nat.gcd n d := ⟨_, rfl⟩
  have e1 : n / g * g = n := Nat.div_mul_cancel (by rw [hg]; exact Nat.gcd_dvd_left _ _)
  have e2 : d / g * g = d := Nat.div_mul_cancel (by rw [hg]; exact Nat.gcd_dvd_right _ _)
  rw [← hg] at g0 ⊢
  apply Nat.eq_of_mul_eq_mul_right g0
  calc n / g * D * g = (n / g * g) * D := by rw [Nat.mul_right_comm]
    _ = A * (d / g * g) := by rw [e1, e2, h]
    _ = A * (d / g) * g := by rw [Nat.mul_assoc]

/-- The sum of two, over a common denominator. -/
theorem fr_add {x1 y1 x2 y2 A1 A2 D : Nat} (h1 : x1 * D = A1 * y1) (h2 : x2 * D = A2 * y2) (_p1 : 0 < y1) (_p2 : 0 < y2) (_hD : 0 < D) :
    ((x1 * y2 + x2 * y1) % (y1 * y2)) * D = ((A1 + A2) % D) * (y1 * y2) := by
  have e : (x1 * y2 + x2 * y1) * D = (A1 + A2) * (y1 * y2) := by
    rw [Nat.add_mul, Nat.add_mul, Nat.mul_right_comm, h1, Nat.mul_right_comm x2, h2]
    ac_rfl
  rw [← Nat.mul_mod_mul_right, ← Nat.mul_mod_mul_right, e, Nat.mul_comm (y1 * y2) D]

theorem okA_inj {n n' : Bool} {a d a' d' : ByteArray} (h : okA n a d = true) (h' : okA n' a' d' = true) (e : be (sl a) * be (sl d') = be (sl a') * be (sl d)) : n = n' ∧ a = a' ∧ d = d' := by
  obtain ⟨rfl, ma, md, g, lt, -⟩ := okA_spec h
  obtain ⟨rfl, ma', md', g', lt', -⟩ := okA_spec h'
  have e1 : be (sl d) ∣ be (sl d') := by
    have : be (sl d) ∣ be (sl a) * be (sl d') := by rw [e]; exact Nat.dvd_mul_left _ _
    exact Nat.Coprime.dvd_of_dvd_mul_left (Nat.Coprime.symm g) this
  have e2 : be (sl d') ∣ be (sl d) := by
    have : be (sl d') ∣ be (sl a') * be (sl d) := by rw [← e]; exact Nat.dvd_mul_left _ _
    exact Nat.Coprime.dvd_of_dvd_mul_left (Nat.Coprime.symm g') this
  have e3 : be (sl d) = be (sl d') := Nat.dvd_antisymm e1 e2
  rw [e3] at e
  have e4 : be (sl a) = be (sl a') := Nat.eq_of_mul_eq_mul_right (by omega) e
  refine ⟨rfl, ?_, ?_⟩
  · rw [← natS_be ma, ← natS_be ma', e4]
  · rw [← natS_be md, ← natS_be md', e3]

theorem okA_size {n : Bool} {a d : ByteArray} (h : okA n a d = true) : a.size ≤ 9223372036854775807 ∧ d.size ≤ 9223372036854775807 := by
  obtain ⟨-, ma, md, -⟩ := okA_spec h
  have := mayB_size ma
  have := mayB_size md
  omega

/-- What Add tells, in letters. -/
theorem addV_form (n1 : Bool) (a1 d1 : ByteArray) (n2 : Bool) (a2 d2 : ByteArray) : ∃ (s1 s2 : ByteArray) (e : Int), addV n1 a1 d1 n2 a2 d2 = .tuple #[.agg #[.bool false, .string s1, .string s2], .int .i64 e] ∧ s1.size ≤ 9223372036854775807 ∧ s2.size ≤ 9223372036854775807 ∧
    (e = 0 → okA n1 a1 d1 = true ∧ okA n2 a2 d2 = true ∧ okA false s1 s2 = true ∧ ∀ A1 A2 D : Nat, 0 < D → be (sl a1) * D = A1 * be (sl d1) → be (sl a2) * D = A2 * be (sl d2) → be (sl s1) * D = ((A1 + A2) % D) * be (sl s2)) := by
  by_cases h : (okA n1 a1 d1 && okA n2 a2 d2) = true
  · obtain ⟨h1, h2⟩ := Bool.and_eq_true_iff.1 h
    obtain ⟨-, -, -, -, t1, l1⟩ := okA_spec h1
    obtain ⟨-, -, -, -, t2, l2⟩ := okA_spec h2
    unfold addV
    rw [if_pos h]
    obtain ⟨x1, e1⟩ : ∃ x, x = be (sl a1) := ⟨_, rfl⟩
    obtain ⟨x2, e2⟩ : ∃ x, x = be (sl a2) := ⟨_, rfl⟩
    obtain ⟨y1, e3⟩ : ∃ x, x = be (sl d1) := ⟨_, rfl⟩
    obtain ⟨y2, e4⟩ : ∃ x, x = be (sl d2) := ⟨_, rfl⟩
    rw [← e1, ← e2, ← e3, ← e4]
    rw [← e1, ← e3] at t1
    rw [← e2, ← e4] at t2
    have hY0 : 0 < y1 * y2 := Nat.mul_pos (by omega) (by omega)
    have hfr : ∀ A1 A2 D : Nat, 0 < D → x1 * D = A1 * y1 → x2 * D = A2 * y2 → addX x1 y1 x2 y2 * D = ((A1 + A2) % D) * (y1 * y2) := fun A1 A2 D hD q1 q2 => fr_add q1 q2 (by omega) (by omega) hD
    have hXY : addX x1 y1 x2 y2 < y1 * y2 := Nat.mod_lt _ hY0
    generalize addX x1 y1 x2 y2 = X at hfr hXY ⊢
    generalize y1 * y2 = Y at hfr hXY hY0 ⊢
    obtain ⟨g, hg⟩ : ∃ g, g = Nat.gcd X Y := ⟨_, rfl⟩
    have hg0 : 0 < g := by rw [hg]; exact Nat.gcd_pos_of_pos_right _ hY0
    unfold toldV
    rw [← hg]
    split
    · rename_i hle
      have k1 : Nat.gcd (X / g) (Y / g) = 1 := by
        rw [Nat.gcd_div (by rw [hg]; exact Nat.gcd_dvd_left _ _) (by rw [hg]; exact Nat.gcd_dvd_right _ _), ← hg]
        exact Nat.div_self hg0
      have k2 : X / g < Y / g := Nat.div_lt_div_of_lt_of_dvd (by rw [hg]; exact Nat.gcd_dvd_right _ _) hXY
      have ok := okA_natS k1 k2 hle
      refine ⟨natS (X / g), natS (Y / g), 0, rfl, (okA_size ok).1, (okA_size ok).2, fun _ => ⟨h1, h2, ok, fun A1 A2 D hD q1 q2 => ?_⟩⟩
      rw [be_natS, be_natS, hg]
      exact fr_low (hfr A1 A2 D hD q1 q2) hY0
    · exact ⟨_, _, _, rfl, by decide, by decide, fun h => by simp at h⟩
  · unfold addV
    rw [if_neg h]
    exact ⟨_, _, _, rfl, by decide, by decide, fun h => by simp at h⟩

theorem betweenV_form (n1 : Bool) (a1 d1 : ByteArray) (n2 : Bool) (a2 d2 : ByteArray) (n3 : Bool) (a3 d3 : ByteArray) : ∃ (b : Bool) (e : Int), betweenV n1 a1 d1 n2 a2 d2 n3 a3 d3 = .tuple #[.bool b, .int .i64 e] ∧
    (okA n1 a1 d1 = true → okA n2 a2 d2 = true → okA n3 a3 d3 = true → e = 0 ∧ b = betw (be (sl a1)) (be (sl d1)) (be (sl a2)) (be (sl d2)) (be (sl a3)) (be (sl d3))) ∧
    (¬ (okA n1 a1 d1 = true ∧ okA n2 a2 d2 = true ∧ okA n3 a3 d3 = true) → e = 210 ∧ b = false) := by
  unfold betweenV
  by_cases h : (okA n1 a1 d1 && okA n2 a2 d2 && okA n3 a3 d3) = true
  · rw [if_pos h]
    simp only [Bool.and_eq_true] at h
    exact ⟨_, _, rfl, fun _ _ _ => ⟨rfl, rfl⟩, fun hn => absurd ⟨h.1.1, h.1.2, h.2⟩ hn⟩
  · rw [if_neg h]
    simp only [Bool.and_eq_true] at h
    exact ⟨_, _, rfl, fun q1 q2 q3 => absurd ⟨⟨q1, q2⟩, q3⟩ h, fun _ => ⟨rfl, rfl⟩⟩

/-- The law: of three unlike angles one way round. -/
theorem round_one {n1 n2 n3 : Bool} {a1 d1 a2 d2 a3 d3 : ByteArray} (h1 : okA n1 a1 d1 = true) (h2 : okA n2 a2 d2 = true) (h3 : okA n3 a3 d3 = true)
    (u12 : ¬ (n1 = n2 ∧ a1 = a2 ∧ d1 = d2)) (u23 : ¬ (n2 = n3 ∧ a2 = a3 ∧ d2 = d3)) (u13 : ¬ (n1 = n3 ∧ a1 = a3 ∧ d1 = d3)) :
    betw (be (sl a1)) (be (sl d1)) (be (sl a2)) (be (sl d2)) (be (sl a3)) (be (sl d3)) ≠ betw (be (sl a3)) (be (sl d3)) (be (sl a2)) (be (sl d2)) (be (sl a1)) (be (sl d1)) := by
  have v12 := fun e => u12 (okA_inj h1 h2 e)
  have v23 := fun e => u23 (okA_inj h2 h3 e)
  have v13 := fun e => u13 (okA_inj h1 h3 e)
  have p1 : 0 < be (sl d1) := by have := (okA_spec h1).2.2.2.2.1; omega
  have p2 : 0 < be (sl d2) := by have := (okA_spec h2).2.2.2.2.1; omega
  have p3 : 0 < be (sl d3) := by have := (okA_spec h3).2.2.2.2.1; omega
  obtain ⟨D, hD⟩ : ∃ D, D = be (sl d1) * be (sl d2) * be (sl d3) := ⟨_, rfl⟩
  have hD0 : 0 < D := by rw [hD]; exact Nat.mul_pos (Nat.mul_pos p1 p2) p3
  have f1 := fr_of (x := be (sl a1)) (show be (sl d1) ∣ D by rw [hD, Nat.mul_assoc]; exact Nat.dvd_mul_right _ _)
  have f2 := fr_of (x := be (sl a2)) (show be (sl d2) ∣ D by rw [hD, Nat.mul_comm (be (sl d1)), Nat.mul_assoc]; exact Nat.dvd_mul_right _ _)
  have f3 := fr_of (x := be (sl a3)) (show be (sl d3) ∣ D by rw [hD]; exact Nat.dvd_mul_left _ _)
  rw [betw_N f1 f2 f3 p1 p2 p3 hD0, betw_N f3 f2 f1 p3 p2 p1 hD0]
  exact betwN_one (fun e => v12 ((fr_eq f1 f2 p1 p2 hD0).2 e)) (fun e => v23 ((fr_eq f2 f3 p2 p3 hD0).2 e)) (fun e => v13 ((fr_eq f1 f3 p1 p3 hD0).2 e))

/-- The law: turned on together they stand as they stood. -/
theorem round_on {n1 n2 n3 nb : Bool} {a1 d1 a2 d2 a3 d3 ab db s1 t1 s2 t2 s3 t3 : ByteArray} (h1 : okA n1 a1 d1 = true) (h2 : okA n2 a2 d2 = true) (h3 : okA n3 a3 d3 = true) (hb : okA nb ab db = true)
    (k1 : okA false s1 t1 = true) (k2 : okA false s2 t2 = true) (k3 : okA false s3 t3 = true)
    (q1 : ∀ A1 A2 D : Nat, 0 < D → be (sl a1) * D = A1 * be (sl d1) → be (sl ab) * D = A2 * be (sl db) → be (sl s1) * D = ((A1 + A2) % D) * be (sl t1))
    (q2 : ∀ A1 A2 D : Nat, 0 < D → be (sl a2) * D = A1 * be (sl d2) → be (sl ab) * D = A2 * be (sl db) → be (sl s2) * D = ((A1 + A2) % D) * be (sl t2))
    (q3 : ∀ A1 A2 D : Nat, 0 < D → be (sl a3) * D = A1 * be (sl d3) → be (sl ab) * D = A2 * be (sl db) → be (sl s3) * D = ((A1 + A2) % D) * be (sl t3)) :
    betw (be (sl s1)) (be (sl t1)) (be (sl s2)) (be (sl t2)) (be (sl s3)) (be (sl t3)) = betw (be (sl a1)) (be (sl d1)) (be (sl a2)) (be (sl d2)) (be (sl a3)) (be (sl d3)) := by
  have lt1 := (okA_spec h1).2.2.2.2.1
  have lt2 := (okA_spec h2).2.2.2.2.1
  have lt3 := (okA_spec h3).2.2.2.2.1
  have ltb := (okA_spec hb).2.2.2.2.1
  have r1 : 0 < be (sl t1) := by have := (okA_spec k1).2.2.2.2.1; omega
  have r2 : 0 < be (sl t2) := by have := (okA_spec k2).2.2.2.2.1; omega
  have r3 : 0 < be (sl t3) := by have := (okA_spec k3).2.2.2.2.1; omega
  have p1 : 0 < be (sl d1) := by omega
  have p2 : 0 < be (sl d2) := by omega
  have p3 : 0 < be (sl d3) := by omega
  have pb : 0 < be (sl db) := by omega
  obtain ⟨D, hD⟩ : ∃ D, D = be (sl d1) * be (sl d2) * be (sl d3) * be (sl db) := ⟨_, rfl⟩
  have hD0 : 0 < D := by rw [hD]; exact Nat.mul_pos (Nat.mul_pos (Nat.mul_pos p1 p2) p3) pb
  have dv1 : be (sl d1) ∣ D := by rw [hD, Nat.mul_assoc, Nat.mul_assoc]; exact Nat.dvd_mul_right _ _
  have dv2 : be (sl d2) ∣ D := by rw [hD, Nat.mul_comm (be (sl d1)), Nat.mul_assoc, Nat.mul_assoc]; exact Nat.dvd_mul_right _ _
  have dv3 : be (sl d3) ∣ D := by rw [hD, Nat.mul_right_comm]; exact Nat.dvd_mul_left _ _
  have dvb : be (sl db) ∣ D := by rw [hD]; exact Nat.dvd_mul_left _ _
  have f1 := fr_of (x := be (sl a1)) dv1
  have f2 := fr_of (x := be (sl a2)) dv2
  have f3 := fr_of (x := be (sl a3)) dv3
  have fb := fr_of (x := be (sl ab)) dvb
  have lt : ∀ {x y : Nat}, y ∣ D → x < y → x * (D / y) < D := fun {x y} hdv hxy => by
    have h0 : 0 < D / y := Nat.div_pos (Nat.le_of_dvd hD0 hdv) (by omega)
    have := Nat.mul_lt_mul_of_pos_right hxy h0
    rwa [Nat.mul_div_cancel' hdv] at this
  rw [betw_N (q1 _ _ D hD0 f1 fb) (q2 _ _ D hD0 f2 fb) (q3 _ _ D hD0 f3 fb) r1 r2 r3 hD0, betw_N f1 f2 f3 p1 p2 p3 hD0]
  exact betwN_on (lt dv1 lt1) (lt dv2 lt2) (lt dv3 lt3) (lt dvb ltb)
end Go.Proofs.YtoaggmegmgdgbaaGreat
