/- AngleCounts: the plain law: sums of counts; all angles of a period rise, and are all. -/
import Derived.Test.YtbddlbhanpjdnaaGreatDoorCntA
import Derived.Test.YtbddlbhanpjdnaaGreatDoorBackP
namespace Go.Proofs.YtbddlbhanpjdnaaGreatDoor
open Go.RowKit

def sumN (d n : Nat) : Nat → Nat
  | 0 => 0
  | k + 1 => sumN d n k + if n % (k + 1) = 0 then cntN d (k + 1) else 0
theorem sumN_eq {d n : Nat} (hd : 2 ≤ d) : ∀ j, j ≤ 1024 → (sumN d n j : Int) = dsum n (cntZ d) j
  | 0, _ => rfl
  | j + 1, h => by
    have ih := sumN_eq (n := n) hd j (by omega)
    unfold dsum at ih ⊢
    rw [sumN, rsum, ← ih, cntN_eq hd (by omega) h]
    split <;> simp
theorem sumN_all {d n : Nat} (hd : 2 ≤ d) (h1 : 1 ≤ n) (h2 : n ≤ 1024) : sumN d n n = d ^ n - 1 := by
  have e := sumN_eq (n := n) hd n h2
  rw [cnt_sum h1 h2, pow_cast] at e
  have := one_le_dpow (k := n) hd
  omega
theorem sumN_mono {d n j : Nat} : ∀ t, sumN d n j ≤ sumN d n (j + t)
  | 0 => Nat.le_refl _
  | t + 1 => by rw [← Nat.add_assoc, sumN]; exact Nat.le_trans (sumN_mono t) (Nat.le_add_right _ _)
theorem sumN_le {d n j : Nat} (hd : 2 ≤ d) (h1 : 1 ≤ n) (h2 : n ≤ 1024) (hj : j ≤ n) : sumN d n j ≤ d ^ n - 1 := by
  rw [← sumN_all hd h1 h2]
  obtain ⟨t, rfl⟩ : ∃ t, n = j + t := ⟨n - j, by omega⟩
  exact sumN_mono t

theorem coprime_less {D d n : Nat} (h1 : 1 ≤ n) (hd : 1 ≤ d) (h : D ∣ d ^ n - 1) : Nat.gcd D d = 1 := by
  obtain ⟨g, hg⟩ : ∃ g, g = Nat.gcd D d := ⟨_, rfl⟩
  have g1 : g ∣ d ^ n - 1 := Nat.dvd_trans (by rw [hg]; exact Nat.gcd_dvd_left _ _) h
  have g2 : g ∣ d ^ n := by
    obtain ⟨m, rfl⟩ : ∃ m, n = m + 1 := ⟨n - 1, by omega⟩
    rw [Nat.pow_succ]
    exact Nat.dvd_trans (by rw [hg]; exact Nat.gcd_dvd_right _ _) (Nat.dvd_mul_left _ _)
  have e : d ^ n = (d ^ n - 1) + 1 := by have := one_pow (d := d) (k := n) hd; omega
  rw [e] at g2
  rw [← hg]
  exact Nat.dvd_one.1 ((Nat.dvd_add_right g1).1 g2)
theorem kind_zero {D d : Nat} (h : Nat.gcd D d = 1) : (kindN D d).1 = 0 := by unfold kindN; rw [kindF_end h]

theorem allL_mem {d n : Nat} (hd : 2 ≤ d) (h1 : 1 ≤ n) (hlit : d ^ n < 2147483648) {p : Nat × Nat} (h : p ∈ allL d n) :
    Nat.gcd p.1 p.2 = 1 ∧ p.1 < p.2 ∧ p.2 ≤ 2147483647 ∧ kindN p.2 d = (0, n) := by
  unfold allL allP at h
  rw [List.mem_filter, decide_eq_true_eq] at h
  obtain ⟨hm, hk⟩ := h
  obtain ⟨j, hj, rfl⟩ := List.mem_map.1 hm
  have hj := List.mem_range.1 hj
  obtain ⟨f1, f2, f3⟩ := rd_facts (by omega) hj
  have hdv : (rd j (d ^ n - 1)).2 ∣ d ^ n - 1 := Nat.div_dvd_of_dvd (Nat.gcd_dvd_right _ _)
  refine ⟨f1, f2, by omega, ?_⟩
  have h0 := kind_zero (coprime_less h1 (by omega) hdv)
  exact Prod.ext h0 hk

theorem rd_rise {i j Y : Nat} (hY : 0 < Y) (h : i < j) : (rd i Y).1 * (rd j Y).2 < (rd j Y).1 * (rd i Y).2 := by
  unfold rd
  simp only
  obtain ⟨g, hg⟩ : ∃ g, g = Nat.gcd i Y := ⟨_, rfl⟩
  obtain ⟨g', hg'⟩ : ∃ g, g = Nat.gcd j Y := ⟨_, rfl⟩
  have g0 : 0 < g := by rw [hg]; exact Nat.gcd_pos_of_pos_right _ hY
  have g0' : 0 < g' := by rw [hg']; exact Nat.gcd_pos_of_pos_right _ hY
  have e1 : g * (i / g) = i := Nat.mul_div_cancel' (by rw [hg]; exact Nat.gcd_dvd_left _ _)
  have e2 : g * (Y / g) = Y := Nat.mul_div_cancel' (by rw [hg]; exact Nat.gcd_dvd_right _ _)
  have e3 : g' * (j / g') = j := Nat.mul_div_cancel' (by rw [hg']; exact Nat.gcd_dvd_left _ _)
  have e4 : g' * (Y / g') = Y := Nat.mul_div_cancel' (by rw [hg']; exact Nat.gcd_dvd_right _ _)
  rw [← hg, ← hg']
  generalize i / g = a at *
  generalize Y / g = b at *
  generalize j / g' = c at *
  generalize Y / g' = e at *
  have h1 : i * Y < j * Y := Nat.mul_lt_mul_of_pos_right h hY
  have h2 : i * Y = g * g' * (a * e) := by
    conv => lhs; rw [← e1, ← e4]
    rw [Nat.mul_mul_mul_comm]
  have h3 : j * Y = g * g' * (c * b) := by
    conv => lhs; rw [← e3, ← e2]
    rw [Nat.mul_mul_mul_comm, Nat.mul_comm g' g]
  rw [h2, h3] at h1
  exact Nat.lt_of_mul_lt_mul_left h1

theorem lt_of_getElem?P {α : Type} {l : List α} {j : Nat} {x : α} (h : l[j]? = some x) : j < l.length := (List.getElem?_eq_some_iff.1 h).1
theorem allL_rise {d n i j : Nat} (hd : 2 ≤ d) (h1 : 1 ≤ n) {p q : Nat × Nat} (hi : (allL d n)[i]? = some p) (hj : (allL d n)[j]? = some q) (h : i < j) : p.1 * q.2 < q.1 * p.2 := by
  have hY : 0 < d ^ n - 1 := by
    have h2 := Nat.pow_le_pow_right (show 0 < d by omega) h1
    rw [Nat.pow_one] at h2
    omega
  have hp : (allL d n).Pairwise (fun p q => p.1 * q.2 < q.1 * p.2) := by
    unfold allL allP
    refine List.Pairwise.filter _ ?_
    exact List.Pairwise.map _ (fun a b hab => rd_rise hY hab) List.pairwise_lt_range
  have hli := lt_of_getElem?P hi
  have hlj := lt_of_getElem?P hj
  have := List.pairwise_iff_getElem.1 hp i j hli hlj h
  rw [List.getElem?_eq_getElem hli] at hi
  rw [List.getElem?_eq_getElem hlj] at hj
  rwa [Option.some.inj hi, Option.some.inj hj] at this

theorem allL_among {d n x y : Nat} (hd : 2 ≤ d) (h1 : 1 ≤ n) (hy : 0 < y) (hc : Nat.gcd x y = 1) (hxy : x < y) (hk : kindN y d = (0, n)) : (x, y) ∈ allL d n := by
  have hf := (kind_facts (d := d) (by omega) y hy).2.1
  rw [hk] at hf
  simp only [Nat.pow_zero, Nat.one_mul] at hf
  obtain ⟨q, hq⟩ := hf
  have hY : 0 < d ^ n - 1 := by
    have h2 := Nat.pow_le_pow_right (show 0 < d by omega) h1
    rw [Nat.pow_one] at h2
    omega
  have hq0 : 0 < q := by
    rcases Nat.eq_zero_or_pos q with h | h
    · rw [h, Nat.mul_zero] at hq; omega
    · exact h
  have hrd : rd (q * x) (d ^ n - 1) = (x, y) := by rw [hq, Nat.mul_comm y q, rd_scale hq0, rd_self hc]
  unfold allL allP
  rw [List.mem_filter, decide_eq_true_eq]
  refine ⟨List.mem_map.2 ⟨q * x, List.mem_range.2 ?_, hrd⟩, by rw [hk]⟩
  rw [hq, Nat.mul_comm y q]
  exact Nat.mul_lt_mul_of_pos_left hxy hq0
end Go.Proofs.YtbddlbhanpjdnaaGreatDoor
