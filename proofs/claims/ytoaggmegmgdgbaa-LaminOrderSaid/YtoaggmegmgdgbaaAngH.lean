/- The primes of a number, by trial division: plain functions as the Go text reckons them. · Package angle: factor.times, factors. · The order of a number and the kind of an angle, as the Go text reckons them: plain functions. · Package angle: order. · Package angle: kind, Kind. · Package angle: Kind. -/
import Derived.Test.YtoaggmegmgdgbaaAngA
import Derived.Deep.LoopGhost
import Derived.Deep.RegionHeld3
import Derived.Deep.CutBlock
import Derived.WalkMore
namespace Go.Proofs.Ytoaggmegmgdgbaa

/-- p is taken out of n as often as it goes: what is left, how often. -/
def stripF : Nat → Nat → Nat → Nat → Nat × Nat
  | 0, n, _, c => (n, c)
  | f + 1, n, p, c => if n % p = 0 then stripF f (n / p) p (c + 1) else (n, c)
def strip (n p : Nat) : Nat × Nat := stripF n n p 0

/-- From p on. -/
def facF : Nat → Nat → Nat → List (Nat × Nat)
  | 0, n, _ => if 1 < n then [(n, 1)] else []
  | f + 1, n, p =>
    if p * p ≤ n then (if 0 < (strip n p).2 then [(p, (strip n p).2)] else []) ++ facF f (strip n p).1 (p + 1)
    else if 1 < n then [(n, 1)] else []
/-- The primes of n, and how often each stands in it. -/
def factorsL (n : Nat) : List (Nat × Nat) := facF n n 2

theorem stripF_spec : ∀ (f n p c : Nat), 2 ≤ p → 0 < n → n ≤ f → (stripF f n p c).2 ≥ c ∧ (stripF f n p c).1 * p ^ ((stripF f n p c).2 - c) = n ∧ (stripF f n p c).1 % p ≠ 0 ∧ 0 < (stripF f n p c).1 := by
  intro f
  induction f with
  | zero => intro n p c _ h0 hf; omega
  | succ f ih =>
    intro n p c hp h0 hf
    simp only [stripF]
    split
    · rename_i hm
      have hd := Nat.div_add_mod n p
      rw [hm, Nat.add_zero] at hd
      have hq0 : 0 < n / p := by
        rcases Nat.eq_zero_or_pos (n / p) with h | h
        · rw [h, Nat.mul_zero] at hd; omega
        · exact h
      have hlt : n / p < n := Nat.div_lt_self h0 hp
      obtain ⟨h1, h2, h3, h4⟩ := ih (n / p) p (c + 1) hp hq0 (by omega)
      refine ⟨by omega, ?_, h3, h4⟩
      have e : (stripF f (n / p) p (c + 1)).2 - c = (stripF f (n / p) p (c + 1)).2 - (c + 1) + 1 := by omega
      rw [e, Nat.pow_succ, ← Nat.mul_assoc, h2, Nat.mul_comm]
      exact hd
    · rename_i hm
      refine ⟨Nat.le_refl _, by simp, hm, h0⟩

theorem strip_spec {n p : Nat} (hp : 2 ≤ p) (h0 : 0 < n) : (strip n p).1 * p ^ (strip n p).2 = n ∧ (strip n p).1 % p ≠ 0 ∧ 0 < (strip n p).1 := by
  have := stripF_spec n n p 0 hp h0 (Nat.le_refl _)
  exact ⟨this.2.1, this.2.2⟩

theorem strip_le {n p : Nat} (hp : 2 ≤ p) (h0 : 0 < n) : (strip n p).1 ≤ n := by
  obtain ⟨h1, -, h3⟩ := strip_spec hp h0
  have : 1 ≤ p ^ (strip n p).2 := Nat.pow_pos (by omega)
  have := Nat.mul_le_mul_left (strip n p).1 this
  omega

/-- One more step of the taking out. -/
theorem stripF_step {f n p c : Nat} (h : n % p = 0) : stripF (f + 1) n p c = stripF f (n / p) p (c + 1) := by simp [stripF, h]
theorem stripF_stop {f n p c : Nat} (h : n % p ≠ 0) : stripF f n p c = (n, c) := by cases f <;> simp [stripF, h]

theorem facF_go {f n p : Nat} (h : p * p ≤ n) : facF (f + 1) n p = (if 0 < (strip n p).2 then [(p, (strip n p).2)] else []) ++ facF f (strip n p).1 (p + 1) := by simp [facF, h]
theorem facF_end {f n p : Nat} (h : ¬ p * p ≤ n) : facF f n p = if 1 < n then [(n, 1)] else [] := by cases f <;> simp [facF, h]

theorem stripF_count : ∀ (f n p c : Nat), (stripF f n p c).2 ≤ f + c := by
  intro f
  induction f with
  | zero => intro n p c; simp [stripF]
  | succ f ih =>
    intro n p c
    simp only [stripF]
    split
    · have := ih (n / p) p (c + 1); omega
    · simp

/-- The list is not longer than the number. -/
theorem facF_len : ∀ (f n p : Nat), (facF f n p).length ≤ f + 1 := by
  intro f
  induction f with
  | zero => intro n p; simp only [facF]; split <;> simp
  | succ f ih =>
    intro n p
    simp only [facF]
    split
    · rw [List.length_append]
      have := ih (strip n p).1 (p + 1)
      split <;> simp <;> omega
    · split <;> simp
end Go.Proofs.Ytoaggmegmgdgbaa

namespace Go.Proofs.Ytoaggmegmgdgbaa
open Go.RowKit

/-- The prime to a power, under a name. -/
def powV (p n : Nat) : Value := .int .u64 ((p ^ n : Nat) : Int)

/-- Factors as cells. -/
def facC (L : List (Nat × Nat)) : List Value := L.flatMap fun x => [.int .u64 (x.1 : Int), .int .i64 (x.2 : Int)]
theorem facC_snoc (L : List (Nat × Nat)) (p c : Nat) : facC (L ++ [(p, c)]) = facC L ++ [.int .u64 (p : Int), .int .i64 (c : Int)] := by simp [facC]
theorem facC_len (L : List (Nat × Nat)) : (facC L).length = L.length * 2 := by
  induction L with
  | nil => rfl
  | cons x L ih =>
    have : facC (x :: L) = [.int .u64 (x.1 : Int), .int .i64 (x.2 : Int)] ++ facC L := by simp [facC]
    rw [this, List.length_append, ih]
    simp
    omega

end Go.Proofs.Ytoaggmegmgdgbaa

namespace Go.Proofs.Ytoaggmegmgdgbaa

/-- Each prime at least 2, each at least once. -/
def Good (M : List (Nat × Nat)) : Prop := ∀ x ∈ M, 2 ≤ x.1 ∧ 1 ≤ x.2
/-- What the list multiplies to. -/
def prodL : List (Nat × Nat) → Nat
  | [] => 1
  | x :: M => x.1 ^ x.2 * prodL M
/-- Euler's number, off the primes. -/
def phiA : Nat → List (Nat × Nat) → Nat
  | f, [] => f
  | f, x :: M => phiA (f * (x.1 ^ (x.2 - 1) * (x.1 - 1))) M
/-- One prime is taken out as long as the power stays 1. -/
def ordP (d n p : Nat) : Nat → Nat → Nat
  | 0, l => l
  | k + 1, l => if d ^ (l / p) % n = 1 then ordP d n p k (l / p) else l
def ordA (d n : Nat) : Nat → List (Nat × Nat) → Nat
  | l, [] => l
  | l, x :: M => ordA d n (ordP d n x.1 x.2 l) M
def phiN (n : Nat) : Nat := phiA 1 (factorsL n)
def ordG (n d : Nat) : Nat := if n = 1 then 1 else ordA d n (phiN n) (factorsL (phiN n))
def kindF : Nat → Nat → Nat → Nat → Nat × Nat
  | 0, n, d, c => (c, ordG n d)
  | f + 1, n, d, c => if Nat.gcd n d = 1 then (c, ordG n d) else kindF f (n / Nat.gcd n d) d (c + 1)
/-- The kind: how many turns ahead of the period, how long the period. -/
def kindN (n d : Nat) : Nat × Nat := kindF n n d 0

theorem Good.nil : Good [] := by simp [Good]
theorem Good.cons {p c : Nat} {M : List (Nat × Nat)} (hp : 2 ≤ p) (hc : 1 ≤ c) (h : Good M) : Good ((p, c) :: M) := by
  intro x hx
  rcases List.mem_cons.1 hx with rfl | hx
  · exact ⟨hp, hc⟩
  · exact h x hx
theorem Good.head {p c : Nat} {M : List (Nat × Nat)} (h : Good ((p, c) :: M)) : 2 ≤ p ∧ 1 ≤ c := h (p, c) (by simp)
theorem Good.tail {x : Nat × Nat} {M : List (Nat × Nat)} (h : Good (x :: M)) : Good M := fun y hy => h y (List.mem_cons_of_mem _ hy)

theorem facF_good : ∀ (f n p : Nat), 2 ≤ p → 0 < n → Good (facF f n p) ∧ prodL (facF f n p) = n := by
  have hend : ∀ n : Nat, 0 < n → Good (if 1 < n then [(n, 1)] else []) ∧ prodL (if 1 < n then [(n, 1)] else []) = n := by
    intro n h0
    split
    · exact ⟨Good.cons (by omega) (Nat.le_refl _) Good.nil, by simp [prodL]⟩
    · exact ⟨Good.nil, by simp [prodL]; omega⟩
  intro f
  induction f with
  | zero => intro n p _ h0; simp only [facF]; exact hend n h0
  | succ f ih =>
    intro n p hp h0
    simp only [facF]
    split
    · obtain ⟨h1, -, h3⟩ := strip_spec hp h0
      obtain ⟨g1, g2⟩ := ih (strip n p).1 (p + 1) (by omega) h3
      split
      · rename_i hc
        rw [List.singleton_append]
        refine ⟨Good.cons hp hc g1, ?_⟩
        simp only [prodL]
        rw [g2, Nat.mul_comm]
        exact h1
      · rename_i hc
        rw [List.nil_append]
        refine ⟨g1, ?_⟩
        rw [g2]
        have e : (strip n p).2 = 0 := by omega
        rw [e] at h1
        simpa using h1
    · exact hend n h0

theorem factorsL_good {n : Nat} (h0 : 0 < n) : Good (factorsL n) ∧ prodL (factorsL n) = n := facF_good n n 2 (Nat.le_refl _) h0

theorem prodL_pos : ∀ (M : List (Nat × Nat)), Good M → 0 < prodL M := by
  intro M
  induction M with
  | nil => intro _; simp [prodL]
  | cons x M ih =>
    intro h
    simp only [prodL]
    exact Nat.mul_pos (Nat.pow_pos (by have := (h x (by simp)).1; omega)) (ih h.tail)

theorem step_le {p c : Nat} (hp : 2 ≤ p) (hc : 1 ≤ c) : 0 < p ^ (c - 1) * (p - 1) ∧ p ^ (c - 1) * (p - 1) ≤ p ^ c := by
  obtain ⟨k, rfl⟩ : ∃ k, c = k + 1 := ⟨c - 1, by omega⟩
  rw [Nat.add_sub_cancel, Nat.pow_succ]
  exact ⟨Nat.mul_pos (Nat.pow_pos (by omega)) (by omega), Nat.mul_le_mul_left _ (by omega)⟩

theorem phiA_le : ∀ (M : List (Nat × Nat)) (f : Nat), Good M → 0 < f → 0 < phiA f M ∧ phiA f M ≤ f * prodL M := by
  intro M
  induction M with
  | nil => intro f _ h; simp [phiA, prodL, h]
  | cons x M ih =>
    intro f h h0
    obtain ⟨hp, hc⟩ := h x (by simp)
    obtain ⟨s1, s2⟩ := step_le hp hc
    simp only [phiA, prodL]
    obtain ⟨i1, i2⟩ := ih (f * (x.1 ^ (x.2 - 1) * (x.1 - 1))) h.tail (Nat.mul_pos h0 s1)
    refine ⟨i1, Nat.le_trans i2 ?_⟩
    rw [← Nat.mul_assoc f (x.1 ^ x.2)]
    exact Nat.mul_le_mul_right _ (Nat.mul_le_mul_left _ s2)

theorem phiN_le {n : Nat} (h0 : 0 < n) : 0 < phiN n ∧ phiN n ≤ n := by
  obtain ⟨g, e⟩ := factorsL_good h0
  have := phiA_le (factorsL n) 1 g (by omega)
  rw [e, Nat.one_mul] at this
  exact this

theorem ordP_spec {d n p : Nat} (hp : 2 ≤ p) : ∀ (k l R : Nat), 0 < l → R * p ^ k ∣ l → R ∣ ordP d n p k l ∧ 0 < ordP d n p k l ∧ ordP d n p k l ≤ l := by
  intro k
  induction k with
  | zero => intro l R h0 hd; simp [ordP]; exact ⟨by simpa using hd, h0⟩
  | succ k ih =>
    intro l R h0 hd
    simp only [ordP]
    split
    · obtain ⟨q, rfl⟩ := hd
      have e : R * p ^ (k + 1) * q / p = R * p ^ k * q := by
        rw [Nat.pow_succ, show R * (p ^ k * p) * q = p * (R * p ^ k * q) by simp only [Nat.mul_comm, Nat.mul_left_comm]]
        exact Nat.mul_div_cancel_left _ (by omega)
      have h1 : 0 < R * p ^ (k + 1) * q / p := by
        rw [e]
        rcases Nat.eq_zero_or_pos (R * p ^ k * q) with h | h
        · exfalso
          have : R * p ^ (k + 1) * q = p * (R * p ^ k * q) := by
            rw [Nat.pow_succ]; simp only [Nat.mul_comm, Nat.mul_left_comm]
          rw [h, Nat.mul_zero] at this
          omega
        · exact h
      obtain ⟨a, b, c⟩ := ih (R * p ^ (k + 1) * q / p) R h1 (by rw [e]; exact Nat.dvd_mul_right _ _)
      exact ⟨a, b, Nat.le_trans c (Nat.div_le_self _ _)⟩
    · exact ⟨Nat.dvd_trans (Nat.dvd_mul_right _ _) hd, h0, Nat.le_refl _⟩

theorem ordA_spec {d n : Nat} : ∀ (M : List (Nat × Nat)) (l : Nat), Good M → 0 < l → prodL M ∣ l → 0 < ordA d n l M ∧ ordA d n l M ≤ l := by
  intro M
  induction M with
  | nil => intro l _ h0 _; exact ⟨h0, Nat.le_refl _⟩
  | cons x M ih =>
    intro l h h0 hd
    obtain ⟨hp, -⟩ := h x (by simp)
    simp only [prodL] at hd
    obtain ⟨a, b, c⟩ := ordP_spec (d := d) (n := n) hp x.2 l (prodL M) h0 (by rw [Nat.mul_comm]; exact hd)
    obtain ⟨i1, i2⟩ := ih (ordP d n x.1 x.2 l) h.tail b a
    exact ⟨i1, Nat.le_trans i2 c⟩

theorem ordG_le {n d : Nat} (h0 : 0 < n) : 0 < ordG n d ∧ ordG n d ≤ n := by
  unfold ordG
  split
  · omega
  · obtain ⟨h1, h2⟩ := phiN_le h0
    obtain ⟨g, e⟩ := factorsL_good h1
    obtain ⟨a, b⟩ := ordA_spec (d := d) (n := n) (factorsL (phiN n)) (phiN n) g h1 (by rw [e]; exact Nat.dvd_refl _)
    exact ⟨a, Nat.le_trans b h2⟩

theorem kindF_go {f n d c : Nat} (h : Nat.gcd n d ≠ 1) : kindF (f + 1) n d c = kindF f (n / Nat.gcd n d) d (c + 1) := by simp [kindF, h]
theorem kindF_end {f n d c : Nat} (h : Nat.gcd n d = 1) : kindF f n d c = (c, ordG n d) := by cases f <;> simp [kindF, h]
theorem ordP_go {d n p k l : Nat} (h : d ^ (l / p) % n = 1) : ordP d n p (k + 1) l = ordP d n p k (l / p) := by simp [ordP, h]
theorem ordP_end {d n p k l : Nat} (h : d ^ (l / p) % n ≠ 1) : ordP d n p k l = l := by cases k <;> simp [ordP, h]
end Go.Proofs.Ytoaggmegmgdgbaa

namespace Go.Proofs.Ytoaggmegmgdgbaa
open Go.RowKit

theorem facC_cons (p c : Nat) (M : List (Nat × Nat)) : facC ((p, c) :: M) = [.int .u64 (p : Int), .int .i64 (c : Int)] ++ facC M := by simp [facC]
theorem facC_app (P M : List (Nat × Nat)) : facC (P ++ M) = facC P ++ facC M := by simp [facC]
theorem facC_at {P M : List (Nat × Nat)} {p c k : Nat} (hk : P.length = k) : (facC (P ++ (p, c) :: M))[k * 2]? = some (.int .u64 (p : Int)) ∧ (facC (P ++ (p, c) :: M))[k * 2 + 1]? = some (.int .i64 (c : Int)) := by
  rw [facC_app, facC_cons, ← hk]
  constructor
  · rw [List.getElem?_append_right (by rw [facC_len]; omega), facC_len]; simp
  · rw [List.getElem?_append_right (by rw [facC_len]; omega), facC_len]; simp

end Go.Proofs.Ytoaggmegmgdgbaa

namespace Go.Proofs.Ytoaggmegmgdgbaa
open Go.RowKit

end Go.Proofs.Ytoaggmegmgdgbaa

namespace Go.Proofs.Ytoaggmegmgdgbaa
open Go.RowKit

/-- What Kind tells. -/
def kindV (neg : Bool) (num den : ByteArray) (d : Int) : Value :=
  if okA neg num den then
    if roundB d then .tuple #[.int .i64 ((kindN (be (sl den)) d.toNat).1 : Int), .int .i64 ((kindN (be (sl den)) d.toNat).2 : Int), .int .i64 0]
    else .tuple #[.int .i64 0, .int .i64 0, .int .i64 2]
  else .tuple #[.int .i64 0, .int .i64 0, .int .i64 210]

end Go.Proofs.Ytoaggmegmgdgbaa
