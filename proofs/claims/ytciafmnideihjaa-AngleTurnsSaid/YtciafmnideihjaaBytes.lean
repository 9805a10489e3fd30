/- Bytes, the highest first, and digits to the base 2^32: plain arithmetic. -/
import Derived.Test.YtciafmnideihjaaNum
namespace Go.Proofs.Ytciafmnideihjaa

/-- The number that bytes say, the highest first. -/
def be (l : List Nat) : Nat := l.foldl (fun a x => 256 * a + x) 0

theorem be_nil : be [] = 0 := rfl
theorem be_snoc (l : List Nat) (x : Nat) : be (l ++ [x]) = 256 * be l + x := by simp [be]
theorem be_take_succ {l : List Nat} {i x : Nat} (h : l[i]? = some x) : be (l.take (i + 1)) = 256 * be (l.take i) + x := by
  have hlt := lt_of_getElem? h
  have hx : l[i] = x := by rw [List.getElem?_eq_getElem hlt] at h; exact Option.some.inj h
  rw [List.take_succ_eq_append_getElem hlt, be_snoc, hx]

theorem digit_val {l : List Nat} (hl : Sm l) {j x : Nat} (h : l[j]? = some x) : x = val l / 4294967296 ^ j % 4294967296 := by
  rw [← val_drop hl, val_drop_cons h, Nat.add_mul_mod_self_left, Nat.mod_eq_of_lt (hl.get h)]

/-- A byte laid at place k: its digit, its shift. -/
theorem byte_place {D : List Nat} (hD : Sm D) {V k c y : Nat} (hv : val D = V * 256 ^ (k + 1)) (hc : c < 256) (hy : D[k / 4]? = some y) :
    c * 2 ^ (k % 4 * 8) < 4294967296 ∧ (y ||| c * 2 ^ (k % 4 * 8)) = y + c * 2 ^ (k % 4 * 8) ∧ y + c * 2 ^ (k % 4 * 8) < 4294967296 ∧
      val (D.set (k / 4) (y + c * 2 ^ (k % 4 * 8))) = (256 * V + c) * 256 ^ k := by
  have e256 : (256 : Nat) = 2 ^ 8 := rfl
  have eB : (4294967296 : Nat) = 2 ^ 32 := rfl
  obtain ⟨q, hq⟩ : ∃ q, q = k / 4 := ⟨_, rfl⟩
  obtain ⟨r, hr⟩ : ∃ r, r = k % 4 := ⟨_, rfl⟩
  have hk : k = 4 * q + r := by omega
  have hr4 : r < 4 := by omega
  rw [← hq] at hy ⊢
  rw [← hr]
  have hyd := digit_val hD hy
  have hpow : 256 ^ (k + 1) = 4294967296 ^ q * 2 ^ (8 * r + 8) := by
    rw [e256, eB, ← Nat.pow_mul, ← Nat.pow_mul, ← Nat.pow_add]
    congr 1
    omega
  have hpow2 : 256 ^ k = 4294967296 ^ q * 2 ^ (8 * r) := by
    rw [e256, eB, ← Nat.pow_mul, ← Nat.pow_mul, ← Nat.pow_add]
    congr 1
    omega
  have hB0 : 0 < 4294967296 ^ q := Nat.pow_pos (by omega)
  have hdiv : val D / 4294967296 ^ q = V * 2 ^ (8 * r + 8) := by
    rw [hv, hpow, Nat.mul_comm (4294967296 ^ q), ← Nat.mul_assoc, Nat.mul_div_cancel _ hB0]
  rw [hdiv] at hyd
  have hsplit : 2 ^ (8 * r + 8) * 2 ^ (24 - 8 * r) = 4294967296 := by rw [← Nat.pow_add, show 8 * r + 8 + (24 - 8 * r) = 32 by omega]
  have hym : y = 2 ^ (8 * r + 8) * (V % 2 ^ (24 - 8 * r)) := by
    rw [hyd, ← hsplit, Nat.mul_comm V, Nat.mul_mod_mul_left]
  have hcl : c * 2 ^ (r * 8) < 2 ^ (8 * r + 8) := by
    rw [show r * 8 = 8 * r by omega, Nat.pow_add, Nat.mul_comm]
    exact Nat.mul_lt_mul_of_pos_left (by rw [← e256]; exact hc) (Nat.two_pow_pos _)
  have hle : 2 ^ (8 * r + 8) ≤ 4294967296 := by
    rw [eB]; exact Nat.pow_le_pow_right (by omega) (by omega)
  have hor : (y ||| c * 2 ^ (r * 8)) = y + c * 2 ^ (r * 8) := by
    rw [hym]
    exact (Nat.two_pow_add_eq_or_of_lt hcl _).symm
  have hsum : y + c * 2 ^ (r * 8) < 4294967296 := by
    have h1 : V % 2 ^ (24 - 8 * r) + 1 ≤ 2 ^ (24 - 8 * r) := Nat.mod_lt _ (Nat.two_pow_pos _)
    have h2 := Nat.mul_le_mul_left (2 ^ (8 * r + 8)) h1
    rw [hsplit, Nat.mul_add, Nat.mul_one, ← hym] at h2
    omega
  refine ⟨by omega, hor, hsum, ?_⟩
  have e := val_set (y + c * 2 ^ (r * 8)) hy
  rw [Nat.mul_add, hv] at e
  have e2 : V * 256 ^ (k + 1) = 256 * V * 256 ^ k := by rw [Nat.pow_succ]; ac_rfl
  have e3 : 4294967296 ^ q * (c * 2 ^ (r * 8)) = c * 256 ^ k := by
    rw [hpow2, show r * 8 = 8 * r by omega]; ac_rfl
  rw [Nat.add_mul]
  omega
end Go.Proofs.Ytciafmnideihjaa
