/- wide.digits: plus, less, times. -/
import Derived.Test.YtbddlbhanpjdnaaDoorBig
namespace Go.Proofs.YtbddlbhanpjdnaaDoor
open Go.RowKit

/-- After k digits of a sum: what is written, and the carry. -/
structure PlInv (la lb : List Nat) (k c : Nat) (O : List Nat) : Prop where
  len : O.length = la.length + 1
  sm : Sm O
  value : val (O.take k) + 4294967296 ^ k * c = val (la.take k) + val (lb.take k)
  carry : c ≤ 1
theorem PlInv.start (la lb : List Nat) : PlInv la lb 0 0 (List.replicate (la.length + 1) 0) := ⟨by simp, sm_replicate _, by simp [val], by omega⟩
theorem val_take_set {O : List Nat} {k d : Nat} (hk : k < O.length) : val ((O.set k d).take (k + 1)) = val (O.take k) + 4294967296 ^ k * d := by
  have e1 := val_take_succ (l := O.set k d) (j := k) (x := d) (by rw [List.getElem?_set_self hk])
  rw [List.take_set_of_le (Nat.le_refl _)] at e1
  exact e1
theorem split_mul (B S T : Nat) : B * (S % 4294967296) + B * 4294967296 * (S / 4294967296) + T = B * S + T := by
  rw [Nat.mul_assoc, ← Nat.mul_add, Nat.mod_add_div]
theorem PlInv.step {la lb : List Nat} {k c x y : Nat} {O : List Nat} (h : PlInv la lb k c O) (hx : la[k]? = some x) (hy : lb[k]? = some y ∨ (lb.length ≤ k ∧ y = 0)) (hxs : x < 4294967296) (hys : y < 4294967296) :
    PlInv la lb (k + 1) ((c + x + y) / 4294967296) (O.set k ((c + x + y) % 4294967296)) := by
  have hk := lt_of_getElem? hx
  have hc := h.carry
  have ev := h.value
  have e2 := val_take_succ hx
  have e3 : val (lb.take (k + 1)) = val (lb.take k) + 4294967296 ^ k * y := by
    rcases hy with hy | ⟨hy, rfl⟩
    · exact val_take_succ hy
    · rw [List.take_of_length_le (by omega), List.take_of_length_le hy]; simp
  refine ⟨by simp [h.len], h.sm.set_ (Nat.mod_lt _ (by omega)), ?_, by omega⟩
  rw [val_take_set (by rw [h.len]; omega), e2, e3, Nat.pow_succ]
  generalize 4294967296 ^ k = B at *
  have e4 := split_mul B (c + x + y) (val (O.take k))
  have e5 : B * (c + x + y) = B * c + B * x + B * y := by rw [Nat.mul_add, Nat.mul_add]
  omega
theorem PlInv.done {la lb : List Nat} {c : Nat} {O : List Nat} (h : PlInv la lb la.length c O) (hl : lb.length ≤ la.length) : Sm (O.set la.length c) ∧ (O.set la.length c).length = la.length + 1 ∧ val (O.set la.length c) = val la + val lb := by
  refine ⟨h.sm.set_ (by have := h.carry; omega), by simp [h.len], ?_⟩
  have e1 := val_take_set (O := O) (k := la.length) (d := c) (by rw [h.len]; omega)
  rw [List.take_of_length_le (by simp [h.len])] at e1
  rw [e1, h.value, List.take_length, List.take_of_length_le hl]

/-- After k digits of a difference: what is written, and the borrow. -/
structure LsInv (la lb : List Nat) (k c : Nat) (O : List Nat) : Prop where
  len : O.length = la.length
  sm : Sm O
  value : val (O.take k) + val (lb.take k) = val (la.take k) + 4294967296 ^ k * c
  carry : c ≤ 1
theorem LsInv.start (la lb : List Nat) : LsInv la lb 0 0 (List.replicate la.length 0) := ⟨by simp, sm_replicate _, by simp [val], by omega⟩
theorem LsInv.step {la lb : List Nat} {k c x y d c' : Nat} {O : List Nat} (h : LsInv la lb k c O) (hx : la[k]? = some x) (hy : lb[k]? = some y ∨ (lb.length ≤ k ∧ y = 0)) (hd : d < 4294967296) (hc' : c' ≤ 1) (he : d + c + y = x + 4294967296 * c') :
    LsInv la lb (k + 1) c' (O.set k d) := by
  have hk := lt_of_getElem? hx
  have ev := h.value
  have e2 := val_take_succ hx
  have e3 : val (lb.take (k + 1)) = val (lb.take k) + 4294967296 ^ k * y := by
    rcases hy with hy | ⟨hy, rfl⟩
    · exact val_take_succ hy
    · rw [List.take_of_length_le (by omega), List.take_of_length_le hy]; simp
  refine ⟨by simp [h.len], h.sm.set_ hd, ?_, hc'⟩
  rw [val_take_set (by rw [h.len]; omega), e2, e3, Nat.pow_succ]
  generalize 4294967296 ^ k = B at *
  have e4 : B * (d + c + y) = B * (x + 4294967296 * c') := by rw [he]
  rw [Nat.mul_add, Nat.mul_add, Nat.mul_add, ← Nat.mul_assoc] at e4
  omega
theorem LsInv.done {la lb : List Nat} {c : Nat} {O : List Nat} (h : LsInv la lb la.length c O) (hl : lb.length ≤ la.length) (hle : val lb ≤ val la) : val O = val la - val lb := by
  have ev := h.value
  rw [List.take_length, List.take_of_length_le hl, List.take_of_length_le (by rw [h.len]; exact Nat.le_refl _)] at ev
  have hlt := val_lt h.sm
  rw [h.len] at hlt
  have hc := h.carry
  rcases Nat.eq_zero_or_pos c with h0 | h0
  · rw [h0] at ev; omega
  · rw [show c = 1 by omega, Nat.mul_one] at ev
    omega

/-- Between the rounds of a product's row. -/
structure TmInv (la lb : List Nat) (i : Nat) (O : List Nat) : Prop where
  len : O.length = la.length + lb.length
  sm : Sm O
  value : val O = val (la.take i) * val lb
  zero : ∀ j, i + lb.length ≤ j → j < O.length → O[j]? = some 0
theorem TmInv.start (la lb : List Nat) : TmInv la lb 0 (List.replicate (la.length + lb.length) 0) :=
  ⟨by simp, sm_replicate _, by rw [val_replicate]; simp [val], fun j _ h => by rw [List.getElem?_replicate]; simp at h; simp [h]⟩
/-- Inside such a row. -/
structure TrInv (O0 lb : List Nat) (i x k c : Nat) (O : List Nat) : Prop where
  len : O.length = O0.length
  sm : Sm O
  value : val O + 4294967296 ^ (i + k) * c = val O0 + 4294967296 ^ i * (x * val (lb.take k))
  zero : ∀ j, i + lb.length ≤ j → O[j]? = O0[j]?
  carry : c < 4294967296
theorem TrInv.start {O0 lb : List Nat} {i x : Nat} (h : Sm O0) : TrInv O0 lb i x 0 0 O0 := ⟨rfl, h, by simp [val], fun _ _ => rfl, by omega⟩
theorem mul_bound {c x y z : Nat} (hc : c < 4294967296) (hx : x < 4294967296) (hy : y < 4294967296) (hz : z < 4294967296) : x * y ≤ 18446744065119617025 ∧ x * y + z ≤ 18446744069414584320 ∧ c + (x * y + z) ≤ 18446744073709551615 := by
  have := Nat.mul_le_mul (show x ≤ 4294967295 by omega) (show y ≤ 4294967295 by omega)
  omega
theorem TrInv.step {O0 lb : List Nat} {i x k c y z : Nat} {O : List Nat} (h : TrInv O0 lb i x k c O) (hy : lb[k]? = some y) (hz : O[i + k]? = some z) (hx : x < 4294967296) (hys : y < 4294967296) :
    TrInv O0 lb i x (k + 1) ((c + (x * y + z)) / 4294967296) (O.set (i + k) ((c + (x * y + z)) % 4294967296)) := by
  have hk := lt_of_getElem? hy
  have hzs : z < 4294967296 := h.sm.get hz
  have hb := (mul_bound h.carry hx hys hzs).2.2
  refine ⟨by simp [h.len], h.sm.set_ (Nat.mod_lt _ (by omega)), ?_, fun j hj => ?_, by omega⟩
  · have e1 := val_set ((c + (x * y + z)) % 4294967296) hz
    have e2 := val_take_succ hy
    have ev := h.value
    rw [e2, ← Nat.add_assoc i k 1, Nat.pow_succ]
    rw [Nat.mul_add x, Nat.mul_add (4294967296 ^ i), Nat.mul_left_comm x (4294967296 ^ k) y, ← Nat.mul_assoc (4294967296 ^ i) (4294967296 ^ k), ← Nat.pow_add]
    generalize 4294967296 ^ (i + k) = B at *
    have e4 := split_mul B (c + (x * y + z)) 0
    have e5 : B * (c + (x * y + z)) = B * c + B * (x * y) + B * z := by rw [Nat.mul_add, Nat.mul_add]; omega
    omega
  · rw [List.getElem?_set_ne (by omega)]
    exact h.zero j hj
theorem TmInv.step {la lb : List Nat} {i x c : Nat} {O0 O : List Nat} (h : TmInv la lb i O0) (hx : la[i]? = some x) (hr : TrInv O0 lb i x lb.length c O) : TmInv la lb (i + 1) (O.set (i + lb.length) c) := by
  have hi := lt_of_getElem? hx
  have hz : O[i + lb.length]? = some 0 := by rw [hr.zero _ (Nat.le_refl _)]; exact h.zero _ (Nat.le_refl _) (by rw [h.len]; omega)
  refine ⟨by simp [hr.len, h.len], hr.sm.set_ hr.carry, ?_, fun j hj hlt => ?_⟩
  · have e1 := val_set c hz
    have e2 := val_take_succ hx
    have ev := hr.value
    rw [List.take_length] at ev
    rw [e2, Nat.add_mul, ← h.value, Nat.mul_assoc]
    omega
  · rw [List.getElem?_set_ne (by omega), hr.zero _ (by omega)]
    exact h.zero j (by omega) (by simp [hr.len] at hlt; exact hlt)

end Go.Proofs.YtbddlbhanpjdnaaDoor
