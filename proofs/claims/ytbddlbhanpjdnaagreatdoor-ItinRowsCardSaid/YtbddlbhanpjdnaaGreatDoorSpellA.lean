/- Package angle: number, Digits; filigreelaw21.bytes. · Package angle: Digits; filigreelaw21.bytes. -/
import Derived.Test.YtbddlbhanpjdnaaGreatDoorWideI
import Derived.Test.YtbddlbhanpjdnaaGreatDoorBackP
namespace Go.Proofs.YtbddlbhanpjdnaaGreatDoor
open Go.RowKit Go.Sort

/-- What digits to a base say. -/
def numL (d : Nat) (l : List Nat) : Nat := l.foldl (fun a x => a * d + x) 0
theorem numL_snoc (d : Nat) (l : List Nat) (x : Nat) : numL d (l ++ [x]) = numL d l * d + x := by simp [numL]
theorem numL_take {d : Nat} {l : List Nat} {k x : Nat} (h : l[k]? = some x) : numL d (l.take (k + 1)) = numL d (l.take k) * d + x := by
  have hlt := lt_of_getElem? h
  have e : l[k] = x := by rw [List.getElem?_eq_getElem hlt] at h; exact Option.some.inj h
  rw [List.take_succ_eq_append_getElem hlt, e, numL_snoc]
theorem numL_lt {d : Nat} (hd : d ≤ 256) : ∀ (l : List Nat), (∀ x, x ∈ l → x < 256) → numL d l < 256 ^ l.length := by
  intro l
  induction l using snocInd with
  | nil => intro _; simp [numL]
  | snoc l x ih =>
    intro h
    rw [numL_snoc, List.length_append, show l.length + [x].length = l.length + 1 by simp, Nat.pow_succ]
    have h1 := ih fun y hy => h y (by simp [hy])
    have h2 := h x (by simp)
    have h3 : numL d l * d ≤ numL d l * 256 := Nat.mul_le_mul_left _ hd
    have h4 : (numL d l + 1) * 256 ≤ 256 ^ l.length * 256 := Nat.mul_le_mul_right _ h1
    omega
theorem dg_of_256 {n k : Nat} (h : n < 256 ^ k) : (dg n).length ≤ k :=
  dg_len_le_of_lt (Nat.lt_of_lt_of_le h (Nat.pow_le_pow_left (by omega) k))

end Go.Proofs.YtbddlbhanpjdnaaGreatDoor

namespace Go.Proofs.YtbddlbhanpjdnaaGreatDoor
open Go.RowKit Go.Sort

/-- The first n digits. -/
def digN (x y d i : Nat) : Nat := turnX x y d i * d / y
def digL (x y d n : Nat) : List Nat := (List.range n).map (digN x y d)
theorem digL_len (x y d n : Nat) : (digL x y d n).length = n := by simp [digL]
theorem digL_get {x y d n k : Nat} (h : k < n) : (digL x y d n)[k]? = some (digN x y d k) := by simp [digL, h]
theorem digL_succ (x y d n : Nat) : digL x y d (n + 1) = digL x y d n ++ [digN x y d n] := by simp [digL, List.range_succ]
theorem digN_lt {x y d i : Nat} (hy : 0 < y) (hd : 0 < d) : digN x y d i < d := by
  unfold digN
  rw [Nat.div_lt_iff_lt_mul hy, Nat.mul_comm d]
  exact Nat.mul_lt_mul_of_pos_right (Nat.mod_lt _ hy) hd
theorem digL_lt {x y d n : Nat} (hy : 0 < y) (hd : 0 < d) : ∀ z, z ∈ digL x y d n → z < d := by
  intro z hz
  obtain ⟨i, -, rfl⟩ := List.mem_map.1 hz
  exact digN_lt hy hd
/-- A digit off the lowest terms. -/
theorem digN_rd {x y d i N D : Nat} (hy : 0 < y) (h : (N, D) = rd (turnX x y d i) y) : N * d / D = digN x y d i := by
  unfold rd at h
  injection h with h1 h2
  obtain ⟨g, hg⟩ : ∃ g, g = Nat.gcd (turnX x y d i) y := ⟨_, rfl⟩
  have hg0 : 0 < g := by rw [hg]; exact Nat.gcd_pos_of_pos_right _ hy
  rw [← hg] at h1 h2
  have e1 : g * N = turnX x y d i := by rw [h1]; exact Nat.mul_div_cancel' (by rw [hg]; exact Nat.gcd_dvd_left _ _)
  have e2 : g * D = y := by rw [h2]; exact Nat.mul_div_cancel' (by rw [hg]; exact Nat.gcd_dvd_right _ _)
  unfold digN
  rw [← e1]
  conv => rhs; rw [← e2]
  rw [Nat.mul_assoc, Nat.mul_div_mul_left _ _ hg0]

/-- What Digits tells: an error's number and the digits. -/
def digsE (neg : Bool) (num den : ByteArray) (d n : Int) : Int :=
  if okA neg num den then if roundB d && decide (0 ≤ n) then if n ≤ 1024 then 0 else 4 else 2 else 210
def digsR (neg : Bool) (num den : ByteArray) (d n : Int) : List Nat :=
  if okA neg num den && roundB d && decide (0 ≤ n) && decide (n ≤ 1024) then digL (be (sl num)) (be (sl den)) d.toNat n.toNat else []

end Go.Proofs.YtbddlbhanpjdnaaGreatDoor
