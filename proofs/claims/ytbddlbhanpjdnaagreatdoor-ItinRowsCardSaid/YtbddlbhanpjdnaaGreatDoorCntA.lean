/- Counts of angles: wide.NewInt(-1), digits.size, Bytes; angle.moebius. · Counts of angles: angle.count, angle.Count. · Counts of angles: angle.All. -/
import Derived.Test.YtbddlbhanpjdnaaGreatDoorSpellA
import Derived.Test.YtbddlbhanpjdnaaGreatDoorMoe
import Derived.Test.YtbddlbhanpjdnaaGreatDoorNatC
import Derived.Test.YtbddlbhanpjdnaaGreatDoorBackP
import Derived.Deep.CutBlock
namespace Go.Proofs.YtbddlbhanpjdnaaGreatDoor
open Go.RowKit Go.Sort

/-- The sign set. -/
theorem Big.minus {w : World} {p o x : Nat} (h : Big w p o (x : Int)) (hx : 0 < x) : Big (w.setCell ⟨p, o, none⟩ (.bool true)) p o (-(x : Int)) := by
  obtain ⟨cs, T, v, h1, h2, h3, h4, h5⟩ := h
  have hlt := lt_of_size h3
  refine ⟨_, T, v, heap_setCell_same w p o cs T _ h1, h2, ?_, ?_, ?_⟩
  · rw [Array.getElem?_setIfInBounds_self_of_lt hlt]
    simp
    omega
  · rw [Array.getElem?_setIfInBounds_ne (by omega)]
    exact h4
  · rw [Int.natAbs_neg]
    exact Rd.setFar h5 (p := ⟨p, o, none⟩) h1 (Ne.symm h2) _

set_option maxRecDepth 100000 in
set_option maxHeartbeats 400000 in
/-- NewInt(-1) -/
theorem newIntM_any (w : World) : Calls Tryz.prog 88 #[.int .i64 (-1)] w (RetNew (-1) w) := by
  go_enter Tryz.func88, Tryz.ntmps88
  go_wp2_with fail
  refine (setUint64_any _ 0 18446744073709551615 _ (Big.new w).slot (by omega)).mono ?_
  rintro e w2 ⟨rfl, hb, hg⟩
  have hB := Lib.hid (below_gb ((Below.refl _ w).alloc (Nat.le_refl _) _) hg (Nat.le_refl _) (by simp))
  replace hb := Lib.hid hb
  clear hg
  go_wp2_with fail
  refine (setUint64_any _ 0 1 _ hb.out.slot (by omega)).mono ?_
  rintro e w3 ⟨rfl, hb3, hg⟩
  have hB3 := Lib.hid (below_gb hB.out hg (Nat.le_refl _) hB.out.size)
  obtain ⟨⟨u0, c0⟩, -, f0, -⟩ := hb3.slot.cells
  replace hb3 := Lib.hid hb3
  clear hg hb hB
  go_wp2_with fail
  go_ret
  exact ⟨w.heap.size, rfl, Nat.le_refl _, hb3.out.minus (x := 1) (by omega), hB3.out.setCell (Nat.le_refl _) _⟩

/-- NewInt of 0, 1, -1. -/
theorem newIntS_any (x : Int) (w : World) (hx : x = 0 ∨ x = 1 ∨ x = -1) : Calls Tryz.prog 88 #[.int .i64 x] w (RetNew x w) := by
  rcases hx with rfl | rfl | rfl
  · exact newInt_any 0 w (by omega)
  · exact newInt_any 1 w (by omega)
  · exact newIntM_any w

/-- The outcome: a number's bytes, in memory of the call's own. -/
def RetBytes (N : Nat) (w : World) (e : Ending) (w' : World) : Prop :=
  ∃ g, e = .returned (.slice (some ⟨g, 0, none⟩) (natL N).length (natL N).length) ∧ Arr w' g .u8 5 (natL N) ∧ w.heap.size ≤ g ∧ Below w.heap.size w w'

end Go.Proofs.YtbddlbhanpjdnaaGreatDoor

namespace Go.Proofs.YtbddlbhanpjdnaaGreatDoor
open Go.RowKit Go.Sort

/-- The partial sums. -/
def cntP (d n j : Nat) : Int := dsum n (fun k => ((d : Int) ^ k - 1) * moe (n / k)) j
theorem cntP_all (d n : Nat) : cntP d n n = cntZ d n := rfl
theorem cntP_yes {d n j : Nat} (h : n % (j + 1) = 0) : cntP d n (j + 1) = cntP d n j + ((d : Int) ^ (j + 1) - 1) * moe (n / (j + 1)) := by
  unfold cntP dsum
  rw [rsum, if_pos h]
theorem cntP_no {d n j : Nat} (h : n % (j + 1) ≠ 0) : cntP d n (j + 1) = cntP d n j := by
  unfold cntP dsum
  rw [rsum, if_neg h, Int.add_zero]
theorem mul_moe {X : Int} (hX : 0 ≤ X) (n : Nat) : -X ≤ X * moe n ∧ X * moe n ≤ X := by
  rcases moe_cases n with h | h | h <;> rw [h]
  · rw [Int.mul_zero]; omega
  · rw [Int.mul_one]; omega
  · rw [Int.mul_neg, Int.mul_one]; omega
theorem cntP_abs {d n : Nat} (hd : 2 ≤ d) : ∀ j, -(rsum (fun m => (d : Int) ^ m - 1) j) ≤ cntP d n j ∧ cntP d n j ≤ rsum (fun m => (d : Int) ^ m - 1) j
  | 0 => ⟨Int.le_refl _, Int.le_refl _⟩
  | j + 1 => by
    have ih := cntP_abs (n := n) hd j
    have h4 := one_le_dpow (k := j + 1) hd
    have h0 : 0 ≤ (d : Int) ^ (j + 1) - 1 := by rw [pow_cast]; omega
    rw [rsum]
    by_cases h : n % (j + 1) = 0
    · rw [cntP_yes h]
      have := mul_moe h0 (n / (j + 1))
      omega
    · rw [cntP_no h]
      omega
theorem cntP_size {d n : Nat} (hd : 2 ≤ d) (j : Nat) : (cntP d n j).natAbs ≤ d ^ (j + 1) := by
  have h1 := cntP_abs (n := n) hd j
  have h2 := geo_less hd j
  rw [pow_cast] at h2
  omega
theorem dg_pow {d j z : Nat} (hd : d ≤ 64) (h : z ≤ d ^ j) : (dg z).length ≤ j + 1 := by
  refine dg_of_256 ?_
  have h1 : d ^ j ≤ 256 ^ j := Nat.pow_le_pow_left (by omega) _
  have h2 : 0 < 256 ^ j := Nat.pow_pos (by omega)
  rw [Nat.pow_succ]
  omega

/-- The number that Count tells. -/
def cntN (d n : Nat) : Nat := (cntZ d n).toNat
theorem cntN_eq {d n : Nat} (hd : 2 ≤ d) (h1 : 1 ≤ n) (h2 : n ≤ 1024) : cntZ d n = (cntN d n : Int) := by
  have := (cnt_bounds hd n h1 h2).1
  unfold cntN
  omega
theorem cntN_le {d n : Nat} (hd : 2 ≤ d) (h1 : 1 ≤ n) (h2 : n ≤ 1024) : cntN d n < d ^ n := by
  have := (cnt_bounds hd n h1 h2).2
  have h3 := one_le_dpow (k := n) hd
  rw [pow_cast] at this
  unfold cntN
  omega
/-- May the two numbers be? -/
def mayN (d n : Int) : Bool := roundB d && (decide (1 ≤ n) && decide (n ≤ 1024))
def CountV (d n : Int) : Value := if mayN d n then .tuple #[.string (natS (cntN d.toNat n.toNat)), .int .i64 0] else .tuple #[.string ⟨#[]⟩, .int .i64 2]

end Go.Proofs.YtbddlbhanpjdnaaGreatDoor

namespace Go.Proofs.YtbddlbhanpjdnaaGreatDoor
open Go.RowKit Go.Sort

/-- The angles of the period n among the first k. -/
def allP (d n k : Nat) : List (Nat × Nat) := ((List.range k).map fun j => rd j (d ^ n - 1)).filter fun p => decide ((kindN p.2 d).2 = n)
def allL (d n : Nat) : List (Nat × Nat) := allP d n (d ^ n - 1)
theorem allP_yes {d n k : Nat} (h : (kindN (rd k (d ^ n - 1)).2 d).2 = n) : allP d n (k + 1) = allP d n k ++ [rd k (d ^ n - 1)] := by
  unfold allP
  rw [List.range_succ, List.map_append, List.filter_append]
  simp [h]
theorem allP_no {d n k : Nat} (h : (kindN (rd k (d ^ n - 1)).2 d).2 ≠ n) : allP d n (k + 1) = allP d n k := by
  unfold allP
  rw [List.range_succ, List.map_append, List.filter_append]
  simp [h]
theorem allP_len (d n k : Nat) : (allP d n k).length ≤ k := by
  unfold allP
  refine Nat.le_trans (List.length_filter_le _ _) ?_
  simp
def allE (d n : Int) : Int := if mayN d n then if cntN d.toNat n.toNat ≤ 4096 then 0 else 211 else 2
def allR (d n : Int) : List (Nat × Nat) := if mayN d n && decide (cntN d.toNat n.toNat ≤ 4096) then allL d.toNat n.toNat else []

end Go.Proofs.YtbddlbhanpjdnaaGreatDoor
