/- The document's answer: filigreeref02.May, Small; filigreeref21.gcd, Of, Cmp. · The document's answer: filigreeref21.Of. · The document's answer: filigreeref02.made, Of. · The document's answer: filigreeref02.Of; Angle.Ratio; filigreelaw21.is. · The document's answer: filigreeref21.low, Make, Add. · The document's answer: filigreeref21.Add. -/
import Derived.Test.YtbddlbhanpjdnaaDoorAngN
import Derived.BigQuiet
import Derived.Deep.CutBlock
import Derived.Test.YtbddlbhanpjdnaaDoorAngH
import Derived.Lib.QuietBelow
namespace Go.Proofs.YtbddlbhanpjdnaaDoor
open Go.RowKit

end Go.Proofs.YtbddlbhanpjdnaaDoor

namespace Go.Proofs.YtbddlbhanpjdnaaDoor
open Go.RowKit

theorem okA_ref (neg : Bool) (num den : ByteArray) :
    okA neg num den = (smallB num && smallB den && !neg && decide (1 ≤ be (sl den)) && decide (be (sl den) ≤ 2147483647) && decide (be (sl num) < be (sl den)) && decide (Nat.gcd (be (sl num)) (be (sl den)) = 1)) := by
  rw [Bool.eq_iff_iff]
  simp only [okA, ratioMay, smallB, Bool.and_eq_true, Bool.or_eq_true, decide_eq_true_eq, Bool.not_eq_true']
  constructor
  · rintro ⟨⟨⟨⟨⟨⟨⟨⟨⟨h1, h2⟩, h3⟩, h4⟩, -⟩, h5⟩, -, h6⟩, -, h7⟩, h8⟩, h9⟩
    exact ⟨⟨⟨⟨⟨⟨⟨h1, h6⟩, h2, h7⟩, h5⟩, h3⟩, h9⟩, h8⟩, h4⟩
  · rintro ⟨⟨⟨⟨⟨⟨⟨h1, h6⟩, h2, h7⟩, h5⟩, h3⟩, h9⟩, h8⟩, h4⟩
    exact ⟨⟨⟨⟨⟨⟨⟨⟨⟨h1, h2⟩, h3⟩, h4⟩, Or.inl h5⟩, h5⟩, h1, h6⟩, h2, h7⟩, h8⟩, h9⟩

end Go.Proofs.YtbddlbhanpjdnaaDoor

namespace Go.Proofs.YtbddlbhanpjdnaaDoor
open Go.RowKit

theorem be_zero_cons (l : List Nat) : be (0 :: l) = be l := by simp [be]
theorem take_succ_rev {l : List Nat} {k x : Nat} (h : l[k]? = some x) : (l.take (k + 1)).reverse = x :: (l.take k).reverse := by
  have hlt := lt_of_getElem? h
  have e : l[k] = x := by rw [List.getElem?_eq_getElem hlt] at h; exact Option.some.inj h
  rw [List.take_succ_eq_append_getElem hlt, e]
  simp
theorem rev_row {l O : List Nat} {n : Nat} (hn : n ≤ l.length) (hO : O.length = n) (h : ∀ t, t < n → O[n - 1 - t]? = l[t]?) : O = (l.take n).reverse := by
  apply List.ext_getElem?
  intro j
  by_cases hj : j < n
  · have h1 := h (n - 1 - j) (by omega)
    rw [show n - 1 - (n - 1 - j) = j by omega] at h1
    have hlen : (l.take n).length = n := by rw [List.length_take]; omega
    rw [h1, List.getElem?_reverse (by rw [hlen]; exact hj), hlen, List.getElem?_take, if_pos (by omega)]
  · rw [List.getElem?_eq_none (by omega), List.getElem?_eq_none (by rw [List.length_reverse, List.length_take]; omega)]

/-- A number's digits, the lowest first, as a string. -/
def madeS (l : List Nat) : ByteArray := natS (be l.reverse)

end Go.Proofs.YtbddlbhanpjdnaaDoor

namespace Go.Proofs.YtbddlbhanpjdnaaDoor
open Go.RowKit Go.Sort

theorem info_int : (Tryd.prog.info? 3).map (fun i => (i.zero, i.size, i.bytes)) = some (some (.int .i64 0), 1, 8) := by kernel_rfl

/-- A row of the call's own reads as its numbers. -/
theorem rd_own {w : World} {base : Nat} {T : TypeId} {k : IntKind} {v : Value} {l : List Nat} (h : w.ownsRow base T 1 v l.length (ivs k l)) : Rd k T w v l := by
  obtain ⟨hl, hc⟩ := h
  rcases hc with ⟨rfl, h0⟩ | ⟨g, cap, cur, rfl, -, hg, hn, hm, -, ht⟩
  · have : l = [] := List.eq_nil_of_length_eq_zero h0
    subst this
    exact Rd.nil_
  · refine ⟨_, cap, rfl, hn, hm, fun _ => ⟨g, 0, fun j => l[j]?, rfl, ⟨cur, (0, 0), hg, fun j x hj => ?_⟩, fun j x hj => by simpa using hj⟩⟩
    replace hj : l[j]? = some x := hj
    have hlt := lt_of_getElem? hj
    have e := ivs_get (k := k) hj
    rw [← ht, Nat.mul_one, List.getElem?_take, if_pos hlt] at e
    simpa using e

theorem be_rev_snoc (L : List Nat) (d : Nat) : be (L ++ [d]).reverse = be L.reverse + 256 ^ L.length * d := by
  rw [List.reverse_append, be_append, List.length_reverse]
  simp [be]
  rw [Nat.mul_comm, Nat.add_comm]

theorem ba_nil : (⟨#[]⟩ : ByteArray).toList = [] := by rw [ByteArray.toList_eq]

end Go.Proofs.YtbddlbhanpjdnaaDoor

namespace Go.Proofs.YtbddlbhanpjdnaaDoor
open Go.RowKit

/-- What the document's Make tells. -/
def rmakeV (num den : Int) : Value :=
  if 1 ≤ den ∧ den ≤ 2147483647 then
    .tuple #[.agg #[.int .u64 (((num % den).toNat / Nat.gcd (num % den).toNat den.toNat : Nat) : Int), .int .u64 ((den.toNat / Nat.gcd (num % den).toNat den.toNat : Nat) : Int)], .int .i64 0]
  else .tuple #[.agg #[.int .u64 0, .int .u64 0], .int .i64 2]

end Go.Proofs.YtbddlbhanpjdnaaDoor

namespace Go.Proofs.YtbddlbhanpjdnaaDoor
open Go.RowKit

theorem add_same {x1 y1 x2 y2 G : Nat} (hG : G = Nat.gcd y1 y2) :
    y1 * y2 = G * (y1 / G * y2) ∧ addX x1 y1 x2 y2 = G * ((x1 * (y2 / G) + x2 * (y1 / G)) % (y1 / G * y2)) := by
  have d1 : G * (y1 / G) = y1 := Nat.mul_div_cancel' (by rw [hG]; exact Nat.gcd_dvd_left _ _)
  have d2 : G * (y2 / G) = y2 := Nat.mul_div_cancel' (by rw [hG]; exact Nat.gcd_dvd_right _ _)
  have e1 : y1 * y2 = G * (y1 / G * y2) := by rw [← Nat.mul_assoc, d1]
  refine ⟨e1, ?_⟩
  unfold addX
  rw [← Nat.mul_mod_mul_left, ← e1]
  congr 1
  rw [Nat.mul_add]
  congr 1
  · rw [Nat.mul_left_comm, d2]
  · rw [Nat.mul_left_comm, d1]

theorem add_low {x1 y1 x2 y2 G NUM DEN : Nat} (hG : G = Nat.gcd y1 y2) (p1 : 0 < y1) (hD : DEN = y1 / G * y2) (hN : NUM = (x1 * (y2 / G) + x2 * (y1 / G)) % DEN) :
    addX x1 y1 x2 y2 / Nat.gcd (addX x1 y1 x2 y2) (y1 * y2) = NUM / Nat.gcd NUM DEN ∧ y1 * y2 / Nat.gcd (addX x1 y1 x2 y2) (y1 * y2) = DEN / Nat.gcd NUM DEN := by
  obtain ⟨e1, e2⟩ := add_same (x1 := x1) (x2 := x2) hG
  have hG0 : 0 < G := by rw [hG]; exact Nat.gcd_pos_of_pos_left _ p1
  rw [← hD] at e1 e2
  rw [← hN] at e2
  rw [e1, e2, Nat.gcd_mul_left, Nat.mul_div_mul_left _ _ hG0, Nat.mul_div_mul_left _ _ hG0]
  exact ⟨rfl, rfl⟩

/-- What the document's Add tells of a lowest part. -/
def raddV (N D : Nat) : Value := if D ≤ 2147483647 then .tuple #[.agg #[.int .u64 (N : Int), .int .u64 (D : Int)], .int .i64 0] else .tuple #[.agg #[.int .u64 0, .int .u64 0], .int .i64 210]

end Go.Proofs.YtbddlbhanpjdnaaDoor
