/- AngleSpells: the plain law: the digits of the turned one; the angle of its own digits. -/
import Derived.Test.YtciafmnideihjaaSpellC
import Derived.Test.YtciafmnideihjaaBackL
namespace Go.Proofs.Ytciafmnideihjaa
open Go.RowKit

/-- A row of one's own reads as its numbers. -/
theorem own_rd {k : IntKind} {T : TypeId} {w : World} {base : Nat} {v : Value} {l : List Nat} (h : w.ownsRow base T 1 v l.length (ivs k l)) : Rd k T w v l := by
  rcases h.2 with ⟨rfl, h0⟩ | ⟨g, cap, cur, rfl, -, hg, hc, hm, -, ht⟩
  · obtain rfl : l = [] := List.length_eq_zero_iff.1 h0
    exact Rd.nil_
  · refine ⟨some ⟨g, 0, none⟩, cap, rfl, hc, hm, fun _ => ⟨g, 0, fun j => l[j]?, rfl, ⟨cur, (0, 0), hg, fun j x hj => ?_⟩, fun j x hj => by rw [Nat.zero_add]; exact hj⟩⟩
    replace hj : l[j]? = some x := hj
    have h1 := ivs_get (k := k) hj
    rw [← ht, Nat.mul_one] at h1
    have hjl : j < l.length := (List.getElem?_eq_some_iff.1 hj).1
    rw [List.getElem?_take_of_lt hjl] at h1
    simpa using h1
theorem rd_take {k : IntKind} {T : TypeId} {w : World} {A : Option Addr} {c p n : Nat} {l : List Nat} (h : Rd k T w (.slice A n c) l) (hp : p ≤ l.length) : Rd k T w (.slice A p c) (l.take p) := by
  obtain ⟨A', c', he, h1, h2, h3⟩ := h
  injection he with e1 e2 e3
  subst e1 e3
  have hl : (l.take p).length = p := by rw [List.length_take]; omega
  refine ⟨A, c, by rw [hl], by omega, h2, fun hn => ?_⟩
  obtain ⟨g, off, L, ea, hr, hL⟩ := h3 (fun e => by rw [e] at hn; simp at hn)
  refine ⟨g, off, L, ea, hr, fun j x hj => hL j x ?_⟩
  have hjl : j < p := by have := (List.getElem?_eq_some_iff.1 hj).1; omega
  rwa [List.getElem?_take_of_lt hjl] at hj
theorem rd_drop {k : IntKind} {T : TypeId} {w : World} {g off c p n m : Nat} {l : List Nat} (h : Rd k T w (.slice (some ⟨g, off, none⟩) n c) l) (hp : p ≤ l.length) (hm : m = l.length - p) : Rd k T w (.slice (some ⟨g, off + p, none⟩) m (c - p)) (l.drop p) := by
  obtain ⟨A', c', he, h1, h2, h3⟩ := h
  injection he with e1 e2 e3
  subst e1 e3
  have hl : (l.drop p).length = m := by rw [List.length_drop]; omega
  refine ⟨_, c - p, by rw [hl], by omega, by omega, fun hn => ?_⟩
  obtain ⟨g', off', L, ea, hr, hL⟩ := h3 (fun e => by rw [e] at hn; simp at hn)
  injection ea with ea
  injection ea with eg eo
  subst eg eo
  refine ⟨g, off + p, L, rfl, hr, fun j x hj => ?_⟩
  rw [List.getElem?_drop] at hj
  have := hL _ x hj
  rwa [← Nat.add_assoc] at this

/-- The digits of the turned one. -/
theorem digN_turn {x y d i N D : Nat} (hy : 0 < y) (hD : 0 < D) (h : (N, D) = rd (turnX x y d 1) y) : digN N D d i = digN x y d (1 + i) := by
  have h1 := turn_turn (n := i) hy h
  have h2 : digN N D d i = _ := (digN_rd (i := i) hD (rfl : ((rd (turnX N D d i) D).1, (rd (turnX N D d i) D).2) = _)).symm
  have h3 := digN_rd (x := x) (y := y) (d := d) (i := 1 + i) hy (rfl : ((rd (turnX x y d (1 + i)) y).1, (rd (turnX x y d (1 + i)) y).2) = _)
  rw [h2, h1, h3]
theorem digL_turn {x y d n N D : Nat} (hy : 0 < y) (hD : 0 < D) (h : (N, D) = rd (turnX x y d 1) y) : (digL x y d (n + 1)).drop 1 = digL N D d n := by
  refine List.ext_getElem? fun i => ?_
  rw [List.getElem?_drop]
  rcases Nat.lt_or_ge i n with hi | hi
  · rw [digL_get hi, digL_get (by omega), digN_turn hy hD h]
  · rw [List.getElem?_eq_none (by rw [digL_len]; omega), List.getElem?_eq_none (by rw [digL_len]; omega)]

/-- Digits, as a number. -/
theorem digL_num {x y d n : Nat} (hxy : x < y) : numL d (digL x y d n) * y + turnX x y d n = x * d ^ n := by
  have hy : 0 < y := by omega
  induction n with
  | zero => simp [digL, numL, turnX_eq, Nat.mod_eq_of_lt hxy]
  | succ n ih =>
    rw [digL_succ, numL_snoc]
    have h1 : digN x y d n * y + turnX x y d (n + 1) = turnX x y d n * d := by
      unfold digN
      rw [turnX_eq x y d (n + 1), Nat.pow_succ, ← Nat.mul_assoc, Nat.mul_mod, ← turnX_eq x y d n, ← Nat.mul_mod_mod, Nat.mod_mod]
      have h2 : turnX x y d n * (d % y) % y = turnX x y d n * d % y := by rw [Nat.mul_mod_mod]
      first
        | rw [h2, Nat.mul_comm _ y]; exact Nat.div_add_mod _ _
        | (rw [Nat.mul_mod_mod, Nat.mul_comm _ y]; exact Nat.div_add_mod _ _)
    rw [Nat.add_mul, Nat.add_assoc, h1, Nat.mul_assoc, Nat.mul_comm d y, ← Nat.mul_assoc, ← Nat.add_mul, ih, Nat.pow_succ, Nat.mul_assoc]

theorem turnX_add (x y d p i : Nat) : turnX (turnX x y d p) y d i = turnX x y d (p + i) := by
  rw [turnX_eq, turnX_eq, turnX_eq, Nat.pow_add, ← Nat.mul_assoc, Nat.mod_mul_mod]
theorem digL_drop (x y d p k : Nat) : (digL x y d (p + k)).drop p = digL (turnX x y d p) y d k := by
  refine List.ext_getElem? fun i => ?_
  rw [List.getElem?_drop]
  rcases Nat.lt_or_ge i k with hi | hi
  · rw [digL_get hi, digL_get (by omega)]
    unfold digN
    rw [turnX_add]
  · rw [List.getElem?_eq_none (by rw [digL_len]; omega), List.getElem?_eq_none (by rw [digL_len]; omega)]
theorem digL_take (x y d p k : Nat) : (digL x y d (p + k)).take p = digL x y d p := by
  refine List.ext_getElem? fun i => ?_
  rcases Nat.lt_or_ge i p with hi | hi
  · rw [List.getElem?_take_of_lt hi, digL_get hi, digL_get (by omega)]
  · rw [List.getElem?_eq_none (by rw [List.length_take, digL_len]; omega), List.getElem?_eq_none (by rw [digL_len]; omega)]

/-- The angle of its own digits. -/
theorem spell_back {x y d p k A C E1 B : Nat} (hd : 2 ≤ d) (hxy : x < y) (hc : Nat.gcd x y = 1) (hp : p = (kindN y d).1) (hk : k = (kindN y d).2) (hA : A = numL d (digL x y d p)) (hC : C = numL d (digL (turnX x y d p) y d k))
    (hE : E1 = d ^ p) (hB : B = d ^ k - 1) : ((A * B + C) % (E1 * B) / Nat.gcd ((A * B + C) % (E1 * B)) (E1 * B), E1 * B / Nat.gcd ((A * B + C) % (E1 * B)) (E1 * B)) = (x, y) := by
  have hy : 0 < y := by omega
  obtain ⟨k1, -, -⟩ := kind_facts (d := d) (by omega) y hy
  rw [← hk] at k1
  have hT : turnX x y d p < y := Nat.mod_lt _ hy
  have a1 := digL_num (d := d) (n := p) hxy
  have a2 := digL_num (d := d) (n := k) hT
  rw [turnX_add, orbit_back (by omega) hy hp hk] at a2
  rw [← hA, ← hE] at a1
  rw [← hC] at a2
  have hEk : 2 ≤ d ^ k := by
    obtain ⟨q, rfl⟩ : ∃ q, k = q + 1 := ⟨k - 1, by omega⟩
    rw [Nat.pow_succ]
    exact Nat.mul_le_mul (one_pow (k := q) (by omega)) hd
  have a3 : C * y = turnX x y d p * B := by
    rw [hB, Nat.mul_sub, Nat.mul_one]
    omega
  have a4 : (A * B + C) * y = x * (E1 * B) := by
    rw [Nat.add_mul, a3, Nat.mul_right_comm, ← Nat.add_mul, a1, Nat.mul_assoc]
  have hDEN : 0 < E1 * B := Nat.mul_pos (by rw [hE]; exact one_pow (by omega)) (by omega)
  generalize hDD : E1 * B = DEN at *
  generalize hMM : A * B + C = M at *
  have a5 : M < DEN := by
    refine Nat.lt_of_mul_lt_mul_right (a := y) ?_
    rw [a4, Nat.mul_comm DEN]
    exact Nat.mul_lt_mul_of_pos_right hxy hDEN
  rw [Nat.mod_eq_of_lt a5]
  show rd M DEN = (x, y)
  rw [← rd_scale (X := M) (Y := DEN) hy, Nat.mul_comm y M, a4, Nat.mul_comm y DEN, Nat.mul_comm x DEN, rd_scale hDEN, rd_self hc]
end Go.Proofs.Ytciafmnideihjaa
