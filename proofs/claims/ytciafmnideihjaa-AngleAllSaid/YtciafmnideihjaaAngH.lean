/- The primes of a number, by trial division: plain functions as the Go text reckons them. · Package angle: factor.times, factors. -/
import Derived.Test.YtciafmnideihjaaAngF
import Derived.Deep.LoopGhost
namespace Go.Proofs.Ytciafmnideihjaa

/-- p is taken out of n as often as it goes: what is left, how often. -/
def stripF : Nat → Nat → Nat → Nat → Nat × Nat
  | 0, n, _, c => (n, c)
  | f + 1, n, p, c => if n % p = 0 then stripF f (n / p) p (c + 1) else (n, c)
def strip (n p : Nat) : Nat × Nat := stripF n n p 0

/-- From p on. -/
def facF : Nat → Nat → Nat → List (Nat × Nat)
  | 0, n, _ => if 1 < n then [(n, 1)] else []
  | f + 1, n, p =>
    if p * p ≤ n then (if 0 < (strip n p).2 then [(p, (strip n p).2)] else []) ++ facF f (strip n p).1 (p + 1)
    else if 1 < n then [(n, 1)] else []
/-- The primes of n, and how often each stands in it. -/
def factorsL (n : Nat) : List (Nat × Nat) := facF n n 2

theorem stripF_spec : ∀ (f n p c : Nat), 2 ≤ p → 0 < n → n ≤ f → (stripF f n p c).2 ≥ c ∧ (stripF f n p c).1 * p ^ ((stripF f n p c).2 - c) = n ∧ (stripF f n p c).1 % p ≠ 0 ∧ 0 < (stripF f n p c).1 := by
  intro f
  induction f with
  | zero => intro n p c _ h0 hf; omega
  | succ f ih =>
    intro n p c hp h0 hf
    simp only [stripF]
    split
    · rename_i hm
      have hd := Nat.div_add_mod n p
      rw [hm, Nat.add_zero] at hd
      have hq0 : 0 < n / p := by
        rcases Nat.eq_zero_or_pos (n / p) with h | h
        · rw [h, Nat.mul_zero] at hd; omega
        · exact h
      have hlt : n / p < n := Nat.div_lt_self h0 hp
      obtain ⟨h1, h2, h3, h4⟩ := ih (n / p) p (c + 1) hp hq0 (by omega)
      refine ⟨by omega, ?_, h3, h4⟩
      have e : (stripF f (n / p) p (c + 1)).2 - c = (stripF f (n / p) p (c + 1)).2 - (c + 1) + 1 := by omega
      rw [e, Nat.pow_succ, ← Nat.mul_assoc, h2, Nat.mul_comm]
      exact hd
    · rename_i hm
      refine ⟨Nat.le_refl _, by simp, hm, h0⟩

theorem strip_spec {n p : Nat} (hp : 2 ≤ p) (h0 : 0 < n) : (strip n p).1 * p ^ (strip n p).2 = n ∧ (strip n p).1 % p ≠ 0 ∧ 0 < (strip n p).1 := by
  have := stripF_spec n n p 0 hp h0 (Nat.le_refl _)
  exact ⟨this.2.1, this.2.2⟩

theorem strip_le {n p : Nat} (hp : 2 ≤ p) (h0 : 0 < n) : (strip n p).1 ≤ n := by
  obtain ⟨h1, -, h3⟩ := strip_spec hp h0
  have : 1 ≤ p ^ (strip n p).2 := Nat.pow_pos (by omega)
  have := Nat.mul_le_mul_left (strip n p).1 this
  omega

/-- One more step of the taking out. -/
theorem stripF_step {f n p c : Nat} (h : n % p = 0) : stripF (f + 1) n p c = stripF f (n / p) p (c + 1) := by simp [stripF, h]
theorem stripF_stop {f n p c : Nat} (h : n % p ≠ 0) : stripF f n p c = (n, c) := by cases f <;> simp [stripF, h]

theorem facF_go {f n p : Nat} (h : p * p ≤ n) : facF (f + 1) n p = (if 0 < (strip n p).2 then [(p, (strip n p).2)] else []) ++ facF f (strip n p).1 (p + 1) := by simp [facF, h]
theorem facF_end {f n p : Nat} (h : ¬ p * p ≤ n) : facF f n p = if 1 < n then [(n, 1)] else [] := by cases f <;> simp [facF, h]

theorem stripF_count : ∀ (f n p c : Nat), (stripF f n p c).2 ≤ f + c := by
  intro f
  induction f with
  | zero => intro n p c; simp [stripF]
  | succ f ih =>
    intro n p c
    simp only [stripF]
    split
    · have := ih (n / p) p (c + 1); omega
    · simp

/-- The list is not longer than the number. -/
theorem facF_len : ∀ (f n p : Nat), (facF f n p).length ≤ f + 1 := by
  intro f
  induction f with
  | zero => intro n p; simp only [facF]; split <;> simp
  | succ f ih =>
    intro n p
    simp only [facF]
    split
    · rw [List.length_append]
      have := ih (strip n p).1 (p + 1)
      split <;> simp <;> omega
    · split <;> simp
end Go.Proofs.Ytciafmnideihjaa

namespace Go.Proofs.Ytciafmnideihjaa
open Go.RowKit

/-- The prime to a power, under a name. -/
def powV (p n : Nat) : Value := .int .u64 ((p ^ n : Nat) : Int)

set_option maxHeartbeats 400000 in
/-- factor.times: the prime to a power. -/
theorem times_any (p c n : Nat) (w : World) (hn : n < 4294967296) (hs : ∀ k, k ≤ n → p ^ k < 9223372036854775808) :
    Calls Try.prog 117 #[.agg #[.int .u64 (p : Int), .int .i64 (c : Int)], .int .i64 (n : Int)] w (RetVal (powV p n) w) := by
  replace hs := Lib.hid hs
  go_enter Try.func117, Try.ntmps117
  go_wp2
  go_loop [5, 7] (fun x i => ∃ k X : Nat, i = .int .i64 (k : Int) ∧ x = .int .u64 (X : Int) ∧ k ≤ n ∧ X = p ^ k) (fun _ i => n - (intOf i).toNat)
  case atStart => exact ⟨0, 1, rfl, rfl, Nat.zero_le _, by simp⟩
  case round =>
    obtain ⟨k, X, rfl, rfl, hk, hX⟩ := hrel
    have hXs : X < 9223372036854775808 := by rw [hX]; exact hs.out k hk
    by_cases h0 : k < n
    · obtain ⟨Y, hY⟩ : ∃ Y, Y = X * p := ⟨_, rfl⟩
      have hYi : (X : Int) * (p : Int) = (Y : Int) := by rw [hY]; push_cast; rfl
      have hY2 : Y = p ^ (k + 1) := by rw [hY, hX, Nat.pow_succ]
      have hYs : Y < 9223372036854775808 := by rw [hY2]; exact hs.out _ h0
      replace hY2 := Lib.hid hY2
      clear hX hY
      go_wp2
      go_round
      case rel => exact ⟨k + 1, Y, by go_num, rfl, by omega, hY2.out⟩
      case measure => simp [intOf]; omega
    · obtain rfl : k = n := by omega
      replace hX := Lib.hid hX
      go_wp2
      go_ret
      exact ⟨by rw [powV, ← hX.out]; rfl, (Below.refl _ _).alloc (Nat.le_refl _) _⟩

theorem info_factor : (Try.prog.info? 164).map (fun i => (i.zero, i.size, i.bytes)) = some (some (.agg #[.int .u64 0, .int .i64 0]), 2, 16) := by kernel_rfl

/-- Factors as cells. -/
def facC (L : List (Nat × Nat)) : List Value := L.flatMap fun x => [.int .u64 (x.1 : Int), .int .i64 (x.2 : Int)]
theorem facC_snoc (L : List (Nat × Nat)) (p c : Nat) : facC (L ++ [(p, c)]) = facC L ++ [.int .u64 (p : Int), .int .i64 (c : Int)] := by simp [facC]
theorem facC_len (L : List (Nat × Nat)) : (facC L).length = L.length * 2 := by
  induction L with
  | nil => rfl
  | cons x L ih =>
    have : facC (x :: L) = [.int .u64 (x.1 : Int), .int .i64 (x.2 : Int)] ++ facC L := by simp [facC]
    rw [this, List.length_append, ih]
    simp
    omega

/-- The outcome of 'factors': a row of the call's own that reads as the list. -/
def RetFac (L : List (Nat × Nat)) (w : World) (e : Ending) (w' : World) : Prop := ∃ v, e = .returned v ∧ w'.ownsRow w.heap.size 164 2 v L.length (facC L) ∧ Below w.heap.size w w'

set_option maxRecDepth 100000 in
set_option maxHeartbeats 1000000 in
/-- angle.factors -/
theorem factors_any (n0 : Nat) (w : World) (h0 : 0 < n0) (hn : n0 < 4611686018427387904) :
    Calls Try.prog 116 #[.int .u64 (n0 : Int)] w (RetFac (factorsL n0) w) := by
  obtain ⟨i0, hi, hz0, hz1, hz2⟩ := info_parts info_factor
  go_enter Try.func116, Try.ntmps116
  go_wp2
  go_loopg [0, 3, 4] n0 (fun f n v p wr => ∃ (x q : Nat) (L : List (Nat × Nat)), n = .int .u64 (x : Int) ∧ p = .int .u64 (q : Int) ∧ 0 < x ∧ x ≤ n0 ∧ 2 ≤ q ∧ x + 2 ≤ f + q ∧ (q - 1) * (q - 1) ≤ n0 ∧ L.length + 2 ≤ q ∧ L ++ facF f x q = factorsL n0 ∧ wr.ownsRow w.heap.size 164 2 v L.length (facC L) ∧ Below w.heap.size w wr)
  case atStart => exact ⟨n0, 2, [], rfl, rfl, h0, Nat.le_refl _, Nat.le_refl _, Nat.le_refl _, by omega, by simp, rfl, World.ownsRow_nil _ _ _ _, Below.refl _ _⟩
  case round =>
    obtain ⟨x, q, L, rfl, rfl, hx0, hxn, hq2, hf, hqn, hLq, hL, hown, hB⟩ := hrel
    replace hL := Lib.hid hL
    replace hown := Lib.hid hown
    replace hB := Lib.hid hB
    have hq31 : q ≤ 2147483648 := by
      rcases Nat.lt_or_ge 2147483648 q with h | h
      · exfalso
        have : 2147483648 * 2147483648 ≤ (q - 1) * (q - 1) := Nat.mul_le_mul (by omega) (by omega)
        omega
      · exact h
    have hQs : q * q ≤ 4611686018427387904 := Nat.mul_le_mul hq31 hq31
    obtain ⟨Q, hQ⟩ : ∃ Q, Q = q * q := ⟨_, rfl⟩
    have hQi : (q : Int) * (q : Int) = (Q : Int) := by rw [hQ]; push_cast; rfl
    rw [← hQ] at hQs
    by_cases hqq : Q ≤ x
    · have hqqI : (Q : Int) ≤ (x : Int) := by omega
      have hf0 : 0 < gk := by
        have : 2 * q ≤ Q := by rw [hQ]; exact Nat.mul_le_mul_right _ hq2
        omega
      obtain ⟨f', hf'⟩ : ∃ f', gk = f' + 1 := ⟨gk - 1, by omega⟩
      have hgo := facF_go (f := f') (n := x) (p := q) (by rw [← hQ]; exact hqq)
      have hst := strip_spec (n := x) (p := q) hq2 hx0
      have hle := strip_le (n := x) (p := q) hq2 hx0
      have hQn : q * q ≤ n0 := by rw [← hQ]; omega
      obtain ⟨X, hX⟩ : ∃ X, X = (strip x q).1 := ⟨_, rfl⟩
      obtain ⟨C, hC⟩ : ∃ C, C = (strip x q).2 := ⟨_, rfl⟩
      have hCx : C ≤ x := by rw [hC]; have := stripF_count x x q 0; unfold strip; omega
      rw [← hX, ← hC] at hgo
      rw [← hX] at hst hle
      have hX0 : 0 < X := hst.2.2
      have HL2 : Hid (L ++ ((if 0 < C then [(q, C)] else []) ++ facF f' X (q + 1)) = factorsL n0) := Lib.hid (by rw [← hgo, ← hf']; exact hL.out)
      replace hX := Lib.hid hX
      replace hC := Lib.hid hC
      have HQ := Lib.hid hQ
      have HF := Lib.hid hf'
      clear hQ hf' hgo hst
      obtain ⟨wo, rfl⟩ : ∃ wo : World, wo = wr := ⟨_, rfl⟩
      go_wp2_with fail
      go_loopg [0] x (fun f n wx => ∃ y c : Nat, n = .int .u64 (y : Int) ∧ 0 < y ∧ y ≤ f ∧ y ≤ x ∧ c + y ≤ x + 1 ∧ stripF f y q c = (X, C) ∧ wx = wo.alloc (.cells #[.int .u64 (q : Int), .int .i64 (c : Int)] 164))
      case atStart => exact ⟨x, 0, rfl, hx0, Nat.le_refl _, Nat.le_refl _, by omega, by rw [hX.out, hC.out]; rfl, rfl⟩
      case round =>
        obtain ⟨y, c, rfl, hy0, hyf, hyx, hcy, hstr, rfl⟩ := hrel
        by_cases hm : y % q = 0
        · have hmi : (y : Int) % (q : Int) = 0 := by omega
          obtain ⟨z, hz⟩ : ∃ z, z = y / q := ⟨_, rfl⟩
          have hzi : (y : Int) / (q : Int) = (z : Int) := by rw [hz]; rfl
          have hdm := Nat.div_add_mod y q
          rw [hm, ← hz, Nat.add_zero] at hdm
          have hz0 : 0 < z := by
            rcases Nat.eq_zero_or_pos z with h | h
            · rw [h, Nat.mul_zero] at hdm; omega
            · exact h
          have hzy : z < y := by
            have : 2 * z ≤ q * z := Nat.mul_le_mul_right _ hq2
            omega
          obtain ⟨f1, hf1⟩ : ∃ f1, gk = f1 + 1 := ⟨gk - 1, by omega⟩
          have HS : Hid (stripF f1 z q (c + 1) = (X, C)) := Lib.hid (by rw [hf1, stripF_step hm, ← hz] at hstr; exact hstr)
          have hf1' : Hid (gk = f1 + 1) := Lib.hid hf1
          have hzf : z ≤ f1 := by omega
          clear hm hz hdm hf1 hstr
          go_wp2
          go_roundg f1
          case measure => have := hf1'.out; omega
          case rel => exact ⟨z, c + 1, rfl, hz0, hzf, by omega, by omega, HS.out, by go_num⟩
        · obtain ⟨r, hr⟩ : ∃ r, r = y % q := ⟨_, rfl⟩
          have hri : (y : Int) % (q : Int) = (r : Int) := by rw [hr]; rfl
          have hr0 : ((r : Int) == 0) = false := by simp; omega
          have hfin := stripF_stop (f := gk) (c := c) hm
          rw [hstr] at hfin
          injection hfin with e1 e2
          subst e1 e2
          clear hm hr hstr
          by_cases hC0 : 0 < C
          · have hC0I : (0 : Int) < (C : Int) := by omega
            go_wp2_with (at_builtin; refine wpList_append_own _ rfl _ _ 161 rfl w.heap.size 164 i0 (.agg #[.int .u64 0, .int .i64 0]) 2 16 Try.underlying161 hi hz0 hz1 hz2 rfl (by decide) _ _ _ rfl ((hown.out.alloc _).alloc _) ⟨wo.heap.size + 1, 0, none⟩ 1 1 [.int .u64 (q : Int), .int .i64 (C : Int)] rfl rfl ?c1 ?c2 ?c3 ?c4 ?c5 ?_)
            case c1 =>
              intro j u hj
              match j, hj with
              | 0, hj => simp at hj; subst hj; simp [Addr.add]
              | 1, hj => simp at hj; subst hj; simp [Addr.add]
            case c2 => intro u hu; simp at hu; rcases hu with rfl | rfl <;> rfl
            case c3 => unfold maxLen; omega
            case c4 => omega
            case c5 => have := hB.out.size; simp; omega
            intro v' w1 hown' hgrow _
            have hB1 : Below w.heap.size w w1 := ((hB.out.alloc hB.out.size _).alloc (by have := hB.out.size; simp; omega) _).grown hgrow (by have := hB.out.size; simp; omega) (fun k hk => (hown.out.lt k hk).1)
            have hown2 : w1.ownsRow w.heap.size 164 2 v' (L ++ [(q, C)]).length (facC (L ++ [(q, C)])) := by rw [facC_snoc, List.length_append]; exact hown'
            replace hB1 := Lib.hid hB1
            replace hown2 := Lib.hid hown2
            clear hown' hgrow
            go_wp2
            go_roundg f'
            case measure => have := HF.out; omega
            case rel => exact ⟨X, q + 1, L ++ [(q, C)], rfl, by go_num, hX0, by omega, by omega, by have := HF.out; omega, by rw [Nat.add_sub_cancel]; exact hQn, by rw [List.length_append]; simp; omega, by have := HL2.out; rw [if_pos hC0] at this; rw [List.append_assoc]; exact this, hown2.out, hB1.out⟩
          · have hC0I : ¬ (0 : Int) < (C : Int) := by omega
            have ho2 := Lib.hid (hown.out.alloc (.cells #[.int .u64 (q : Int), .int .i64 (C : Int)] 164))
            have hB2 := Lib.hid (hB.out.alloc hB.out.size (.cells #[.int .u64 (q : Int), .int .i64 (C : Int)] 164))
            go_wp2
            go_roundg f'
            case measure => have := HF.out; omega
            case rel => exact ⟨X, q + 1, L, rfl, by go_num, hX0, by omega, by omega, by have := HF.out; omega, by rw [Nat.add_sub_cancel]; exact hQn, by omega, by have := HL2.out; rw [if_neg hC0, List.nil_append] at this; exact this, ho2.out, hB2.out⟩
    · have hqqI : ¬ (Q : Int) ≤ (x : Int) := by omega
      have hend := hL.out
      rw [facF_end (by rw [← hQ]; exact hqq)] at hend
      by_cases hx1 : 1 < x
      · rw [if_pos hx1] at hend
        have hx1I : (1 : Int) < (x : Int) := by omega
        replace hend := Lib.hid hend
        clear hQ
        go_wp2_with (at_builtin; refine wpList_append_own _ rfl _ _ 161 rfl w.heap.size 164 i0 (.agg #[.int .u64 0, .int .i64 0]) 2 16 Try.underlying161 hi hz0 hz1 hz2 rfl (by decide) _ _ _ rfl (hown.out.alloc _) ⟨wr.heap.size, 0, none⟩ 1 1 [.int .u64 (x : Int), .int .i64 1] rfl rfl ?d1 ?d2 ?d3 ?d4 ?d5 ?_)
        case d2 => exact ⟨rfl, rfl⟩
        case d3 => unfold maxLen; omega
        case d4 => omega
        case d5 => have := hB.out.size; simp; omega
        intro v' w1 hown' hgrow _
        have hB1 : Below w.heap.size w w1 := (hB.out.alloc hB.out.size _).grown hgrow (by have := hB.out.size; simp; omega) (fun k hk => (hown.out.lt k hk).1)
        have hown2 : w1.ownsRow w.heap.size 164 2 v' (factorsL n0).length (facC (factorsL n0)) := by rw [← hend.out, facC_snoc, List.length_append]; exact hown'
        replace hB1 := Lib.hid hB1
        replace hown2 := Lib.hid hown2
        clear hown' hgrow
        go_wp2
        go_ret
        exact ⟨v', rfl, hown2.out, hB1.out⟩
      · rw [if_neg hx1, List.append_nil] at hend
        have hx1I : ¬ (1 : Int) < (x : Int) := by omega
        replace hend := Lib.hid hend
        clear hQ
        go_wp2
        go_ret
        exact ⟨_, rfl, by rw [← hend.out]; exact hown.out, hB.out⟩
end Go.Proofs.Ytciafmnideihjaa
