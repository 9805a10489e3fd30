import Derived.Test.YtoaggmegmgdgbaaGreatAngA
import Derived.Deep.LoopGhost
import Derived.Deep.RegionHeld3
import Derived.Deep.CutBlock
import Derived.WalkMore
namespace Go.Proofs.YtoaggmegmgdgbaaGreat
def stripF : Nat → Nat → Nat → Nat → Nat × Nat
  | 0, n, _, c => (n, c)
  | f + 1, n, p, c => if n % p = 0 then stripF f (n / p) p (c + 1) else (n, c)
def strip (n p : Nat) : Nat × Nat := stripF n n p 0
def facF : Nat → Nat → Nat → List (Nat × Nat)
  | 0, n, _ => if 1 < n then [(n, 1)] else []
  | f + 1, n, p =>
    if p * p ≤ n then (if 0 < (strip n p).2 then [(p, (strip n p).2)] else []) ++ facF f (strip n p).1 (p + 1)
    else if 1 < n then [(n, 1)] else []
def factorsL (n : Nat) : List (Nat × Nat) := facF n n 2
theorem stripF_spec : ∀ (f n p c : Nat), 2 ≤ p → 0 < n → n ≤ f → (stripF f n p c).2 ≥ c ∧ (stripF f n p c).1 * p ^ ((stripF f n p c).2 - c) = n ∧ (stripF f n p c).1 % p ≠ 0 ∧ 0 < (stripF f n p c).1 := by
  intro f
  induction f with
  | zero => intro n p c _ h0 hf; omega
  | succ f ih =>
    intro n p c hp h0 hf
    simp only [stripF]
    split
    · rename_i hm
      have hd := Nat.div_add_mod n p
      rw [hm, Nat.add_zero] at hd
      have hq0 : 0 < n / p := by
        rcases Nat.eq_zero_or_pos (n / p) with h | h
        · rw [h, Nat.mul_zero] at hd; omega
        · exact h
      have hlt : n / p < n := Nat.div_lt_self h0 hp
      obtain ⟨h1, h2, h3, h4⟩ := ih (n / p) p (c + 1) hp hq0 (by omega)
      refine ⟨by omega, ?_, h3, h4⟩
      have e : (stripF f (n / p) p (c + 1)).2 - c = (stripF f (n / p) p (c + 1)).2 - (c + 1) + 1 := by omega
      rw [e, Nat.pow_succ, ← Nat.mul_assoc, h2, Nat.mul_comm]
      exact hd
    · rename_i hm
      refine ⟨Nat.le_refl _, by simp, hm, h0⟩
theorem strip_spec {n p : Nat} (hp : 2 ≤ p) (h0 : 0 < n) : (strip n p).1 * p ^ (strip n p).2 = n ∧ (strip n p).1 % p ≠ 0 ∧ 0 < (strip n p).1 := by
  have := stripF_spec n n p 0 hp h0 (Nat.le_refl _)
  exact ⟨this.2.1, this.2.2⟩
theorem strip_le {n p : Nat} (hp : 2 ≤ p) (h0 : 0 < n) : (strip n p).1 ≤ n := by
  obtain ⟨h1, -, h3⟩ := strip_spec hp h0
  have : 1 ≤ p ^ (strip n p).2 := Nat.pow_pos (by omega)
  have := Nat.mul_le_mul_left (strip n p).1 this
  omega
theorem stripF_step {f n p c : Nat} (h : n % p = 0) : stripF (f + 1) n p c = stripF f (n / p) p (c + 1) := by simp [stripF, h]
theorem stripF_stop {f n p c : Nat} (h : n % p ≠ 0) : stripF f n p c = (n, c) := by cases f <;> simp [stripF, h]
theorem facF_go {f n p : Nat} (h : p * p ≤ n) : facF (f + 1) n p = (if 0 < (strip n p).2 then [(p, (strip n p).2)] else []) ++ facF f (strip n p).1 (p + 1) := by simp [facF, h]
theorem facF_end {f n p : Nat} (h : ¬ p * p ≤ n) : facF f n p = if 1 < n then [(n, 1)] else [] := by cases f <;> simp [facF, h]
theorem stripF_count : ∀ (f n p c : Nat), (stripF f n p c).2 ≤ f + c := by
  intro f
  induction f with
  | zero => intro n p c; simp [stripF]
  | succ f ih =>
    intro n p c
    simp only [stripF]
    split
    · have := ih (n / p) p (c + 1); omega
    · simp
theorem facF_len : ∀ (f n p : Nat), (facF f n p).length ≤ f + 1 := by
  intro f
  induction f with
  | zero => intro n p; simp only [facF]; split <;> simp
  | succ f ih =>
    intro n p
    simp only [facF]
    split
    · rw [List.length_append]
      have := ih (strip n p).1 (p + 1)
      split <;> simp <;> omega
    · split <;> simp
open Go.RowKit
def powV (p n : Nat) : Value := .int .u64 ((p ^ n : Nat) : Int)
set_option maxHeartbeats 400000 in
theorem times_any (p c n : Nat) (w : World) (hn : n < 4294967296) (hs : ∀ k, k ≤ n → p ^ k < 9223372036854775808) :
    Calls Tryz.prog 204 #[.agg #[.int .u64 (p : Int), .int .i64 (c : Int)], .int .i64 (n : Int)] w (RetVal (powV p n) w) := by
  replace hs := Lib.hid hs
  go_enter Tryz.func204, Tryz.ntmps204
  go_wp2
  go_loop [5, 7] (fun x i => ∃ k X : Nat, i = .int .i64 (k : Int) ∧ x = .int .u64 (X : Int) ∧ k ≤ n ∧ X = p ^ k) (fun _ i => n - (intOf i).toNat)
  case atStart => exact ⟨0, 1, rfl, rfl, Nat.zero_le _, by simp⟩
  case round =>
    obtain ⟨k, X, rfl, rfl, hk, hX⟩ := hrel
    have hXs : X < 9223372036854775808 := by rw [hX]; exact hs.out k hk
    by_cases h0 : k < n
    · obtain ⟨Y, hY⟩ : ∃ Y, Y = X * p := ⟨_, rfl⟩
      have hYi : (X : Int) * (p : Int) = (Y : Int) := by rw [hY]; push_cast; rfl
      have hY2 : Y = p ^ (k + 1) := by rw [hY, hX, Nat.pow_succ]
      have hYs : Y < 9223372036854775808 := by rw [hY2]; exact hs.out _ h0
      replace hY2 := Lib.hid hY2
      clear hX hY
      go_wp2
      go_round
      case rel => exact ⟨k + 1, Y, by go_num, rfl, by omega, hY2.out⟩
      case measure => simp [intOf]; omega
    · obtain rfl : k = n := by omega
      replace hX := Lib.hid hX
      go_wp2
      go_ret
      exact ⟨by rw [powV, ← hX.out]; rfl, (Below.refl _ _).alloc (Nat.le_refl _) _⟩
theorem info_factor : (Tryz.prog.info? 275).map (fun i => (i.zero, i.size, i.bytes)) = some (some (.agg #[.int .u64 0, .int .i64 0]), 2, 16) := by kernel_rfl
def facC (L : List (Nat × Nat)) : List Value := L.flatMap fun x => [.int .u64 (x.1 : Int), .int .i64 (x.2 : Int)]
theorem facC_snoc (L : List (Nat × Nat)) (p c : Nat) : facC (L ++ [(p, c)]) = facC L ++ [.int .u64 (p : Int), .int .i64 (c : Int)] := by simp [facC]
theorem facC_len (L : List (Nat × Nat)) : (facC L).length = L.length * 2 := by
  induction L with
  | nil => rfl
  | cons x L ih =>
    have : facC (x :: L) = [.int .u64 (x.1 : Int), .int .i64 (x.2 : Int)] ++ facC L := by simp [facC]
    rw [this, List.length_append, ih]
    simp
    omega
def RetFac (L : List (Nat × Nat)) (w : World) (e : Ending) (w' : World) : Prop := ∃ v, e = .returned v ∧ w'.ownsRow w.heap.size 275 2 v L.length (facC L) ∧ Below w.heap.size w w'
set_option maxRecDepth 100000 in
set_option maxHeartbeats 1000000 in
theorem factors_any (n0 : Nat) (w : World) (h0 : 0 < n0) (hn : n0 < 4611686018427387904) :
    Calls Tryz.prog 203 #[.int .u64 (n0 : Int)] w (RetFac (factorsL n0) w) := by
  obtain ⟨i0, hi, hz0, hz1, hz2⟩ := info_parts info_factor
  go_enter Tryz.func203, Tryz.ntmps203
  go_wp2
  go_loopg [0, 3, 4] n0 (fun f n v p wr => ∃ (x q : Nat) (L : List (Nat × Nat)), n = .int .u64 (x : Int) ∧ p = .int .u64 (q : Int) ∧ 0 < x ∧ x ≤ n0 ∧ 2 ≤ q ∧ x + 2 ≤ f + q ∧ (q - 1) * (q - 1) ≤ n0 ∧ L.length + 2 ≤ q ∧ L ++ facF f x q = factorsL n0 ∧ wr.ownsRow w.heap.size 275 2 v L.length (facC L) ∧ Below w.heap.size w wr)
  case atStart => exact ⟨n0, 2, [], rfl, rfl, h0, Nat.le_refl _, Nat.le_refl _, Nat.le_refl _, by omega, by simp, rfl, World.ownsRow_nil _ _ _ _, Below.refl _ _⟩
  case round =>
    obtain ⟨x, q, L, rfl, rfl, hx0, hxn, hq2, hf, hqn, hLq, hL, hown, hB⟩ := hrel
    replace hL := Lib.hid hL
    replace hown := Lib.hid hown
    replace hB := Lib.hid hB
    have hq31 : q ≤ 2147483648 := by
      rcases Nat.lt_or_ge 2147483648 q with h | h
      · exfalso
        have : 2147483648 * 2147483648 ≤ (q - 1) * (q - 1) := Nat.mul_le_mul (by omega) (by omega)
        omega
      · exact h
    have hQs : q * q ≤ 4611686018427387904 := Nat.mul_le_mul hq31 hq31
    obtain ⟨Q, hQ⟩ : ∃ Q, Q = q * q := ⟨_, rfl⟩
    have hQi : (q : Int) * (q : Int) = (Q : Int) := by rw [hQ]; push_cast; rfl
    rw [← hQ] at hQs
    by_cases hqq : Q ≤ x
    · have hqqI : (Q : Int) ≤ (x : Int) := by omega
      have hf0 : 0 < gk := by
        have : 2 * q ≤ Q := by rw [hQ]; exact Nat.mul_le_mul_right _ hq2
        omega
      obtain ⟨f', hf'⟩ : ∃ f', gk = f' + 1 := ⟨gk - 1, by omega⟩
      have hgo := facF_go (f := f') (n := x) (p := q) (by rw [← hQ]; exact hqq)
      have hst := strip_spec (n := x) (p := q) hq2 hx0
      have hle := strip_le (n := x) (p := q) hq2 hx0
      have hQn : q * q ≤ n0 := by rw [← hQ]; omega
      obtain ⟨X, hX⟩ : ∃ X, X = (strip x q).1 := ⟨_, rfl⟩
      obtain ⟨C, hC⟩ : ∃ C, C = (strip x q).2 := ⟨_, rfl⟩
      have hCx : C ≤ x := by rw [hC]; have := stripF_count x x q 0; unfold strip; omega
      rw [← hX, ← hC] at hgo
      rw [← hX] at hst hle
      have hX0 : 0 < X := hst.2.2
      have HL2 : Hid (L ++ ((if 0 < C then [(q, C)] else []) ++ facF f' X (q + 1)) = factorsL n0) := Lib.hid (by rw [← hgo, ← hf']; exact hL.out)
      replace hX := Lib.hid hX
      replace hC := Lib.hid hC
      have HQ := Lib.hid hQ
      have HF := Lib.hid hf'
      clear hQ hf' hgo hst
      obtain ⟨wo, rfl⟩ : ∃ wo : World, wo = wr := ⟨_, rfl⟩
      go_wp2_with fail
      go_loopg [0] x (fun f n wx => ∃ y c : Nat, n = .int .u64 (y : Int) ∧ 0 < y ∧ y ≤ f ∧ y ≤ x ∧ c + y ≤ x + 1 ∧ stripF f y q c = (X, C) ∧ wx = wo.alloc (.cells #[.int .u64 (q : Int), .int .i64 (c : Int)] 275))
      case atStart => exact ⟨x, 0, rfl, hx0, Nat.le_refl _, Nat.le_refl _, by omega, by rw [hX.out, hC.out]; rfl, rfl⟩
      case round =>
        obtain ⟨y, c, rfl, hy0, hyf, hyx, hcy, hstr, rfl⟩ := hrel
        by_cases hm : y % q = 0
        · have hmi : (y : Int) % (q : Int) = 0 := by omega
          obtain ⟨z, hz⟩ : ∃ z, z = y / q := ⟨_, rfl⟩
          have hzi : (y : Int) / (q : Int) = (z : Int) := by rw [hz]; rfl
          have hdm := Nat.div_add_mod y q
          rw [hm, ← hz, Nat.add_zero] at hdm
          have hz0 : 0 < z := by
            rcases Nat.eq_zero_or_pos z with h | h
            · rw [h, Nat.mul_zero] at hdm; omega
            · exact h
          have hzy : z < y := by
            have : 2 * z ≤ q * z := Nat.mul_le_mul_right _ hq2
            omega
          obtain ⟨f1, hf1⟩ : ∃ f1, gk = f1 + 1 := ⟨gk - 1, by omega⟩
          have HS : Hid (stripF f1 z q (c + 1) = (X, C)) := Lib.hid (by rw [hf1, stripF_step hm, ← hz] at hstr; exact hstr)
          have hf1' : Hid (gk = f1 + 1) := Lib.hid hf1
          have hzf : z ≤ f1 := by omega
          clear hm hz hdm hf1 hstr
          go_wp2
          go_roundg f1
          case measure => have := hf1'.out; omega
          case rel => exact ⟨z, c + 1, rfl, hz0, hzf, by omega, by omega, HS.out, by go_num⟩
        · obtain ⟨r, hr⟩ : ∃ r, r = y % q := ⟨_, rfl⟩
          have hri : (y : Int) % (q : Int) = (r : Int) := by rw [hr]; rfl
          have hr0 : ((r : Int) == 0) = false := by simp; omega
          have hfin := stripF_stop (f := gk) (c := c) hm
          rw [hstr] at hfin
          injection hfin with e1 e2
          subst e1 e2
          clear hm hr hstr
          by_cases hC0 : 0 < C
          · have hC0I : (0 : Int) < (C : Int) := by omega
            go_wp2_with (at_builtin; refine wpList_append_own _ rfl _ _ 272 rfl w.heap.size 275 i0 (.agg #[.int .u64 0, .int .i64 0]) 2 16 Tryz.underlying272 hi hz0 hz1 hz2 rfl (by decide) _ _ _ rfl ((hown.out.alloc _).alloc _) ⟨wo.heap.size + 1, 0, none⟩ 1 1 [.int .u64 (q : Int), .int .i64 (C : Int)] rfl rfl ?c1 ?c2 ?c3 ?c4 ?c5 ?_)
            case c1 =>
              intro j u hj
              match j, hj with
              | 0, hj => simp at hj; subst hj; simp [Addr.add]
              | 1, hj => simp at hj; subst hj; simp [Addr.add]
            case c2 => intro u hu; simp at hu; rcases hu with rfl | rfl <;> rfl
            case c3 => unfold maxLen; omega
            case c4 => omega
            case c5 => have := hB.out.size; simp; omega
            intro v' w1 hown' hgrow _
            have hB1 : Below w.heap.size w w1 := ((hB.out.alloc hB.out.size _).alloc (by have := hB.out.size; simp; omega) _).grown hgrow (by have := hB.out.size; simp; omega) (fun k hk => (hown.out.lt k hk).1)
            have hown2 : w1.ownsRow w.heap.size 275 2 v' (L ++ [(q, C)]).length (facC (L ++ [(q, C)])) := by rw [facC_snoc, List.length_append]; exact hown'
            replace hB1 := Lib.hid hB1
            replace hown2 := Lib.hid hown2
            clear hown' hgrow
            go_wp2
            go_roundg f'
            case measure => have := HF.out; omega
            case rel => exact ⟨X, q + 1, L ++ [(q, C)], rfl, by go_num, hX0, by omega, by omega, by have := HF.out; omega, by rw [Nat.add_sub_cancel]; exact hQn, by rw [List.length_append]; simp; omega, by have := HL2.out; rw [if_pos hC0] at this; rw [List.append_assoc]; exact this, hown2.out, hB1.out⟩
          · have hC0I : ¬ (0 : Int) < (C : Int) := by omega
            have ho2 := Lib.hid (hown.out.alloc (.cells #[.int .u64 (q : Int), .int .i64 (C : Int)] 275))
            have hB2 := Lib.hid (hB.out.alloc hB.out.size (.cells #[.int .u64 (q : Int), .int .i64 (C : Int)] 275))
            go_wp2
            go_roundg f'
            case measure => have := HF.out; omega
            case rel => exact ⟨X, q + 1, L, rfl, by go_num, hX0, by omega, by omega, by have := HF.out; omega, by rw [Nat.add_sub_cancel]; exact hQn, by omega, by have := HL2.out; rw [if_neg hC0, List.nil_append] at this; exact this, ho2.out, hB2.out⟩
    · have hqqI : ¬ (Q : Int) ≤ (x : Int) := by omega
      have hend := hL.out
      rw [facF_end (by rw [← hQ]; exact hqq)] at hend
      by_cases hx1 : 1 < x
      · rw [if_pos hx1] at hend
        have hx1I : (1 : Int) < (x : Int) := by omega
        replace hend := Lib.hid hend
        clear hQ
        go_wp2_with (at_builtin; refine wpList_append_own _ rfl _ _ 272 rfl w.heap.size 275 i0 (.agg #[.int .u64 0, .int .i64 0]) 2 16 Tryz.underlying272 hi hz0 hz1 hz2 rfl (by decide) _ _ _ rfl (hown.out.alloc _) ⟨wr.heap.size, 0, none⟩ 1 1 [.int .u64 (x : Int), .int .i64 1] rfl rfl ?d1 ?d2 ?d3 ?d4 ?d5 ?_)
        case d2 => exact ⟨rfl, rfl⟩
        case d3 => unfold maxLen; omega
        case d4 => omega
        case d5 => have := hB.out.size; simp; omega
        intro v' w1 hown' hgrow _
        have hB1 : Below w.heap.size w w1 := (hB.out.alloc hB.out.size _).grown hgrow (by have := hB.out.size; simp; omega) (fun k hk => (hown.out.lt k hk).1)
        have hown2 : w1.ownsRow w.heap.size 275 2 v' (factorsL n0).length (facC (factorsL n0)) := by rw [← hend.out, facC_snoc, List.length_append]; exact hown'
        replace hB1 := Lib.hid hB1
        replace hown2 := Lib.hid hown2
        clear hown' hgrow
        go_wp2
        go_ret
        exact ⟨v', rfl, hown2.out, hB1.out⟩
      · rw [if_neg hx1, List.append_nil] at hend
        have hx1I : ¬ (1 : Int) < (x : Int) := by omega
        replace hend := Lib.hid hend
        clear hQ
        go_wp2
        go_ret
        exact ⟨_, rfl, by rw [← hend.out]; exact hown.out, hB.out⟩
def Good (M : List (Nat × Nat)) : Prop := ∀ x ∈ M, 2 ≤ x.1 ∧ 1 ≤ x.2
def prodL : List (Nat × Nat) → Nat
  | [] => 1
  | x :: M => x.1 ^ x.2 * prodL M
def phiA : Nat → List (Nat × Nat) → Nat
  | f, [] => f
  | f, x :: M => phiA (f * (x.1 ^ (x.2 - 1) * (x.1 - 1))) M
def ordP (d n p : Nat) : Nat → Nat → Nat
  | 0, l => l
  | k + 1, l => if d ^ (l / p) % n = 1 then ordP d n p k (l / p) else l
def ordA (d n : Nat) : Nat → List (Nat × Nat) → Nat
  | l, [] => l
  | l, x :: M => ordA d n (ordP d n x.1 x.2 l) M
def phiN (n : Nat) : Nat := phiA 1 (factorsL n)
def ordG (n d : Nat) : Nat := if n = 1 then 1 else ordA d n (phiN n) (factorsL (phiN n))
def kindF : Nat → Nat → Nat → Nat → Nat × Nat
  | 0, n, d, c => (c, ordG n d)
  | f + 1, n, d, c => if Nat.gcd n d = 1 then (c, ordG n d) else kindF f (n / Nat.gcd n d) d (c + 1)
def kindN (n d : Nat) : Nat × Nat := kindF n n d 0
theorem Good.nil : Good [] := by simp [Good]
theorem Good.cons {p c : Nat} {M : List (Nat × Nat)} (hp : 2 ≤ p) (hc : 1 ≤ c) (h : Good M) : Good ((p, c) :: M) := by
  intro x hx
  rcases List.mem_cons.1 hx with rfl | hx
  · exact ⟨hp, hc⟩
  · exact h x hx
theorem Good.head {p c : Nat} {M : List (Nat × Nat)} (h : Good ((p, c) :: M)) : 2 ≤ p ∧ 1 ≤ c := h (p, c) (by simp)
theorem Good.tail {x : Nat × Nat} {M : List (Nat × Nat)} (h : Good (x :: M)) : Good M := fun y hy => h y (List.mem_cons_of_mem _ hy)
theorem facF_good : ∀ (f n p : Nat), 2 ≤ p → 0 < n → Good (facF f n p) ∧ prodL (facF f n p) = n := by
  have hend : ∀ n : Nat, 0 < n → Good (if 1 < n then [(n, 1)] else []) ∧ prodL (if 1 < n then [(n, 1)] else []) = n := by
    intro n h0
    split
    · exact ⟨Good.cons (by omega) (Nat.le_refl _) Good.nil, by simp [prodL]⟩
    · exact ⟨Good.nil, by simp [prodL]; omega⟩
  intro f
  induction f with
  | zero => intro n p _ h0; simp only [facF]; exact hend n h0
  | succ f ih =>
    intro n p hp h0
    simp only [facF]
    split
    · obtain ⟨h1, -, h3⟩ := strip_spec hp h0
      obtain ⟨g1, g2⟩ := ih (strip n p).1 (p + 1) (by omega) h3
      split
      · rename_i hc
        rw [List.singleton_append]
        refine ⟨Good.cons hp hc g1, ?_⟩
        simp only [prodL]
        rw [g2, Nat.mul_comm]
        exact h1
      · rename_i hc
        rw [List.nil_append]
        refine ⟨g1, ?_⟩
        rw [g2]
        have e : (strip n p).2 = 0 := by omega
        rw [e] at h1
        simpa using h1
    · exact hend n h0
theorem factorsL_good {n : Nat} (h0 : 0 < n) : Good (factorsL n) ∧ prodL (factorsL n) = n := facF_good n n 2 (Nat.le_refl _) h0
theorem prodL_pos : ∀ (M : List (Nat × Nat)), Good M → 0 < prodL M := by
  intro M
  induction M with
  | nil => intro _; simp [prodL]
  | cons x M ih =>
    intro h
    simp only [prodL]
    exact Nat.mul_pos (Nat.pow_pos (by have := (h x (by simp)).1; omega)) (ih h.tail)
theorem step_le {p c : Nat} (hp : 2 ≤ p) (hc : 1 ≤ c) : 0 < p ^ (c - 1) * (p - 1) ∧ p ^ (c - 1) * (p - 1) ≤ p ^ c := by
  obtain ⟨k, rfl⟩ : ∃ k, c = k + 1 := ⟨c - 1, by omega⟩
  rw [Nat.add_sub_cancel, Nat.pow_succ]
  exact ⟨Nat.mul_pos (Nat.pow_pos (by omega)) (by omega), Nat.mul_le_mul_left _ (by omega)⟩
theorem phiA_le : ∀ (M : List (Nat × Nat)) (f : Nat), Good M → 0 < f → 0 < phiA f M ∧ phiA f M ≤ f * prodL M := by
  intro M
  induction M with
  | nil => intro f _ h; simp [phiA, prodL, h]
  | cons x M ih =>
    intro f h h0
    obtain ⟨hp, hc⟩ := h x (by simp)
    obtain ⟨s1, s2⟩ := step_le hp hc
    simp only [phiA, prodL]
    obtain ⟨i1, i2⟩ := ih (f * (x.1 ^ (x.2 - 1) * (x.1 - 1))) h.tail (Nat.mul_pos h0 s1)
    refine ⟨i1, Nat.le_trans i2 ?_⟩
    rw [← Nat.mul_assoc f (x.1 ^ x.2)]
    exact Nat.mul_le_mul_right _ (Nat.mul_le_mul_left _ s2)
theorem phiN_le {n : Nat} (h0 : 0 < n) : 0 < phiN n ∧ phiN n ≤ n := by
  obtain ⟨g, e⟩ := factorsL_good h0
  have := phiA_le (factorsL n) 1 g (by omega)
  rw [e, Nat.one_mul] at this
  exact this
theorem ordP_spec {d n p : Nat} (hp : 2 ≤ p) : ∀ (k l R : Nat), 0 < l → R * p ^ k ∣ l → R ∣ ordP d n p k l ∧ 0 < ordP d n p k l ∧ ordP d n p k l ≤ l := by
  intro k
  induction k with
  | zero => intro l R h0 hd; simp [ordP]; exact ⟨by simpa using hd, h0⟩
  | succ k ih =>
    intro l R h0 hd
    simp only [ordP]
    split
    · obtain ⟨q, rfl⟩ := hd
      have e : R * p ^ (k + 1) * q / p = R * p ^ k * q := by
        rw [Nat.pow_succ, show R * (p ^ k * p) * q = p * (R * p ^ k * q) by simp only [Nat.mul_comm, Nat.mul_left_comm]]
        exact Nat.mul_div_cancel_left _ (by omega)
      have h1 : 0 < R * p ^ (k + 1) * q / p := by
        rw [e]
        rcases Nat.eq_zero_or_pos (R * p ^ k * q) with h | h
        · exfalso
          have : R * p ^ (k + 1) * q = p * (R * p ^ k * q) := by
            rw [Nat.pow_succ]; simp only [Nat.mul_comm, Nat.mul_left_comm]
          rw [h, Nat.mul_zero] at this
          omega
        · exact h
      obtain ⟨a, b, c⟩ := ih (R * p ^ (k + 1) * q / p) R h1 (by rw [e]; exact Nat.dvd_mul_right _ _)
      exact ⟨a, b, Nat.le_trans c (Nat.div_le_self _ _)⟩
    · exact ⟨Nat.dvd_trans (Nat.dvd_mul_right _ _) hd, h0, Nat.le_refl _⟩
theorem ordA_spec {d n : Nat} : ∀ (M : List (Nat × Nat)) (l : Nat), Good M → 0 < l → prodL M ∣ l → 0 < ordA d n l M ∧ ordA d n l M ≤ l := by
  intro M
  induction M with
  | nil => intro l _ h0 _; exact ⟨h0, Nat.le_refl _⟩
  | cons x M ih =>
    intro l h h0 hd
    obtain ⟨hp, -⟩ := h x (by simp)
    simp only [prodL] at hd
    obtain ⟨a, b, c⟩ := ordP_spec (d := d) (n := n) hp x.2 l (prodL M) h0 (by rw [Nat.mul_comm]; exact hd)
    obtain ⟨i1, i2⟩ := ih (ordP d n x.1 x.2 l) h.tail b a
    exact ⟨i1, Nat.le_trans i2 c⟩
theorem ordG_le {n d : Nat} (h0 : 0 < n) : 0 < ordG n d ∧ ordG n d ≤ n := by
  unfold ordG
  split
  · omega
  · obtain ⟨h1, h2⟩ := phiN_le h0
    obtain ⟨g, e⟩ := factorsL_good h1
    obtain ⟨a, b⟩ := ordA_spec (d := d) (n := n) (factorsL (phiN n)) (phiN n) g h1 (by rw [e]; exact Nat.dvd_refl _)
    exact ⟨a, Nat.le_trans b h2⟩
theorem kindF_go {f n d c : Nat} (h : Nat.gcd n d ≠ 1) : kindF (f + 1) n d c = kindF f (n / Nat.gcd n d) d (c + 1) := by simp [kindF, h]
theorem kindF_end {f n d c : Nat} (h : Nat.gcd n d = 1) : kindF f n d c = (c, ordG n d) := by cases f <;> simp [kindF, h]
theorem ordP_go {d n p k l : Nat} (h : d ^ (l / p) % n = 1) : ordP d n p (k + 1) l = ordP d n p k (l / p) := by simp [ordP, h]
theorem ordP_end {d n p k l : Nat} (h : d ^ (l / p) % n ≠ 1) : ordP d n p k l = l := by cases k <;> simp [ordP, h]
open Go.RowKit
theorem fac_row {w : World} {base : Nat} {v : Value} {L : List (Nat × Nat)} (h : w.ownsRow base 275 2 v L.length (facC L)) (h0 : 0 < L.length) :
    ∃ g cap cur, v = .slice (some ⟨g, 0, none⟩) L.length cap ∧ Blk w g 275 cur ∧ base ≤ g ∧ ∀ j, j < L.length * 2 → cur[j]? = (facC L)[j]? := by
  rcases h.2 with ⟨_, h'⟩ | ⟨g, cap, cur, h', _, hg, hb, _, _, htake⟩
  · omega
  · refine ⟨g, cap, cur, h', hg, (h.lt g (by rw [h']; rfl)).1, fun j hj => ?_⟩
    rw [← htake, List.getElem?_take, if_pos hj]
    simp
theorem facC_cons (p c : Nat) (M : List (Nat × Nat)) : facC ((p, c) :: M) = [.int .u64 (p : Int), .int .i64 (c : Int)] ++ facC M := by simp [facC]
theorem facC_app (P M : List (Nat × Nat)) : facC (P ++ M) = facC P ++ facC M := by simp [facC]
theorem facC_at {P M : List (Nat × Nat)} {p c k : Nat} (hk : P.length = k) : (facC (P ++ (p, c) :: M))[k * 2]? = some (.int .u64 (p : Int)) ∧ (facC (P ++ (p, c) :: M))[k * 2 + 1]? = some (.int .i64 (c : Int)) := by
  rw [facC_app, facC_cons, ← hk]
  constructor
  · rw [List.getElem?_append_right (by rw [facC_len]; omega), facC_len]; simp
  · rw [List.getElem?_append_right (by rw [facC_len]; omega), facC_len]; simp
set_option maxRecDepth 100000 in
set_option maxHeartbeats 1000000 in
theorem order_any (n d : Nat) (w : World) (h0 : 0 < n) (hn : n < 4294967296) :
    Calls Tryz.prog 173 #[.int .u64 (n : Int), .int .u64 (d : Int)] w (RetVal (.int .i64 (ordG n d : Int)) w) := by
  by_cases h1 : n = 1
  · subst h1
    have hv : Hid (ordG 1 d = 1) := Lib.hid (by simp [ordG])
    go_enter Tryz.func173, Tryz.ntmps173
    go_wp2_with fail
    apply wp_scope_straight
    go_wp2
    go_ret
    exact ⟨by rw [hv.out]; rfl, Below.refl _ _⟩
  · have h1I : ((n : Int) == 1) = false := by simp; omega
    obtain ⟨gN, eN⟩ := factorsL_good h0
    obtain ⟨q1, q2⟩ := phiN_le h0
    obtain ⟨gP, eP⟩ := factorsL_good q1
    obtain ⟨L, hL⟩ : ∃ L, L = factorsL n := ⟨_, rfl⟩
    obtain ⟨F0, hF0⟩ : ∃ F0, F0 = phiN n := ⟨_, rfl⟩
    obtain ⟨K, hK⟩ : ∃ K, K = factorsL F0 := ⟨_, rfl⟩
    have hphi : Hid (phiA 1 L = F0) := Lib.hid (by rw [hF0, hL]; rfl)
    have hres : Hid (ordG n d = ordA d n F0 K) := Lib.hid (by rw [hK, hF0]; simp [ordG, h1])
    rw [← hL] at gN eN
    rw [← hF0] at q1 q2 gP eP
    rw [← hK] at gP eP
    have hL0 : 0 < L.length := by
      rcases L with _ | ⟨x, L⟩
      · simp [prodL] at eN; omega
      · simp
    replace gN := Lib.hid gN
    replace eN := Lib.hid eN
    replace gP := Lib.hid gP
    replace eP := Lib.hid eP
    have hlenL : L.length ≤ 4294967296 := by
      have := facF_len n n 2
      rw [hL]
      unfold factorsL
      omega
    have hlenK : K.length ≤ 4294967296 := by
      have := facF_len F0 F0 2
      rw [hK]
      unfold factorsL
      omega
    clear hF0
    go_enter Tryz.func173, Tryz.ntmps173
    go_wp2_with fail
    apply wp_scope_straight
    go_wp2_with fail
    refine (factors_any n _ h0 (by omega)).mono ?_
    rintro e w1 ⟨v, rfl, hown, hB⟩
    rw [← hL] at hown
    obtain ⟨g, cap, cur, rfl, hblk, hgb, hcur⟩ := fac_row hown hL0
    obtain ⟨len, hlen⟩ : ∃ len, len = L.length := ⟨_, rfl⟩
    rw [← hlen] at hcur hlenL ⊢
    replace hcur := Lib.hid hcur
    replace hlen := Lib.hid hlen
    clear hown
    replace hL := Lib.hid hL
    replace hK := Lib.hid hK
    go_wp2_with fail
    go_loopw [5, 16] (fun f i wr => ∃ (F k : Nat) (P M : List (Nat × Nat)), f = .int .i64 (F : Int) ∧ i = .int .i64 (k : Int) ∧ P.length = k ∧ L = P ++ M ∧ Good M ∧ 0 < F ∧ F * prodL M ≤ n ∧ phiA F M = F0 ∧ Blk wr g 275 cur ∧ Below w.heap.size w wr) (fun _ i _ => len - (intOf i).toNat)
    case atStart => exact ⟨1, 0, [], L, rfl, rfl, rfl, rfl, gN.out, by omega, by rw [eN.out]; omega, hphi.out, hblk, hB⟩
    case round =>
      obtain ⟨F, k, P, M, rfl, rfl, hP, hPM, gM, hF, hFM, hpA, hbr, hBr⟩ := hrel
      clear hblk hB
      rcases M with _ | ⟨⟨p, c⟩, M⟩
      · have hkl : k = len := by rw [hlen.out, hPM, List.append_nil, hP]
        subst hkl
        simp only [phiA] at hpA
        subst hpA
        replace hBr := Lib.hid hBr
        clear hbr hFM gM hPM hP
        go_wp2_with fail
        apply wp_label
        go_wp2_with fail
        refine (factors_any F _ hF (by omega)).mono ?_
        rintro e w2 ⟨v2, rfl, hown2, hB2⟩
        rw [← hK.out] at hown2
        replace hB2 := hBr.out.trans (hB2.mono hBr.out.size)
        clear hBr
        rcases K with _ | ⟨x, K⟩
        · have hres2 : ordG n d = F := by rw [hres.out]; rfl
          have hv : v2 = .slice none 0 0 ∨ ∃ g2 cap2, v2 = .slice (some ⟨g2, 0, none⟩) 0 cap2 := by
            rcases hown2.2 with ⟨h, _⟩ | ⟨g2, cap2, _, h, _⟩
            · exact .inl h
            · exact .inr ⟨g2, cap2, h⟩
          replace hB2 := Lib.hid hB2
          replace hres2 := Lib.hid hres2
          clear hown2 hK hres
          rcases hv with rfl | ⟨g2, cap2, rfl⟩
          all_goals
            go_wp2_with fail
            go_loopw [8, 40] (fun l j wr => l = .int .u64 (F : Int) ∧ j = .int .i64 0 ∧ wr = w2) (fun _ _ _ => 0)
            case atStart => exact ⟨rfl, rfl, rfl⟩
            case round =>
              obtain ⟨rfl, rfl, rfl⟩ := hrel
              go_wp2_with fail
              go_ret
              exact ⟨by rw [hres2.out]; rfl, hB2.out⟩
        · obtain ⟨K0, hK0⟩ : ∃ K0, K0 = x :: K := ⟨_, rfl⟩
          rw [← hK0] at hown2 hK hres gP eP hlenK
          obtain ⟨g2, cap2, cur2, rfl, hblk, hgb2, hcur2⟩ := fac_row hown2 (by rw [hK0]; simp)
          obtain ⟨ln, hln⟩ : ∃ ln, ln = K0.length := ⟨_, rfl⟩
          rw [← hln] at hcur2 hlenK ⊢
          replace hcur2 := Lib.hid hcur2
          replace hln := Lib.hid hln
          clear hown2 hK0
          go_wp2_with fail
          go_loopw [8, 40] (fun x i wr => ∃ (l k : Nat) (P M : List (Nat × Nat)), x = .int .u64 (l : Int) ∧ i = .int .i64 (k : Int) ∧ P.length = k ∧ K0 = P ++ M ∧ Good M ∧ 0 < l ∧ l ≤ F ∧ prodL M ∣ l ∧ ordA d n l M = ordA d n F K0 ∧ Blk wr g2 275 cur2 ∧ Below w.heap.size w wr) (fun _ i _ => ln - (intOf i).toNat)
          case atStart => exact ⟨F, 0, [], K0, rfl, rfl, rfl, rfl, gP.out, hF, Nat.le_refl _, by rw [eP.out]; exact Nat.dvd_refl _, rfl, hblk, hB2⟩
          case round =>
            obtain ⟨l, j, P, M, rfl, rfl, hP, hPM, gM, hl0, hlF, hdv, hoA, hbr, hBr⟩ := hrel
            clear hblk hB2
            rcases M with _ | ⟨⟨p, c⟩, M⟩
            · have hjl : j = ln := by rw [hln.out, hPM, List.append_nil, hP]
              subst hjl
              simp only [ordA] at hoA
              have hfin := Lib.hid (hres.out.trans hoA.symm)
              replace hBr := Lib.hid hBr
              clear hoA hbr hdv gM hPM hP
              go_wp2_with fail
              go_ret
              exact ⟨by rw [hfin.out]; rfl, hBr.out⟩
            · obtain ⟨hp, hc⟩ := gM.head
              have gM' := gM.tail
              have hjl : j < ln := by rw [hln.out, hPM, List.length_append, hP]; simp
              have hat := facC_at (M := M) (p := p) (c := c) hP
              have c0 : wr.cell? ⟨g2, j * 2, none⟩ = some (.int .u64 (p : Int)) := by rw [Blk.cell hbr, hcur2.out _ (by omega), hPM]; exact hat.1
              have c1 : wr.cell? ⟨g2, j * 2 + 1, none⟩ = some (.int .i64 (c : Int)) := by rw [Blk.cell hbr, hcur2.out _ (by omega), hPM]; exact hat.2
              simp only [prodL] at hdv
              simp only [ordA] at hoA
              have hdv2 : prodL M * p ^ c ∣ l := by rw [Nat.mul_comm]; exact hdv
              have hpc : p ^ c ≤ l := Nat.le_of_dvd hl0 (Nat.dvd_trans (Nat.dvd_mul_left _ _) hdv2)
              have hcs : c < l := Nat.lt_of_lt_of_le (Nat.lt_pow_self (by omega)) hpc
              have hps : p ≤ l := by
                refine Nat.le_trans ?_ hpc
                have := Nat.pow_le_pow_right (show 0 < p by omega) hc
                rwa [Nat.pow_one] at this
              obtain ⟨R, hR⟩ : ∃ R, R = ordP d n p c l := ⟨_, rfl⟩
              have hRs := ordP_spec (d := d) (n := n) hp c l (prodL M) hl0 hdv2
              rw [← hR] at hoA hRs
              obtain ⟨hR1, hR0, hRl⟩ := hRs
              have qp := Blk.new wr 275 #[.int .u64 (p : Int), .int .i64 (c : Int)]
              have qg := hbr.alloc (.cells #[.int .u64 (p : Int), .int .i64 (c : Int)] 275)
              have hB3 := hBr.alloc hBr.size (.cells #[.int .u64 (p : Int), .int .i64 (c : Int)] 275)
              replace hoA := Lib.hid hoA
              replace hR := Lib.hid hR
              replace hR1 := Lib.hid hR1
              replace gM' := Lib.hid gM'
              replace hPM := Lib.hid hPM
              replace hP := Lib.hid hP
              clear hat hdv hdv2 gM hpc hbr hBr
              go_upto_region 13 with fail
              generalize hw3 : wr.alloc (.cells #[.int .u64 (p : Int), .int .i64 (c : Int)] 275) = w3 at qp qg hB3 ⊢
              generalize hgp : wr.heap.size = gp at *
              have d0 : w3.cell? ⟨gp, 0, none⟩ = some (.int .u64 (p : Int)) := qp.cell 0
              have d1 : w3.cell? ⟨gp, 1, none⟩ = some (.int .i64 (c : Int)) := qp.cell 1
              replace qp := Lib.hid qp
              replace qg := Lib.hid qg
              replace hB3 := Lib.hid hB3
              clear hw3 hgp c0 c1
              go_wp2_with fail
              go_loopw [8, 46] (fun x i wx => ∃ y t : Nat, x = .int .u64 (y : Int) ∧ i = .int .i64 (t : Int) ∧ t ≤ c ∧ y ≤ l ∧ ordP d n p (c - t) y = R ∧ Dr w3 wx) (fun _ i _ => c - (intOf i).toNat)
              case atStart => exact ⟨l, 0, rfl, rfl, Nat.zero_le _, Nat.le_refl _, by rw [hR.out]; rfl, Dr.refl _⟩
              case round =>
                obtain ⟨y, t, rfl, rfl, htc, hyl, hoR, z, rfl⟩ := hrel
                have e0 : (w3.drewN z).cell? ⟨gp, 0, none⟩ = some (.int .u64 (p : Int)) := Blk.cell (Blk.drewN qp.out z) 0
                have e1 : (w3.drewN z).cell? ⟨gp, 1, none⟩ = some (.int .i64 (c : Int)) := Blk.cell (Blk.drewN qp.out z) 1
                have q4 := Lib.hid (Blk.drewN qg.out z)
                have B4 := Lib.hid (below_drewN hB3.out z)
                clear d0 d1
                by_cases htl : t < c
                · obtain ⟨q, hq⟩ : ∃ q, q = y / p := ⟨_, rfl⟩
                  have hqi : (y : Int) / (p : Int) = (q : Int) := by rw [hq]; rfl
                  have hqy : q ≤ y := by rw [hq]; exact Nat.div_le_self _ _
                  obtain ⟨m, hm⟩ : ∃ m, c - t = m + 1 := ⟨c - t - 1, by omega⟩
                  obtain ⟨X, hX⟩ : ∃ X, X = d ^ q % n := ⟨_, rfl⟩
                  have hm2 : Hid (c - (t + 1) = m) := Lib.hid (by omega)
                  rw [hm] at hoR
                  by_cases hX1 : X = 1
                  · rw [ordP_go (by rw [← hq, ← hX]; exact hX1), ← hq] at hoR
                    replace hoR := Lib.hid hoR
                    replace hX := Lib.hid hX
                    have hX1I : (X : Int) = 1 := by omega
                    clear hm hq
                    go_wp2_with fail
                    refine (power_any d q n _ (by omega) h0 hn).mono ?_
                    rintro e w5 ⟨rfl, hD5⟩
                    rw [← hX.out]
                    have D5 := ((Dr.refl w3).drewN z).trans hD5
                    clear hD5
                    obtain ⟨z5, rfl⟩ := D5
                    have D5 := (Dr.refl w3).drewN z5
                    have k0 : (w3.drewN z5).cell? ⟨gp, 0, none⟩ = some (.int .u64 (p : Int)) := Blk.cell (Blk.drewN qp.out z5) 0
                    have q5 := Lib.hid (Blk.drewN qg.out z5)
                    have B5 := Lib.hid (below_drewN hB3.out z5)
                    replace D5 := Lib.hid D5
                    clear e0 e1 q4 B4
                    go_wp2_with fail
                    go_roundw
                    case rel => exact ⟨q, t + 1, rfl, by go_num, by omega, by omega, by rw [hm2.out]; exact hoR.out, D5.out⟩
                    case measure => simp [intOf]; omega
                  · rw [ordP_end (by rw [← hq, ← hX]; exact hX1)] at hoR
                    subst hoR
                    replace hX := Lib.hid hX
                    have hX1I : ¬ (X : Int) = 1 := by omega
                    clear hm hq
                    go_wp2_with fail
                    refine (power_any d q n _ (by omega) h0 hn).mono ?_
                    rintro e w5 ⟨rfl, hD5⟩
                    rw [← hX.out]
                    have D5 := ((Dr.refl w3).drewN z).trans hD5
                    clear hD5
                    obtain ⟨z5, rfl⟩ := D5
                    have D5 := (Dr.refl w3).drewN z5
                    have k0 : (w3.drewN z5).cell? ⟨gp, 0, none⟩ = some (.int .u64 (p : Int)) := Blk.cell (Blk.drewN qp.out z5) 0
                    have q5 := Lib.hid (Blk.drewN qg.out z5)
                    have B5 := Lib.hid (below_drewN hB3.out z5)
                    replace D5 := Lib.hid D5
                    clear e0 e1 q4 B4
                    go_wp2_with fail
                    go_roundw
                    case rel => exact ⟨y, j + 1, P ++ [(p, c)], M, rfl, by go_num, by rw [List.length_append, hP.out]; rfl, by rw [hPM.out]; simp, gM'.out, hR0, by omega, hR1.out, hoA.out, q5.out, B5.out⟩
                    case measure => simp [intOf]; omega
                · obtain rfl : t = c := by omega
                  have hoR2 : y = R := by rw [← hoR, Nat.sub_self]; rfl
                  subst hoR2
                  clear hoR
                  go_wp2_with fail
                  go_roundw
                  case rel => exact ⟨y, j + 1, P ++ [(p, t)], M, rfl, by go_num, by rw [List.length_append, hP.out]; rfl, by rw [hPM.out]; simp, gM'.out, hR0, by omega, hR1.out, hoA.out, q4.out, B4.out⟩
                  case measure => simp [intOf]; omega
      · obtain ⟨hp, hc⟩ := gM.head
        have gM' := gM.tail
        have hkl : k < len := by rw [hlen.out, hPM, List.length_append, hP]; simp
        have hat := facC_at (M := M) (p := p) (c := c) hP
        have c0 : wr.cell? ⟨g, k * 2, none⟩ = some (.int .u64 (p : Int)) := by rw [Blk.cell hbr, hcur.out _ (by omega), hPM]; exact hat.1
        have c1 : wr.cell? ⟨g, k * 2 + 1, none⟩ = some (.int .i64 (c : Int)) := by rw [Blk.cell hbr, hcur.out _ (by omega), hPM]; exact hat.2
        simp only [prodL] at hFM
        simp only [phiA] at hpA
        obtain ⟨s1, s2⟩ := step_le hp hc
        have hMp := prodL_pos M gM'
        obtain ⟨U, hU⟩ : ∃ U, U = p ^ (c - 1) := ⟨_, rfl⟩
        obtain ⟨V, hV⟩ : ∃ V, V = U * (p - 1) := ⟨_, rfl⟩
        obtain ⟨F', hF'⟩ : ∃ F', F' = F * V := ⟨_, rfl⟩
        have hpc : p ^ c ≤ n := by
          refine Nat.le_trans ?_ hFM
          have e1 : p ^ c * 1 ≤ p ^ c * prodL M := Nat.mul_le_mul_left _ hMp
          have e2 : 1 * (p ^ c * prodL M) ≤ F * (p ^ c * prodL M) := Nat.mul_le_mul_right _ hF
          omega
        have hcs : c < n := Nat.lt_of_lt_of_le (Nat.lt_pow_self (by omega)) hpc
        have hps : p ≤ n := by
          refine Nat.le_trans ?_ hpc
          have := Nat.pow_le_pow_right (show 0 < p by omega) hc
          rwa [Nat.pow_one] at this
        rw [← hU, ← hV] at s1 s2
        have hF's : F' * prodL M ≤ n := by
          refine Nat.le_trans ?_ hFM
          rw [hF', ← Nat.mul_assoc]
          exact Nat.mul_le_mul_right _ (Nat.mul_le_mul_left _ s2)
        have hF'0 : 0 < F' := by rw [hF']; exact Nat.mul_pos hF s1
        have hF'n : F' ≤ n := by
          have : F' * 1 ≤ F' * prodL M := Nat.mul_le_mul_left _ hMp
          omega
        have hUn : U ≤ n := by
          have : U * 1 ≤ U * (p - 1) := Nat.mul_le_mul_left _ (by omega)
          omega
        rw [← hU, ← hV, ← hF'] at hpA
        obtain ⟨c', hc'⟩ : ∃ c', c' = c - 1 := ⟨_, rfl⟩
        have hci : (c : Int) - 1 = (c' : Int) := by omega
        obtain ⟨p', hp'⟩ : ∃ p', p' = p - 1 := ⟨_, rfl⟩
        have hpi : (p : Int) - 1 = (p' : Int) := by omega
        have hVi : (U : Int) * (p' : Int) = (V : Int) := by rw [hV, hp']; push_cast; rfl
        have hFi : (F : Int) * (V : Int) = (F' : Int) := by rw [hF']; push_cast; rfl
        have hVn : V ≤ n := Nat.le_trans s2 hpc
        have hpow : Hid (∀ j, j ≤ c' → p ^ j < 9223372036854775808) := Lib.hid (fun j hj => by
          have := Nat.pow_le_pow_right (show 0 < p by omega) (show j ≤ c by omega)
          omega)
        have hUv : Hid (p ^ c' = U) := Lib.hid (by rw [hU, hc'])
        replace hbr := Lib.hid hbr
        replace hBr := Lib.hid hBr
        replace hpA := Lib.hid hpA
        replace hF's := Lib.hid hF's
        replace gM' := Lib.hid gM'
        replace hPM := Lib.hid hPM
        replace hP := Lib.hid hP
        clear hat hU hV hF' hFM gM hpc s2 hc' hp'
        have qp := Blk.new wr 275 #[.int .u64 (p : Int), .int .i64 (c : Int)]
        have qg := hbr.out.alloc (.cells #[.int .u64 (p : Int), .int .i64 (c : Int)] 275)
        have hB2 := hBr.out.alloc hBr.out.size (.cells #[.int .u64 (p : Int), .int .i64 (c : Int)] 275)
        have w1i : IntKind.i64.wrap (c' : Int) = (c' : Int) := by rw [IntKind.wrap_i64]; omega
        have w2i : IntKind.i64.wrap (U : Int) = (U : Int) := by rw [IntKind.wrap_i64]; omega
        have w3i : IntKind.i64.wrap (p' : Int) = (p' : Int) := by rw [IntKind.wrap_i64]; omega
        have w4i : IntKind.u64.wrap (p' : Int) = (p' : Int) := by rw [IntKind.wrap_u64]; omega
        have w5i : IntKind.i64.wrap (V : Int) = (V : Int) := by rw [IntKind.wrap_i64]; omega
        have w6i : IntKind.i64.wrap (F' : Int) = (F' : Int) := by rw [IntKind.wrap_i64]; omega
        go_wp2_with fail
        generalize hw2 : wr.alloc (.cells #[.int .u64 (p : Int), .int .i64 (c : Int)] 275) = w2 at qp qg hB2 ⊢
        generalize hgp : wr.heap.size = gp at *
        have d0 : w2.cell? ⟨gp, 0, none⟩ = some (.int .u64 (p : Int)) := qp.cell 0
        have d1 : w2.cell? ⟨gp, 1, none⟩ = some (.int .i64 (c : Int)) := qp.cell 1
        replace qp := Lib.hid qp
        replace qg := Lib.hid qg
        replace hB2 := Lib.hid hB2
        clear hw2 hgp c0 c1
        go_region_held3 (fun w' => w'.cell? ⟨gp, 0, none⟩ = some (.int .u64 (p : Int)) ∧ w'.cell? ⟨gp, 1, none⟩ = some (.int .i64 (c : Int))) (go_keep)
          (first | (go_at_call 204; refine (times_any p c c' _ (by omega) hpow.out).mono ?_; rintro e w4 ⟨rfl, hb4⟩; unfold powV; rw [hUv.out]; have e0 : w4.cell? ⟨gp, 0, none⟩ = some (.int .u64 (p : Int)) := Blk.cell (Blk.below (Blk.drewN qp.out _) hb4) 0; have e1 : w4.cell? ⟨gp, 1, none⟩ = some (.int .i64 (c : Int)) := Blk.cell (Blk.below (Blk.drewN qp.out _) hb4) 1; have q4 := Lib.hid (Blk.below (Blk.drewN qg.out _) hb4); have B4 := Lib.hid ((below_drewN hB2.out _).trans (hb4.mono hB2.out.size)); clear hb4))
        all_goals
          go_wp2_with fail
          go_roundw
          case rel => exact ⟨F', k + 1, P ++ [(p, c)], M, rfl, by go_num, by rw [List.length_append, hP.out]; rfl, by rw [hPM.out]; simp, gM'.out, hF'0, hF's.out, hpA.out, q4.out, B4.out⟩
          case measure => simp [intOf]; omega
open Go.RowKit
set_option maxRecDepth 100000 in
set_option maxHeartbeats 1000000 in
theorem kind_any (n d A B : Nat) (w : World) (h0 : 0 < n) (hn : n < 4294967296) (hd : d < 18446744073709551616) (hk : Hid (kindN n d = (A, B))) :
    Calls Tryz.prog 143 #[.int .u64 (n : Int), .int .u64 (d : Int)] w (RetVal (.tuple #[.int .i64 (A : Int), .int .i64 (B : Int)]) w) := by
  go_enter Tryz.func143, Tryz.ntmps143
  go_wp2_with fail
  go_loopg [0, 4] n (fun f x c wr => ∃ y t : Nat, x = .int .u64 (y : Int) ∧ c = .int .i64 (t : Int) ∧ 0 < y ∧ y ≤ f ∧ t + y ≤ n ∧ kindF f y d t = (A, B) ∧ Below w.heap.size w wr)
  case atStart => exact ⟨n, 0, rfl, rfl, h0, Nat.le_refl _, by omega, hk.out, Below.refl _ _⟩
  case round =>
    obtain ⟨y, t, rfl, rfl, hy0, hyf, hty, hkf, hB⟩ := hrel
    replace hB := Lib.hid hB
    obtain ⟨g, hg⟩ : ∃ g, g = Nat.gcd y d := ⟨_, rfl⟩
    have hg0 : 0 < g := by rw [hg]; exact Nat.gcd_pos_of_pos_left _ hy0
    have hgy : g ≤ y := by rw [hg]; exact Nat.gcd_le_left _ hy0
    by_cases h1 : g = 1
    · rw [kindF_end (by rw [← hg]; exact h1)] at hkf
      injection hkf with e1 e2
      subst e1
      have hgI : (g : Int) = 1 := by omega
      replace hg := Lib.hid hg
      replace e2 := Lib.hid e2
      clear h1
      go_wp2_with fail
      refine (agcd_any y d _ (by omega) hd).mono ?_
      rintro e w1 ⟨rfl, hD⟩
      rw [← hg.out]
      have hB1 := Lib.hid (hB.out.trans (hD.below w.heap.size))
      clear hB hD
      go_wp2_with fail
      refine (order_any y d _ hy0 (by omega)).mono ?_
      rintro e w2 ⟨rfl, hb2⟩
      rw [e2.out]
      have hB2 := hB1.out.trans (hb2.mono hB1.out.size)
      replace hB2 := Lib.hid hB2
      clear hb2
      go_wp2_with fail
      go_ret2
      exact ⟨rfl, hB2.out⟩
    · obtain ⟨f', hf'⟩ : ∃ f', gk = f' + 1 := ⟨gk - 1, by omega⟩
      obtain ⟨q, hq⟩ : ∃ q, q = y / g := ⟨_, rfl⟩
      have hqi : (y : Int) / (g : Int) = (q : Int) := by rw [hq]; rfl
      have hq1 : q < y := by rw [hq]; exact Nat.div_lt_self hy0 (by omega)
      have hq0 : 0 < q := by rw [hq]; exact Nat.div_pos hgy hg0
      rw [hf', kindF_go (by rw [← hg]; exact h1), ← hg, ← hq] at hkf
      have hgI : ¬ (g : Int) = 1 := by omega
      replace hg := Lib.hid hg
      replace hkf := Lib.hid hkf
      have hqf : q ≤ f' := by omega
      replace hf' := Lib.hid hf'
      clear h1 hq
      go_wp2_with fail
      refine (agcd_any y d _ (by omega) hd).mono ?_
      rintro e w1 ⟨rfl, hD⟩
      rw [← hg.out]
      have hB1 := Lib.hid (hB.out.trans (hD.below w.heap.size))
      clear hB hD
      go_wp2_with fail
      go_roundg f'
      case measure => have := hf'.out; omega
      case rel => exact ⟨q, t + 1, rfl, by go_num, hq0, hqf, by omega, hkf.out, hB1.out⟩
open Go.RowKit
def kindV (neg : Bool) (num den : ByteArray) (d : Int) : Value :=
  if okA neg num den then
    if roundB d then .tuple #[.int .i64 ((kindN (be (sl den)) d.toNat).1 : Int), .int .i64 ((kindN (be (sl den)) d.toNat).2 : Int), .int .i64 0]
    else .tuple #[.int .i64 0, .int .i64 0, .int .i64 2]
  else .tuple #[.int .i64 0, .int .i64 0, .int .i64 210]
set_option maxRecDepth 100000 in
set_option maxHeartbeats 1000000 in
theorem kindW_any (neg : Bool) (num den : ByteArray) (d : Int) (w : World) (z1 : num.size ≤ 9223372036854775807) (z2 : den.size ≤ 9223372036854775807) :
    Calls Tryz.prog 100 #[.agg #[.bool neg, .string num, .string den], .int .i64 d] w (RetVal (kindV neg num den d) w) := by
  have hBW : Below w.heap.size w (w.alloc (.cells #[.bool neg, .string num, .string den] 26)) := (Below.refl _ w).alloc (Nat.le_refl _) _
  replace hBW := Lib.hid hBW
  cases hok : okA neg num den
  · have hv : Hid (kindV neg num den d = .tuple #[.int .i64 0, .int .i64 0, .int .i64 210]) := Lib.hid (by simp [kindV, hok])
    have hsv := smallV_no hok
    replace hsv := Lib.hid hsv
    clear hok
    go_enter Tryz.func100, Tryz.ntmps100
    go_wp2_with fail
    refine (small_any neg num den _ z1 z2).mono ?_
    rintro e w1 ⟨rfl, hb⟩
    rw [hsv.out]
    have hB1 := hBW.out.trans (hb.mono (by simp))
    have hz := hB1.size
    replace hB1 := hB1.alloc hz (.cells #[.int .u64 0, .int .u64 0] 144)
    replace hB1 := Lib.hid hB1
    clear hb
    go_wp2_with fail
    refine bodyPost_ret (v := .tuple #[.int .i64 0, .int .i64 0, .int .i64 210]) (by simp [results, Tryz.results100, go_sem]) rfl ⟨by rw [hv.out], hB1.out⟩
  obtain ⟨x, hx⟩ : ∃ x, x = be (sl num) := ⟨_, rfl⟩
  obtain ⟨y, hy⟩ : ∃ y, y = be (sl den) := ⟨_, rfl⟩
  obtain ⟨rfl, -, -, hgc, hxy, hyd⟩ := okA_spec hok
  have hsv := smallV_yes hok
  rw [← hx, ← hy] at hsv hxy
  rw [← hy] at hyd
  replace hsv := Lib.hid hsv
  cases hr : roundB d
  · have hv : Hid (kindV false num den d = .tuple #[.int .i64 0, .int .i64 0, .int .i64 2]) := Lib.hid (by simp [kindV, hok, hr])
    replace hr := Lib.hid hr
    clear hok hx hy hgc
    go_enter Tryz.func100, Tryz.ntmps100
    go_wp2_with fail
    refine (small_any false num den _ z1 z2).mono ?_
    rintro e w1 ⟨rfl, hb⟩
    rw [hsv.out]
    have hB1 := hBW.out.trans (hb.mono (by simp))
    have hz := hB1.size
    replace hB1 := hB1.alloc hz (.cells #[.int .u64 (x : Int), .int .u64 (y : Int)] 144)
    replace hB1 := Lib.hid hB1
    clear hb
    go_wp2_with fail
    refine (aturns_any d _).mono ?_
    rintro e w3 ⟨rfl, rfl⟩
    rw [hr.out]
    go_wp2_with fail
    refine bodyPost_ret (v := .tuple #[.int .i64 0, .int .i64 0, .int .i64 2]) (by simp [results, Tryz.results100, go_sem]) rfl ⟨by rw [hv.out], hB1.out⟩
  · have hd := roundB_iff.1 hr
    obtain ⟨dn, rfl⟩ := Int.eq_ofNat_of_zero_le (show 0 ≤ d by omega)
    obtain ⟨A, hA⟩ : ∃ A, A = (kindN y dn).1 := ⟨_, rfl⟩
    obtain ⟨B, hBB⟩ : ∃ B, B = (kindN y dn).2 := ⟨_, rfl⟩
    have hk : Hid (kindN y dn = (A, B)) := Lib.hid (by rw [hA, hBB])
    have hv : Hid (kindV false num den (dn : Int) = .tuple #[.int .i64 (A : Int), .int .i64 (B : Int), .int .i64 0]) := Lib.hid (by
      rw [hA, hBB, hy]
      simp [kindV, hok, hr])
    replace hr := Lib.hid hr
    have hwd : IntKind.u64.wrap (dn : Int) = (dn : Int) := by rw [IntKind.wrap_u64]; omega
    clear hok hx hy hgc hA hBB
    go_enter Tryz.func100, Tryz.ntmps100
    go_wp2_with fail
    refine (small_any false num den _ z1 z2).mono ?_
    rintro e w1 ⟨rfl, hb⟩
    rw [hsv.out]
    have hB1 := hBW.out.trans (hb.mono (by simp))
    have hz := hB1.size
    replace hB1 := hB1.alloc hz (.cells #[.int .u64 (x : Int), .int .u64 (y : Int)] 144)
    replace hB1 := Lib.hid hB1
    clear hb
    go_wp2_with fail
    refine (aturns_any dn _).mono ?_
    rintro e w3 ⟨rfl, rfl⟩
    rw [hr.out]
    go_wp2_with fail
    refine (kind_any y dn A B _ (by omega) (by omega) (by omega) hk).mono ?_
    rintro e w4 ⟨rfl, hb4⟩
    have hB4 := Lib.hid (hB1.out.trans (hb4.mono hB1.out.size))
    clear hb4
    go_wp2_with fail
    refine bodyPost_ret (v := .tuple #[.int .i64 (A : Int), .int .i64 (B : Int), .int .i64 0]) (by simp [results, Tryz.results100, go_sem]) rfl ⟨by rw [hv.out], hB4.out⟩
end Go.Proofs.YtoaggmegmgdgbaaGreat
