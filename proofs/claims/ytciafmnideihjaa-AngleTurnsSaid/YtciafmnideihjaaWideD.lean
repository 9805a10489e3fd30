/- Package wide: over, the division of digits, where the divisor is greater or has one digit. -/
import Derived.Test.YtciafmnideihjaaWideC
import Derived.Test.YtciafmnideihjaaKnuth
namespace Go.Proofs.Ytciafmnideihjaa
open Go.RowKit

/-- The outcome of a division: quotient and rest. -/
def RetOver (a b : Nat) (w : World) (e : Ending) (w' : World) : Prop := ∃ q r, e = .returned (.tuple #[q, r]) ∧ Dg w' q (a / b) ∧ Dg w' r (a % b) ∧ Below w.heap.size w w'

set_option maxRecDepth 100000 in
set_option maxHeartbeats 400000 in
theorem over_less (va vb : Value) (a b : Nat) (w : World) (ha : Dg w va a) (hb : Dg w vb b) (h : a < b) :
    Calls Try.prog 106 #[va, vb] w (RetOver a b w) := by
  have hc := cmpI_lt h
  have ha := Lib.hid ha
  have hb := Lib.hid hb
  go_enter Try.func106, Try.ntmps106
  go_wp2_with fail
  refine (cmp_any va vb a b _ ha.out hb.out).mono ?_
  rintro e w1 ⟨rfl, n1, rfl⟩
  go_wp2
  go_ret2
  exact ⟨.slice none 0 0, va, rfl, by rw [Nat.div_eq_of_lt h]; exact Rd.nil_, by rw [Nat.mod_eq_of_lt h]; exact ha.out, below_drewN (Below.refl _ _) _⟩

theorem dg_one {b : Nat} (h : b < 4294967296) (h0 : 0 < b) : dg b = [b] := by
  rw [dg_pos h0, Nat.mod_eq_of_lt h, Nat.div_eq_of_lt h, dg_zero]
theorem one_of_len {b : Nat} (h : (dg b).length = 1) : 0 < b ∧ b < 4294967296 := by
  constructor
  · rcases Nat.eq_zero_or_pos b with h0 | h0
    · subst h0; simp [dg_zero] at h
    · exact h0
  · have := dg_lt b
    rwa [h] at this

set_option maxRecDepth 100000 in
set_option maxHeartbeats 400000 in
theorem over_one (va vb : Value) (a b : Nat) (w : World) (ha : Dg w va a) (hb : Dg w vb b) (h : b ≤ a) (hl : (dg b).length = 1) (hlen : (dg a).length ≤ 1073741824) :
    Calls Try.prog 106 #[va, vb] w (RetOver a b w) := by
  obtain ⟨hb0, hbs⟩ := one_of_len hl
  have hc : ¬ cmpI a b < 0 := by
    rcases Nat.lt_or_ge b a with h' | h'
    · rw [cmpI_gt h']; decide
    · rw [cmpI_eq (by omega)]; decide
  have hd := dg_one hbs hb0
  obtain ⟨gb, ob, cb, Lb, rfl, hb1, hb2, hB, hLb⟩ := hb.open_ (by rw [hd]; simp)
  have hcy : w.cell? ⟨gb, ob, none⟩ = some (.int .u32 (b : Int)) := by
    have := hLb 0 b (by rw [hd]; rfl)
    exact hB.cell (by simpa using this)
  have ha := Lib.hid ha
  have hb := Lib.hid hb
  have HB := Lib.hid hd
  rw [hl] at hb1 hb ⊢
  have hc1 : (1 : Int) ≤ (cb : Int) := by omega
  clear hd hLb hb2 hb1 hl
  go_enter Try.func106, Try.ntmps106
  go_wp2_with fail
  refine (cmp_any va _ a b _ ha.out hb.out).mono ?_
  rintro e w1 ⟨rfl, n1, rfl⟩
  go_wp2_with fail
  refine (short_any va a b _ (ha.out.drewN _) hb0 hbs hlen).mono ?_
  rintro e w2 ⟨q, rfl, hq, hbl⟩
  have hq := Lib.hid hq
  have hbl := Lib.hid hbl
  have hA : Arr (w2.alloc (.cells #[.int .u32 ((a : Int) % (b : Int))] 143)) w2.heap.size .u32 143 [a % b] := Arr.new w2 .u32 143 [a % b]
  have hR : Rd .u32 143 (w2.alloc (.cells #[.int .u32 ((a : Int) % (b : Int))] 143)) (.slice (some ⟨w2.heap.size, 0, none⟩) 1 1) [a % b] := Rd.whole hA (by simp [maxLen])
  have hR := Lib.hid hR
  clear hA
  go_wp2_with fail
  refine (cut_any _ [a % b] _ hR.out (sm_cons (by have := Nat.mod_lt a hb0; omega) sm_nil)).mono ?_
  rintro e w3 ⟨r, rfl, hr, rfl⟩
  have hr := Lib.hid hr
  go_wp2
  go_ret2
  have hr := hr.out
  rw [show val [a % b] = a % b by simp [val]] at hr
  exact ⟨q, r, rfl, hq.out.alloc _, hr, (below_drewN (Below.refl _ w) _).trans (hbl.out.alloc hbl.out.size _)⟩
end Go.Proofs.Ytciafmnideihjaa
