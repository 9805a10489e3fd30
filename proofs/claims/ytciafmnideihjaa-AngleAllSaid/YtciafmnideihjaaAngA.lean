/- Package angle: gcd, lowest, turns, power, turn, told, ratioOf, small. · Package angle: turns, power, Rem64, turn. · Package angle: Rem64 of small numbers, turn, ratioOf, told. · Package angle: ratioOf, told. -/
import Derived.Test.YtciafmnideihjaaRatMay
namespace Go.Proofs.Ytciafmnideihjaa
open Go.RowKit

/-- The outcome: a word; the world has but drawn. -/
def RetW (n : Nat) (w : World) (e : Ending) (w' : World) : Prop := e = .returned (.int .u64 (n : Int)) ∧ Dr w w'

set_option maxHeartbeats 400000 in
/-- angle.gcd -/
theorem agcd_any (a b : Nat) (w : World) (ha : a < 18446744073709551616) (hb : b < 18446744073709551616) :
    Calls Try.prog 87 #[.int .u64 a, .int .u64 b] w (RetW (Nat.gcd a b) w) := by
  go_enter Try.func87, Try.ntmps87
  go_wp2
  go_loopw [0, 1] (fun x y wr => ∃ p q : Nat, x = .int .u64 p ∧ y = .int .u64 q ∧ Nat.gcd p q = Nat.gcd a b ∧ p < 18446744073709551616 ∧ q < 18446744073709551616 ∧ Dr w wr) (fun _ y _ => (intOf y).toNat)
  case atStart => exact ⟨a, b, rfl, rfl, rfl, ha, hb, Dr.refl _⟩
  case round =>
    obtain ⟨p, q, rfl, rfl, hg, hp, hq, n, rfl⟩ := hrel
    have Hg := Lib.hid hg
    clear hg
    by_cases hz : q = 0
    · subst hz
      go_wp2
      go_ret
      exact ⟨by rw [← Hg.out, Nat.gcd_zero_right]; rfl, (Dr.refl _).drewN _⟩
    · have hz1 : 0 < q := by omega
      have hm := Nat.mod_lt p hz1
      obtain ⟨r, hr⟩ : ∃ r, r = p % q := ⟨_, rfl⟩
      have hri : (p : Int) % (q : Int) = (r : Int) := by rw [hr]; rfl
      rw [← hr] at hm
      have HR : Hid (Nat.gcd q r = Nat.gcd a b) := Lib.hid (by rw [← Hg.out, hr, Nat.gcd_comm q, ← Nat.gcd_rec, Nat.gcd_comm])
      clear hz hr
      go_wp2
      go_quiet (fail)
      go_wp2
      go_roundw
      case rel => exact ⟨q, r, rfl, by rw [hri], HR.out, hq, by omega, by repeat (first | exact Dr.refl _ | apply Dr.drewN)⟩
      case measure => simp [intOf]; omega

/-- The outcome: a part; of what was there nothing has turned. -/
def RetPart (n d : Nat) (w : World) (e : Ending) (w' : World) : Prop := e = .returned (.agg #[.int .u64 (n : Int), .int .u64 (d : Int)]) ∧ Below w.heap.size w w'

set_option maxHeartbeats 400000 in
/-- angle.lowest -/
theorem lowest_any (a b n d : Nat) (w : World) (ha : a < 18446744073709551616) (hb : b < 18446744073709551616) (h0 : 0 < b) (hn : Hid (n = a / Nat.gcd a b)) (hd : Hid (d = b / Nat.gcd a b)) :
    Calls Try.prog 61 #[.int .u64 a, .int .u64 b] w (RetPart n d w) := by
  obtain ⟨g, hg⟩ : ∃ g, g = Nat.gcd a b := ⟨_, rfl⟩
  have hg0 : 0 < g := by rw [hg]; exact Nat.gcd_pos_of_pos_right _ h0
  have hgs : g < 18446744073709551616 := by rw [hg]; exact Nat.lt_of_le_of_lt (Nat.gcd_le_right _ h0) hb
  have e1 : (a : Int) / (g : Int) = (n : Int) := by rw [hn.out, hg]; rfl
  have e2 : (b : Int) / (g : Int) = (d : Int) := by rw [hd.out, hg]; rfl
  have hns : n < 18446744073709551616 := by rw [hn.out]; exact Nat.lt_of_le_of_lt (Nat.div_le_self _ _) ha
  have hds : d < 18446744073709551616 := by rw [hd.out]; exact Nat.lt_of_le_of_lt (Nat.div_le_self _ _) hb
  have Hg := Lib.hid hg
  clear hg
  go_enter Try.func61, Try.ntmps61
  go_wp2_with fail
  refine (agcd_any a b _ ha hb).mono ?_
  rintro e w1 ⟨rfl, hdr⟩
  rw [← Hg.out]
  have hK := Blk.dr hdr (Blk.new w 91 #[.int .u64 0, .int .u64 0])
  have hB := below_dr hdr ((Below.refl w.heap.size w).alloc (Nat.le_refl _) (.cells #[.int .u64 0, .int .u64 0] 91))
  have k0 := hK.cell 0
  have k1 := hK.cell 1
  have f0 := hK.frozen 0
  have f1 := hK.frozen 1
  simp at k0 k1
  have hB := Lib.hid hB
  have hK := Lib.hid hK
  clear hdr
  go_wp2
  go_region
  go_wp2
  refine bodyPost_ret (v := .agg #[.int .u64 (n : Int), .int .u64 (d : Int)]) (by simp [results, Try.results61, go_sem, k0, k1]) rfl ⟨rfl, ?_⟩
  exact ((hB.out.setCell (p := ⟨w.heap.size, 0, none⟩) (Nat.le_refl _) _).setCell (p := ⟨w.heap.size, 1, none⟩) (Nat.le_refl _) _).drew
end Go.Proofs.Ytciafmnideihjaa

namespace Go.Proofs.Ytciafmnideihjaa
open Go.RowKit

/-- May d be? -/
def roundB (d : Int) : Bool := decide (2 ≤ d) && decide (d ≤ 64)
theorem roundB_iff {d : Int} : roundB d = true ↔ 2 ≤ d ∧ d ≤ 64 := by simp [roundB]

/-- angle.turns -/
theorem aturns_any (d : Int) (w : World) : Calls Try.prog 51 #[.int .i64 d] w fun e w' => e = .returned (.bool (roundB d)) ∧ w = w' := by
  by_cases h : 2 ≤ d
  · by_cases h2 : d ≤ 64
    · have HB : Hid (roundB d = true) := Lib.hid (roundB_iff.2 ⟨h, h2⟩)
      go_enter Try.func51, Try.ntmps51
      go_wp2
      go_ret
      exact ⟨by rw [HB.out]; rfl, rfl⟩
    · have HB : Hid (roundB d = false) := Lib.hid (by simp [roundB]; omega)
      have h2' : decide (d ≤ 64) = false := by simp; omega
      go_enter Try.func51, Try.ntmps51
      go_wp2
      go_ret
      exact ⟨by rw [HB.out]; rfl, rfl⟩
  · have HB : Hid (roundB d = false) := Lib.hid (by simp [roundB]; omega)
    have h' : decide (2 ≤ d) = false := by simp; omega
    go_enter Try.func51, Try.ntmps51
    go_wp2
    go_ret
    exact ⟨by rw [HB.out]; rfl, rfl⟩

theorem and_one_i64 (n : Nat) (h : n < 9223372036854775808) : bits .and .i64 (n : Int) 1 = ((n % 2 : Nat) : Int) := by
  have e1 : (BitVec.ofInt 64 (n : Int)).toNat = n := by
    rw [BitVec.ofInt_natCast, BitVec.toNat_ofNat]
    exact Nat.mod_eq_of_lt (by omega)
  show IntKind.i64.wrap ((BitVec.ofInt 64 (n : Int) &&& BitVec.ofInt 64 1).toNat : Int) = _
  rw [BitVec.toNat_and, e1, show (BitVec.ofInt 64 1).toNat = 1 by decide, Nat.and_one_is_mod, IntKind.wrap_i64]
  omega

theorem pow_step_even (x y n m : Nat) : x * y ^ (2 * n) % m = x * (y * y % m) ^ n % m := by
  rw [Nat.pow_mul, Nat.mul_mod, Nat.mul_mod x ((y * y % m) ^ n), Nat.pow_mod (y * y % m), Nat.mod_mod, ← Nat.pow_mod, Nat.pow_two]
theorem pow_step_odd (x y n m : Nat) : x * y ^ (2 * n + 1) % m = x * y % m * (y * y % m) ^ n % m := by
  have e : x * y ^ (2 * n + 1) = x * y * y ^ (2 * n) := by rw [Nat.pow_succ]; ac_rfl
  rw [e, pow_step_even]
  have h1 := Nat.mul_mod (x * y) ((y * y % m) ^ n) m
  have h2 := Nat.mul_mod (x * y % m) ((y * y % m) ^ n) m
  rw [Nat.mod_mod] at h2
  exact h1.trans h2.symm

set_option maxHeartbeats 400000 in
/-- angle.power -/
theorem power_any (d n m : Nat) (w : World) (hn : n < 9223372036854775808) (hm0 : 0 < m) (hm : m < 4294967296) :
    Calls Try.prog 60 #[.int .u64 (d : Int), .int .i64 (n : Int), .int .u64 (m : Int)] w (RetW (d ^ n % m) w) := by
  obtain ⟨x0, hx0⟩ : ∃ x0, x0 = 1 % m := ⟨_, rfl⟩
  obtain ⟨y0, hy0⟩ : ∃ y0, y0 = d % m := ⟨_, rfl⟩
  have e1 : (1 : Int).tmod (m : Int) = (x0 : Int) := by rw [hx0]; exact tmod_nat 1 m
  have e1' : (1 : Int) % (m : Int) = (x0 : Int) := by rw [hx0]; rfl
  have e2 : (d : Int).tmod (m : Int) = (y0 : Int) := by rw [hy0]; exact tmod_nat d m
  have e2' : (d : Int) % (m : Int) = (y0 : Int) := by rw [hy0]; rfl
  have hxm : x0 < m := by rw [hx0]; exact Nat.mod_lt _ hm0
  have hym : y0 < m := by rw [hy0]; exact Nat.mod_lt _ hm0
  have H0 : Hid (x0 * y0 ^ n % m = d ^ n % m) := Lib.hid (by rw [hx0, hy0, Nat.mul_mod, Nat.mod_mod, ← Nat.pow_mod, ← Nat.mul_mod, Nat.one_mul])
  clear hx0 hy0
  go_enter Try.func60, Try.ntmps60
  go_wp2
  go_quiet (fail)
  go_wp2
  go_loopw [1, 7, 8] (fun k x y wr => ∃ K X Y : Nat, k = .int .i64 (K : Int) ∧ x = .int .u64 (X : Int) ∧ y = .int .u64 (Y : Int) ∧ K < 9223372036854775808 ∧ X < m ∧ Y < m ∧ X * Y ^ K % m = d ^ n % m ∧ Dr w wr) (fun k _ _ _ => (intOf k).toNat)
  case atStart => exact ⟨n, x0, y0, rfl, by first | rfl | rw [e1'], by first | rfl | rw [e2'], hn, hxm, hym, H0.out, by repeat (first | exact Dr.refl _ | apply Dr.drewN)⟩
  case round =>
    obtain ⟨K, X, Y, rfl, rfl, rfl, hK, hX, hY, hv, nn, rfl⟩ := hrel
    have HV := Lib.hid hv
    clear hv e1 e1' e2 e2'
    by_cases h0 : 0 < K
    · have hXY : X * Y < 18446744073709551616 := Nat.lt_of_le_of_lt (Nat.mul_le_mul (show X ≤ 4294967295 by omega) (show Y ≤ 4294967295 by omega)) (by omega)
      have hYY : Y * Y < 18446744073709551616 := Nat.lt_of_le_of_lt (Nat.mul_le_mul (show Y ≤ 4294967295 by omega) (show Y ≤ 4294967295 by omega)) (by omega)
      obtain ⟨P, hP⟩ : ∃ P, P = X * Y := ⟨_, rfl⟩
      have hPi : (X : Int) * (Y : Int) = (P : Int) := by rw [hP]; push_cast; rfl
      obtain ⟨S, hS⟩ : ∃ S, S = Y * Y := ⟨_, rfl⟩
      have hSi : (Y : Int) * (Y : Int) = (S : Int) := by rw [hS]; push_cast; rfl
      obtain ⟨p, hp⟩ : ∃ p, p = P % m := ⟨_, rfl⟩
      have hpi : (P : Int).tmod (m : Int) = (p : Int) := by rw [hp]; exact tmod_nat P m
      have hpi' : (P : Int) % (m : Int) = (p : Int) := by rw [hp]; rfl
      obtain ⟨s, hs⟩ : ∃ s, s = S % m := ⟨_, rfl⟩
      have hsi : (S : Int).tmod (m : Int) = (s : Int) := by rw [hs]; exact tmod_nat S m
      have hsi' : (S : Int) % (m : Int) = (s : Int) := by rw [hs]; rfl
      have hpm : p < m := by rw [hp]; exact Nat.mod_lt _ hm0
      have hsm : s < m := by rw [hs]; exact Nat.mod_lt _ hm0
      obtain ⟨k2, hk2⟩ : ∃ k2, k2 = K / 2 := ⟨_, rfl⟩
      have hk2i : (K : Int) / 2 = (k2 : Int) := by omega
      have hand := and_one_i64 K hK
      rw [← hP] at hXY
      rw [← hS] at hYY
      rcases Nat.mod_two_eq_zero_or_one K with hpar | hpar
      · rw [hpar] at hand
        have hand : bits .and .i64 (K : Int) 1 = 0 := hand
        have HN : Hid (X * s ^ k2 % m = d ^ n % m) := Lib.hid (by
          rw [← HV.out, hs, hS, ← pow_step_even, show 2 * k2 = K by omega])
        clear hP hS hp hs hk2
        have hKp : (0 : Int) < (K : Int) := by omega
        go_wp2
        go_roundw
        case rel => exact ⟨k2, X, s, by first | rfl | rw [hk2i], rfl, rfl, by omega, hX, hsm, HN.out, by repeat (first | exact Dr.refl _ | apply Dr.drewN)⟩
        case measure => simp [intOf]; omega
      · rw [hpar] at hand
        have hand : bits .and .i64 (K : Int) 1 = 1 := hand
        have HN : Hid (p * s ^ k2 % m = d ^ n % m) := Lib.hid (by
          rw [← HV.out, hs, hS, hp, hP, ← pow_step_odd, show 2 * k2 + 1 = K by omega])
        clear hP hS hp hs hk2
        have hKp : (0 : Int) < (K : Int) := by omega
        go_wp2
        go_roundw
        case rel => exact ⟨k2, p, s, by first | rfl | rw [hk2i], rfl, rfl, by omega, hpm, hsm, HN.out, by repeat (first | exact Dr.refl _ | apply Dr.drewN)⟩
        case measure => simp [intOf]; omega
    · obtain rfl : K = 0 := by omega
      have HN : Hid (X = d ^ n % m) := Lib.hid (by have := HV.out; rwa [Nat.pow_zero, Nat.mul_one, Nat.mod_eq_of_lt hX] at this)
      go_wp2
      go_ret
      exact ⟨by rw [← HN.out]; rfl, by repeat (first | exact Dr.refl _ | apply Dr.drewN)⟩
end Go.Proofs.Ytciafmnideihjaa

namespace Go.Proofs.Ytciafmnideihjaa
open Go.RowKit

set_option maxHeartbeats 400000 in
/-- bits.Div64, nothing in the high word. -/
theorem div64_any (lo y : Nat) (w : World) (hlo : lo < 18446744073709551616) (hy : y < 18446744073709551616) (h0 : 0 < y) :
    Calls Try.prog 119 #[.int .u64 0, .int .u64 (lo : Int), .int .u64 (y : Int)] w fun e w' => e = .returned (.tuple #[.int .u64 ((lo / y : Nat) : Int), .int .u64 ((lo % y : Nat) : Int)]) ∧ Dr w w' := by
  have t1 : ((y : Int) == 0) = false := by simp; omega
  have t2 : ¬ (y : Int) ≤ 0 := by omega
  obtain ⟨q, hq⟩ : ∃ q, q = lo / y := ⟨_, rfl⟩
  obtain ⟨r, hr⟩ : ∃ r, r = lo % y := ⟨_, rfl⟩
  rw [← hq, ← hr]
  have e1 : (lo : Int) / (y : Int) = (q : Int) := by rw [hq]; rfl
  have e2 : (lo : Int) % (y : Int) = (r : Int) := by rw [hr]; rfl
  have hqs : q < 18446744073709551616 := by rw [hq]; exact Nat.lt_of_le_of_lt (Nat.div_le_self _ _) hlo
  clear hq hr
  go_enter Try.func119, Try.ntmps119
  go_wp2
  go_region
  go_wp2
  go_ret2
  exact ⟨by simp; exact e2, (Dr.refl _).drewN 1⟩

set_option maxHeartbeats 400000 in
/-- bits.Rem64, nothing in the high word. -/
theorem rem64_any (lo y : Nat) (w : World) (hlo : lo < 18446744073709551616) (hy : y < 18446744073709551616) (h0 : 0 < y) :
    Calls Try.prog 92 #[.int .u64 0, .int .u64 (lo : Int), .int .u64 (y : Int)] w (RetW (lo % y) w) := by
  have hyI : (1 : Int) ≤ (y : Int) := by omega
  obtain ⟨q, hq⟩ : ∃ q, q = lo / y := ⟨_, rfl⟩
  obtain ⟨r, hr⟩ : ∃ r, r = lo % y := ⟨_, rfl⟩
  replace hq := Lib.hid hq
  replace hr := Lib.hid hr
  go_enter Try.func92, Try.ntmps92
  go_wp2_with fail
  refine (div64_any lo y _ hlo hy h0).mono ?_
  rintro e w1 ⟨rfl, n1, rfl⟩
  rw [← hq.out, ← hr.out]
  go_wp2
  go_ret
  exact ⟨by rw [← hr.out]; rfl, (Dr.refl _).drewN n1⟩

/-- bits.Mul64, nothing in the high word. -/
theorem mul64_any (x y S : Nat) (hS : Hid (S = x * y)) (hx : x < 18446744073709551616) (hy : y < 18446744073709551616) (hs : S < 18446744073709551616) (w : World) :
    Calls Try.prog 91 #[.int .u64 (x : Int), .int .u64 (y : Int)] w fun e w' => e = .returned (.tuple #[.int .u64 0, .int .u64 (S : Int)]) ∧ w = w' := by
  refine (Try.bits_Mul64 x y hx hy w).mono ?_
  rintro e w' ⟨rfl, rfl⟩
  rw [← hS.out, Nat.div_eq_of_lt hs, Nat.mod_eq_of_lt hs]
  exact ⟨rfl, rfl⟩

set_option maxRecDepth 100000 in
set_option maxHeartbeats 400000 in
/-- angle.turn -/
theorem turn_any (a b y x n d : Nat) (w : World) (hb0 : 0 < b) (ha : a < 4294967296) (hb : b < 4294967296) (hy : y < 4294967296) (hx : Hid (x = a * y % b)) (hn : Hid (n = x / Nat.gcd x b)) (hd : Hid (d = b / Nat.gcd x b)) :
    Calls Try.prog 57 #[.agg #[.int .u64 (a : Int), .int .u64 (b : Int)], .int .u64 (y : Int)] w (RetPart n d w) := by
  obtain ⟨S, hS⟩ : ∃ S, S = a * y := ⟨_, rfl⟩
  have hSs : S < 18446744073709551616 := by rw [hS]; exact Nat.lt_of_le_of_lt (Nat.mul_le_mul (show a ≤ 4294967295 by omega) (show y ≤ 4294967295 by omega)) (by omega)
  replace hS := Lib.hid hS
  have hxS : Hid (S % b = x) := Lib.hid (by rw [hS.out, hx.out])
  have hxb : x < b := by rw [← hxS.out]; exact Nat.mod_lt _ hb0
  go_enter Try.func57, Try.ntmps57
  go_wp2_with fail
  refine (mul64_any a y S hS (by omega) (by omega) hSs _).mono ?_
  rintro e w1 ⟨rfl, rfl⟩
  go_wp2_with fail
  have hK1 := (Blk.new w 91 #[.int .u64 (a : Int), .int .u64 (b : Int)]).alloc (.cells #[.int .u64 0, .int .u64 0] 91)
  have hK2 := Blk.new (w.alloc (.cells #[.int .u64 (a : Int), .int .u64 (b : Int)] 91)) 91 #[.int .u64 0, .int .u64 0]
  have hBW : Below w.heap.size w ((w.alloc (.cells #[.int .u64 (a : Int), .int .u64 (b : Int)] 91)).alloc (.cells #[.int .u64 0, .int .u64 0] 91)) := ((Below.refl _ w).alloc (Nat.le_refl _) _).alloc (by simp) _
  have hsz : (w.alloc (.cells #[.int .u64 (a : Int), .int .u64 (b : Int)] 91)).heap.size = w.heap.size + 1 := by simp
  rw [hsz] at hK2
  replace hK1 := Lib.hid hK1
  replace hK2 := Lib.hid hK2
  replace hBW := Lib.hid hBW
  clear hsz
  go_region_held3 (fun w' => w'.cell? ⟨w.heap.size, 1, none⟩ = some (.int .u64 (b : Int))) (go_keep)
    (first
      | (go_at_call 92; refine (rem64_any S b _ hSs (by omega) hb0).mono ?_; rintro e w2 ⟨rfl, n2, rfl⟩; rw [hxS.out])
      | (go_at_call 61; refine (lowest_any x b n d _ (by omega) (by omega) hb0 hn hd).mono ?_; rintro e w3 ⟨rfl, hB⟩; have q1 := Blk.below (Blk.drewN hK1.out _) hB; have q2 := Blk.below (Blk.drewN hK2.out _) hB; have hBw : Below w.heap.size w w3 := (below_drewN hBW.out _).trans (hB.mono (by simp; omega)); have k1 : w3.cell? ⟨w.heap.size, 1, none⟩ = some (.int .u64 (b : Int)) := q1.cell 1; have k2 : w3.cell? ⟨w.heap.size + 1, 0, none⟩ = some (.int .u64 0) := q2.cell 0; have k3 : w3.cell? ⟨w.heap.size + 1, 1, none⟩ = some (.int .u64 0) := q2.cell 1; have k4 := q2.frozen 0; have k5 := q2.frozen 1; replace hBw := Lib.hid hBw; clear q1 q2 hB))
  go_wp2
  refine bodyPost_ret (v := .agg #[.int .u64 (n : Int), .int .u64 (d : Int)]) (by simp [results, Try.results57, go_sem, k2, k3]) rfl ⟨rfl, ?_⟩
  exact (hBw.out.setCell (p := ⟨w.heap.size + 1, 0, none⟩) (by simp) _).setCell (p := ⟨w.heap.size + 1, 1, none⟩) (by simp) _
end Go.Proofs.Ytciafmnideihjaa

namespace Go.Proofs.Ytciafmnideihjaa
open Go.RowKit

/-- An angle's ratio. -/
def ratV (n d : Nat) : Value := .agg #[.bool false, .string (natS n), .string (natS d)]
/-- No ratio. -/
def rat0 : Value := .agg #[.bool false, .string ⟨#[]⟩, .string ⟨#[]⟩]

set_option maxRecDepth 100000 in
set_option maxHeartbeats 400000 in
/-- angle.ratioOf -/
theorem ratioOf_any (n d : Nat) (w : World) (hn : n < 18446744073709551616) (hd : d < 18446744073709551616) :
    Calls Try.prog 56 #[.agg #[.int .u64 (n : Int), .int .u64 (d : Int)]] w (RetVal (ratV n d) w) := by
  go_enter Try.func56, Try.ntmps56
  go_wp2_with fail
  have hK1 := (Blk.new w 91 #[.int .u64 (n : Int), .int .u64 (d : Int)]).alloc (.cells #[.bool false, .string ⟨#[]⟩, .string ⟨#[]⟩] 24)
  have hK2 := Blk.new (w.alloc (.cells #[.int .u64 (n : Int), .int .u64 (d : Int)] 91)) 24 #[.bool false, .string ⟨#[]⟩, .string ⟨#[]⟩]
  have hBW : Below w.heap.size w ((w.alloc (.cells #[.int .u64 (n : Int), .int .u64 (d : Int)] 91)).alloc (.cells #[.bool false, .string ⟨#[]⟩, .string ⟨#[]⟩] 24)) := ((Below.refl _ w).alloc (Nat.le_refl _) _).alloc (by simp) _
  have hsz : (w.alloc (.cells #[.int .u64 (n : Int), .int .u64 (d : Int)] 91)).heap.size = w.heap.size + 1 := by simp
  rw [hsz] at hK2
  replace hK1 := Lib.hid hK1
  replace hK2 := Lib.hid hK2
  replace hBW := Lib.hid hBW
  clear hsz
  go_region_held3 (fun w' => w'.cell? ⟨w.heap.size, 0, none⟩ = some (.int .u64 (n : Int)) ∧ w'.cell? ⟨w.heap.size, 1, none⟩ = some (.int .u64 (d : Int))) (go_keep)
    (first
      | (go_at_call_of 90 (Value.int .u64 (n : Int)); refine (natOf_any n _ hn).mono ?_; rintro e w3 ⟨rfl, hB⟩; have q1 := Blk.below (Blk.drew hK1.out) hB; have q2 := Blk.below (Blk.drew hK2.out) hB; have hBw : Below w.heap.size w w3 := hBW.out.drew.trans (hB.mono (by simp; omega)); have k1 : w3.cell? ⟨w.heap.size, 0, none⟩ = some (.int .u64 (n : Int)) := q1.cell 0; have k2 : w3.cell? ⟨w.heap.size, 1, none⟩ = some (.int .u64 (d : Int)) := q1.cell 1; replace hBw := Lib.hid hBw; replace q1 := Lib.hid q1; replace q2 := Lib.hid q2; clear hB)
      | (go_at_call_of 90 (Value.int .u64 (d : Int)); refine (natOf_any d _ hd).mono ?_; rintro e w4 ⟨rfl, hB⟩; have r1 := Blk.below q1.out hB; have r2 := Blk.below q2.out hB; have hBx : Below w.heap.size w w4 := hBw.out.trans (hB.mono hBw.out.size); have j1 : w4.cell? ⟨w.heap.size, 0, none⟩ = some (.int .u64 (n : Int)) := r1.cell 0; have j2 : w4.cell? ⟨w.heap.size, 1, none⟩ = some (.int .u64 (d : Int)) := r1.cell 1; have i0 : w4.cell? ⟨w.heap.size + 1, 0, none⟩ = some (.bool false) := r2.cell 0; have i1 : w4.cell? ⟨w.heap.size + 1, 1, none⟩ = some (.string ⟨#[]⟩) := r2.cell 1; have i2 : w4.cell? ⟨w.heap.size + 1, 2, none⟩ = some (.string ⟨#[]⟩) := r2.cell 2; have f0 := r2.frozen 0; have f1 := r2.frozen 1; have f2 := r2.frozen 2; replace hBx := Lib.hid hBx; clear r1 r2 hB))
  all_goals
    go_wp2
    refine bodyPost_ret (v := .agg #[.bool false, .string (natS n), .string (natS d)]) (by simp [results, Try.results56, go_sem, i0, i1, i2]) rfl ⟨rfl, ?_⟩
    exact ((hBx.out.setCell (p := ⟨w.heap.size + 1, 0, none⟩) (by simp) _).setCell (p := ⟨w.heap.size + 1, 1, none⟩) (by simp) _).setCell (p := ⟨w.heap.size + 1, 2, none⟩) (by simp) _
end Go.Proofs.Ytciafmnideihjaa
