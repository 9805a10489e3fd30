/- Package angle: gcd, lowest, turns, power, turn, told, ratioOf, small. -/
import Derived.Test.YtciafmnideihjaaRatMay
namespace Go.Proofs.Ytciafmnideihjaa
open Go.RowKit

/-- The outcome: a word; the world has but drawn. -/
def RetW (n : Nat) (w : World) (e : Ending) (w' : World) : Prop := e = .returned (.int .u64 (n : Int)) ∧ Dr w w'

set_option maxHeartbeats 400000 in
/-- angle.gcd -/
theorem agcd_any (a b : Nat) (w : World) (ha : a < 18446744073709551616) (hb : b < 18446744073709551616) :
    Calls Try.prog 87 #[.int .u64 a, .int .u64 b] w (RetW (Nat.gcd a b) w) := by
  go_enter Try.func87, Try.ntmps87
  go_wp2
  go_loopw [0, 1] (fun x y wr => ∃ p q : Nat, x = .int .u64 p ∧ y = .int .u64 q ∧ Nat.gcd p q = Nat.gcd a b ∧ p < 18446744073709551616 ∧ q < 18446744073709551616 ∧ Dr w wr) (fun _ y _ => (intOf y).toNat)
  case atStart => exact ⟨a, b, rfl, rfl, rfl, ha, hb, Dr.refl _⟩
  case round =>
    obtain ⟨p, q, rfl, rfl, hg, hp, hq, n, rfl⟩ := hrel
    have Hg := Lib.hid hg
    clear hg
    by_cases hz : q = 0
    · subst hz
      go_wp2
      go_ret
      exact ⟨by rw [← Hg.out, Nat.gcd_zero_right]; rfl, (Dr.refl _).drewN _⟩
    · have hz1 : 0 < q := by omega
      have hm := Nat.mod_lt p hz1
      obtain ⟨r, hr⟩ : ∃ r, r = p % q := ⟨_, rfl⟩
      have hri : (p : Int) % (q : Int) = (r : Int) := by rw [hr]; rfl
      rw [← hr] at hm
      have HR : Hid (Nat.gcd q r = Nat.gcd a b) := Lib.hid (by rw [← Hg.out, hr, Nat.gcd_comm q, ← Nat.gcd_rec, Nat.gcd_comm])
      clear hz hr
      go_wp2
      go_quiet (fail)
      go_wp2
      go_roundw
      case rel => exact ⟨q, r, rfl, by rw [hri], HR.out, hq, by omega, by repeat (first | exact Dr.refl _ | apply Dr.drewN)⟩
      case measure => simp [intOf]; omega

/-- The outcome: a part; of what was there nothing has turned. -/
def RetPart (n d : Nat) (w : World) (e : Ending) (w' : World) : Prop := e = .returned (.agg #[.int .u64 (n : Int), .int .u64 (d : Int)]) ∧ Below w.heap.size w w'

set_option maxHeartbeats 400000 in
/-- angle.lowest -/
theorem lowest_any (a b n d : Nat) (w : World) (ha : a < 18446744073709551616) (hb : b < 18446744073709551616) (h0 : 0 < b) (hn : Hid (n = a / Nat.gcd a b)) (hd : Hid (d = b / Nat.gcd a b)) :
    Calls Try.prog 61 #[.int .u64 a, .int .u64 b] w (RetPart n d w) := by
  obtain ⟨g, hg⟩ : ∃ g, g = Nat.gcd a b := ⟨_, rfl⟩
  have hg0 : 0 < g := by rw [hg]; exact Nat.gcd_pos_of_pos_right _ h0
  have hgs : g < 18446744073709551616 := by rw [hg]; exact Nat.lt_of_le_of_lt (Nat.gcd_le_right _ h0) hb
  have e1 : (a : Int) / (g : Int) = (n : Int) := by rw [hn.out, hg]; rfl
  have e2 : (b : Int) / (g : Int) = (d : Int) := by rw [hd.out, hg]; rfl
  have hns : n < 18446744073709551616 := by rw [hn.out]; exact Nat.lt_of_le_of_lt (Nat.div_le_self _ _) ha
  have hds : d < 18446744073709551616 := by rw [hd.out]; exact Nat.lt_of_le_of_lt (Nat.div_le_self _ _) hb
  have Hg := Lib.hid hg
  clear hg
  go_enter Try.func61, Try.ntmps61
  go_wp2_with fail
  refine (agcd_any a b _ ha hb).mono ?_
  rintro e w1 ⟨rfl, hdr⟩
  rw [← Hg.out]
  have hK := Blk.dr hdr (Blk.new w 91 #[.int .u64 0, .int .u64 0])
  have hB := below_dr hdr ((Below.refl w.heap.size w).alloc (Nat.le_refl _) (.cells #[.int .u64 0, .int .u64 0] 91))
  have k0 := hK.cell 0
  have k1 := hK.cell 1
  have f0 := hK.frozen 0
  have f1 := hK.frozen 1
  simp at k0 k1
  have hB := Lib.hid hB
  have hK := Lib.hid hK
  clear hdr
  go_wp2
  go_region
  go_wp2
  refine bodyPost_ret (v := .agg #[.int .u64 (n : Int), .int .u64 (d : Int)]) (by simp [results, Try.results61, go_sem, k0, k1]) rfl ⟨rfl, ?_⟩
  exact ((hB.out.setCell (p := ⟨w.heap.size, 0, none⟩) (Nat.le_refl _) _).setCell (p := ⟨w.heap.size, 1, none⟩) (Nat.le_refl _) _).drew
end Go.Proofs.Ytciafmnideihjaa
