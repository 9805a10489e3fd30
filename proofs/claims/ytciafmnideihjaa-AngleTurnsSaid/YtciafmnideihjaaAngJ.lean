/- Package angle: kind, Kind. -/
import Derived.Test.YtciafmnideihjaaAngI
import Derived.Test.YtciafmnideihjaaAngG
namespace Go.Proofs.Ytciafmnideihjaa
open Go.RowKit

set_option maxRecDepth 100000 in
set_option maxHeartbeats 1000000 in
/-- angle.kind -/
theorem kind_any (n d A B : Nat) (w : World) (h0 : 0 < n) (hn : n < 4294967296) (hd : d < 18446744073709551616) (hk : Hid (kindN n d = (A, B))) :
    Calls Try.prog 52 #[.int .u64 (n : Int), .int .u64 (d : Int)] w (RetVal (.tuple #[.int .i64 (A : Int), .int .i64 (B : Int)]) w) := by
  go_enter Try.func52, Try.ntmps52
  go_wp2_with fail
  go_loopg [0, 4] n (fun f x c wr => ∃ y t : Nat, x = .int .u64 (y : Int) ∧ c = .int .i64 (t : Int) ∧ 0 < y ∧ y ≤ f ∧ t + y ≤ n ∧ kindF f y d t = (A, B) ∧ Below w.heap.size w wr)
  case atStart => exact ⟨n, 0, rfl, rfl, h0, Nat.le_refl _, by omega, hk.out, Below.refl _ _⟩
  case round =>
    obtain ⟨y, t, rfl, rfl, hy0, hyf, hty, hkf, hB⟩ := hrel
    replace hB := Lib.hid hB
    obtain ⟨g, hg⟩ : ∃ g, g = Nat.gcd y d := ⟨_, rfl⟩
    have hg0 : 0 < g := by rw [hg]; exact Nat.gcd_pos_of_pos_left _ hy0
    have hgy : g ≤ y := by rw [hg]; exact Nat.gcd_le_left _ hy0
    by_cases h1 : g = 1
    · rw [kindF_end (by rw [← hg]; exact h1)] at hkf
      injection hkf with e1 e2
      subst e1
      have hgI : (g : Int) = 1 := by omega
      replace hg := Lib.hid hg
      replace e2 := Lib.hid e2
      clear h1
      go_wp2_with fail
      refine (agcd_any y d _ (by omega) hd).mono ?_
      rintro e w1 ⟨rfl, hD⟩
      rw [← hg.out]
      have hB1 := Lib.hid (hB.out.trans (hD.below w.heap.size))
      clear hB hD
      go_wp2_with fail
      refine (order_any y d _ hy0 (by omega)).mono ?_
      rintro e w2 ⟨rfl, hb2⟩
      rw [e2.out]
      have hB2 := hB1.out.trans (hb2.mono hB1.out.size)
      replace hB2 := Lib.hid hB2
      clear hb2
      go_wp2_with fail
      go_ret2
      exact ⟨rfl, hB2.out⟩
    · obtain ⟨f', hf'⟩ : ∃ f', gk = f' + 1 := ⟨gk - 1, by omega⟩
      obtain ⟨q, hq⟩ : ∃ q, q = y / g := ⟨_, rfl⟩
      have hqi : (y : Int) / (g : Int) = (q : Int) := by rw [hq]; rfl
      have hq1 : q < y := by rw [hq]; exact Nat.div_lt_self hy0 (by omega)
      have hq0 : 0 < q := by rw [hq]; exact Nat.div_pos hgy hg0
      rw [hf', kindF_go (by rw [← hg]; exact h1), ← hg, ← hq] at hkf
      have hgI : ¬ (g : Int) = 1 := by omega
      replace hg := Lib.hid hg
      replace hkf := Lib.hid hkf
      have hqf : q ≤ f' := by omega
      replace hf' := Lib.hid hf'
      clear h1 hq
      go_wp2_with fail
      refine (agcd_any y d _ (by omega) hd).mono ?_
      rintro e w1 ⟨rfl, hD⟩
      rw [← hg.out]
      have hB1 := Lib.hid (hB.out.trans (hD.below w.heap.size))
      clear hB hD
      go_wp2_with fail
      go_roundg f'
      case measure => have := hf'.out; omega
      case rel => exact ⟨q, t + 1, rfl, by go_num, hq0, hqf, by omega, hkf.out, hB1.out⟩
end Go.Proofs.Ytciafmnideihjaa
