/- sort.Search, by a closure that may make memory. -/
import Derived.Test.YtoaggmegmgdgbaaLamE
import Derived.Shelf.RegionOpenPlain
import Derived.Deep.LoopGhost
namespace Go.Proofs.Ytoaggmegmgdgbaa
open Go.RowKit Go.Sort

set_option maxRecDepth 1000000 in
set_option maxHeartbeats 4000000 in
/-- sort.Search: K is where the closure turns from false to true. -/
theorem lSearch_any (g : Nat) (cb : Array Value) (n K : Nat) (p : Nat → Bool) (w : World) (eg : ∀ args w, (callFunc g args).run Try.prog w = .ok (.enter g args) w) (hsz : n < 4611686018427387904)
    (hK : K ≤ n) (hlo : ∀ t, t < K → p t = false) (hhi : ∀ t, K ≤ t → t < n → p t = true)
    (hf : ∀ (W : World) (i : Nat), i < n → Below w.heap.size w W → Calls Try.prog g (#[.int .i64 i] ++ cb) W (RetVal (.bool (p i)) W)) :
    Calls Try.prog 33 #[.int .i64 n, .func (.func g) #[] cb] w (RetVal (.int .i64 K) w) := by
  have HF := Lib.hid hf
  have HL := Lib.hid hlo
  have HH := Lib.hid hhi
  have HN := Lib.hid hK
  clear hf hlo hhi hK
  go_enter Try.func33, Try.ntmps33
  go_wp2
  go_loopg [5, 6] n (fun kx s5 s6 wr => ∃ (lo hi : Nat), s5 = .int .i64 lo ∧ s6 = .int .i64 hi ∧ lo ≤ hi ∧ hi ≤ n ∧ hi - lo ≤ kx ∧ Hid (lo ≤ K ∧ K ≤ hi) ∧ Hid (Below w.heap.size w wr))
  case atStart => exact ⟨0, n, rfl, rfl, Nat.zero_le _, Nat.le_refl _, by omega, Lib.hid ⟨Nat.zero_le _, HN.out⟩, Lib.hid (Below.refl _ _)⟩
  case round =>
    rename_i wr _
    obtain ⟨lo, hi, rfl, rfl, hlh, hin, hg, I, hB⟩ := hrel
    by_cases hlt : lo < hi
    · have hc := HF.out _ ((lo + hi) / 2) (by omega) hB.out
      rw [show (((lo + hi) / 2 : Nat) : Int) = ((lo : Int) + (hi : Int)) / 2 by omega] at hc
      cases hp : p ((lo + hi) / 2) <;> rw [hp] at hc
      · have HP := Lib.hid hp
        clear hp
        replace hc := Lib.hid hc
        go_wp2_with (go_at_fn g; refine hc.out.mono ?_; rintro e w2 ⟨rfl, hb⟩; replace hB := Lib.hid (hB.out.trans (hb.mono hB.out.size)); clear hb)
        go_roundg (hi - ((lo + hi) / 2 + 1))
        case measure => omega
        case rel =>
          have hKlt : (lo + hi) / 2 < K := by
            rcases Nat.lt_or_ge ((lo + hi) / 2) K with h | h
            · exact h
            · have := HH.out _ h (by omega); rw [HP.out] at this; cases this
          exact ⟨(lo + hi) / 2 + 1, hi, by rw [show ((lo : Int) + (hi : Int)) / 2 + 1 = (((lo + hi) / 2 + 1 : Nat) : Int) by omega], rfl, by omega, hin, Nat.le_refl _, Lib.hid ⟨hKlt, I.out.2⟩, hB⟩
      · have HP := Lib.hid hp
        clear hp
        replace hc := Lib.hid hc
        go_wp2_with (go_at_fn g; refine hc.out.mono ?_; rintro e w2 ⟨rfl, hb⟩; replace hB := Lib.hid (hB.out.trans (hb.mono hB.out.size)); clear hb)
        go_roundg ((lo + hi) / 2 - lo)
        case measure => omega
        case rel =>
          have hKle : K ≤ (lo + hi) / 2 := by
            rcases Nat.lt_or_ge ((lo + hi) / 2) K with h | h
            · have := HL.out _ h; rw [HP.out] at this; cases this
            · exact h
          exact ⟨lo, (lo + hi) / 2, rfl, by rw [show ((lo : Int) + (hi : Int)) / 2 = (((lo + hi) / 2 : Nat) : Int) by omega], by omega, by omega, Nat.le_refl _, Lib.hid ⟨I.out.1, hKle⟩, hB⟩
    · obtain rfl : hi = lo := by omega
      obtain rfl : K = hi := by have := I.out; omega
      go_wp2
      go_ret
      exact ⟨rfl, hB.out⟩
end Go.Proofs.Ytoaggmegmgdgbaa
