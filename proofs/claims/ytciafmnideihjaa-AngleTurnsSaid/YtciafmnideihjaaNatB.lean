/- Package nat: limbs: cut, len, shut; Of. -/
import Derived.Test.YtciafmnideihjaaNatA
import Derived.Test.YtciafmnideihjaaNb
namespace Go.Proofs.Ytciafmnideihjaa
open Go.RowKit

/-- How many bits a number has. -/
def bitsN (n : Nat) : Nat := 32 * ((dg n).length - 1) + Go.Lib.bitLen ((dg n).getLastD 0)

theorem bitsN_spec {n : Nat} (h : 0 < n) : 0 < bitsN n ∧ 2 ^ (bitsN n - 1) ≤ n ∧ n < 2 ^ bitsN n := by
  have hl := dg_len_pos h
  obtain ⟨x, hx, hx2⟩ := getElem?_last (l := dg n) (fun e => by rw [e] at hl; simp at hl)
  have hx0 := dg_last n x hx2
  have hxs := getElem?_dg hx
  obtain ⟨b1, b2, b3, b4⟩ := bitLen_spec hxs hx0
  have hD : (dg n).getLastD 0 = x := by rw [List.getLastD_eq_getLast?, hx2]; rfl
  unfold bitsN
  rw [hD]
  generalize Go.Lib.bitLen x = b at *
  have e1 := val_take_drop (dg n) ((dg n).length - 1)
  have e2 : val ((dg n).drop ((dg n).length - 1)) = x := by
    have e := val_drop_cons hx
    have e' : (dg n).drop ((dg n).length - 1 + 1) = [] := List.drop_eq_nil_of_le (by omega)
    rw [e'] at e
    simpa [val] using e
  rw [e2, val_dg, Nat.min_eq_left (by omega)] at e1
  have hb := val_lt ((sm_dg n).take ((dg n).length - 1))
  rw [List.length_take, Nat.min_eq_left (by omega)] at hb
  generalize (dg n).length - 1 = k at *
  have eB : 4294967296 ^ k = 2 ^ (32 * k) := by rw [show (4294967296 : Nat) = 2 ^ 32 from rfl, ← Nat.pow_mul]
  rw [eB] at e1 hb
  refine ⟨by omega, ?_, ?_⟩
  · rw [show 32 * k + b - 1 = 32 * k + (b - 1) by omega, Nat.pow_add]
    have := Nat.mul_le_mul_left (2 ^ (32 * k)) b3
    omega
  · rw [Nat.pow_add]
    have : 2 ^ (32 * k) * (x + 1) ≤ 2 ^ (32 * k) * 2 ^ b := Nat.mul_le_mul_left _ b4
    rw [Nat.mul_add] at this
    omega

theorem bitsN_zero : bitsN 0 = 0 := by decide

theorem nb_len_bitsN (n : Nat) : (nb n).length = (bitsN n + 7) / 8 := by
  rcases Nat.eq_zero_or_pos n with h | h
  · subst h; rw [bitsN_zero]; rfl
  · obtain ⟨h1, h2, h3⟩ := bitsN_spec h
    exact nb_len_bits h h1 h2 h3

set_option maxHeartbeats 400000 in
/-- limbs.cut: the same number, without noughts at the end. -/
theorem cutL_any (v : Value) (l : List Nat) (w : World) (h : Rd .u32 143 w v l) (hs : Sm l) :
    Calls Try.prog 129 #[v] w (RetDgS (val l) w) := by
  by_cases hn : l = []
  · subst hn
    obtain ⟨A, c, rfl, h1, h2, h3⟩ := id h
    have hz : Hid (Rd .u32 143 w (.slice A 0 c) []) := Lib.hid h
    clear h h3
    simp only [List.length_nil]
    go_enter Try.func129, Try.ntmps129
    go_wp2
    refine wp_loop_rounds 1 ?_
    rw [rounds_succ]
    go_wp2
    go_ret
    exact ⟨.slice A 0 c, rfl, hz.out, rfl⟩
  · obtain ⟨g, off, c, L, rfl, h1, h2, hA, hL⟩ := h.open_ hn
    have hm : l.length ≤ 9223372036854775807 := Nat.le_trans h1 (by unfold maxLen at h2; exact h2)
    clear h
    go_enter Try.func129, Try.ntmps129
    go_wp2
    go_loop [3] (fun i => ∃ n : Nat, i = .int .i64 (n : Int) ∧ n ≤ l.length ∧ val (l.take n) = val l) (fun i => (intOf i).toNat)
    case atStart => exact ⟨l.length, rfl, Nat.le_refl _, by simp⟩
    case round =>
      obtain ⟨n, rfl, hn1, hv⟩ := hrel
      have HV := Lib.hid hv
      clear hv
      by_cases h0 : 0 < n
      · obtain ⟨x, hx⟩ : ∃ x, l[n - 1]? = some x := ⟨_, List.getElem?_eq_getElem (by omega)⟩
        have hc : w.cell? ⟨g, off + (n - 1), none⟩ = some (.int .u32 (x : Int)) := hA.cell (hL _ _ hx)
        by_cases hz : x = 0
        · subst hz
          have hv2 : val (l.take (n - 1)) = val l := by
            have := val_take_succ hx
            rw [show n - 1 + 1 = n by omega, HV.out] at this
            omega
          have HV2 := Lib.hid hv2
          clear hx hv2
          go_wp2
          go_round
          case rel => exact ⟨n - 1, by go_num, by omega, HV2.out⟩
          case measure => simp [intOf]; omega
        · have hx0 : ((x : Int) == 0) = false := by simpa using hz
          have HX := Lib.hid hx
          have hpos : 0 < x := by omega
          clear hx hz
          go_wp2
          go_ret
          refine ⟨.slice (some ⟨g, off, none⟩) n c, rfl, ?_, rfl⟩
          unfold Dg
          rw [dg_of_take hs hn1 HV.out (fun _ => ⟨x, HX.out, hpos⟩)]
          refine ⟨_, c, by rw [List.length_take, Nat.min_eq_left hn1], by rw [List.length_take]; omega, h2, fun _ => ⟨g, off, L, rfl, hA, fun j y hj => ?_⟩⟩
          rw [List.getElem?_take] at hj
          split at hj
          · exact hL _ _ hj
          · cases hj
      · obtain rfl : n = 0 := by omega
        go_wp2
        go_ret
        refine ⟨.slice (some ⟨g, off, none⟩) 0 c, rfl, ?_, rfl⟩
        unfold Dg
        rw [dg_of_take hs (Nat.zero_le _) HV.out (fun h => absurd h (by omega))]
        exact ⟨_, c, rfl, by simp, h2, fun h => absurd rfl h⟩

set_option maxHeartbeats 400000 in
/-- limbs.len: how many bits. -/
theorem lenL_any (v : Value) (l : List Nat) (w : World) (h : Rd .u32 143 w v l) (hs : Sm l) (hlen : l.length ≤ 1073741824) :
    Calls Try.prog 127 #[v] w fun e w' => e = .returned (.int .i64 ((bitsN (val l) : Nat) : Int)) ∧ w = w' := by
  have hlv : (dg (val l)).length ≤ 1073741824 := by
    have := dg_len_le_of_lt (val_lt hs)
    omega
  obtain ⟨N, hN⟩ : ∃ N, N = val l := ⟨_, rfl⟩
  have h := Lib.hid h
  rw [← hN] at hlv ⊢
  have HN := Lib.hid hN
  clear hN
  go_enter Try.func127, Try.ntmps127
  go_wp2_with fail
  refine (cutL_any v l w h.out hs).mono ?_
  rintro e w1 ⟨u, rfl, hu, rfl⟩
  rw [← HN.out] at hu
  rcases Nat.eq_zero_or_pos N with h0 | h0
  · subst h0
    obtain ⟨A, c, rfl, h1, h2, h3⟩ := id hu
    have hu := Lib.hid hu
    clear h3
    simp only [dg_zero, List.length_nil]
    go_wp2
    go_ret
    exact ⟨rfl, rfl⟩
  · have hl := dg_len_pos h0
    obtain ⟨g, o, c, L, rfl, h1, h2, hA, hL⟩ := hu.open_ (fun e => by rw [e] at hl; simp at hl)
    obtain ⟨x, hx, hx2⟩ := getElem?_last (l := dg N) (fun e => by rw [e] at hl; simp at hl)
    have hxs := getElem?_dg hx
    have hc : w.cell? ⟨g, o + ((dg N).length - 1), none⟩ = some (.int .u32 (x : Int)) := hA.cell (hL _ _ hx)
    have hb := bitLen_spec hxs (dg_last N x hx2)
    have HB : Hid (bitsN N = 32 * ((dg N).length - 1) + Go.Lib.bitLen x) := Lib.hid (by
      unfold bitsN
      rw [List.getLastD_eq_getLast?, hx2]; rfl)
    obtain ⟨K, hK⟩ : ∃ K, K = (dg N).length := ⟨_, rfl⟩
    rw [← hK] at hlv hl hc HB h1 ⊢
    have hk0 : ((K : Int) == 0) = false := by simp; omega
    have hbl : Go.Lib.bitLen x ≤ 32 := hb.2.1
    clear hu hx hx2 hK hb
    go_wp2_with fail
    refine (Try.bits_Len32 (x : Int) _ (by omega) (by omega)).mono ?_
    rintro e w1 ⟨rfl, rfl⟩
    rw [Int.toNat_natCast]
    obtain ⟨b, hb⟩ : ∃ b, b = Go.Lib.bitLen x := ⟨_, rfl⟩
    rw [← hb] at hbl HB ⊢
    clear hb
    go_wp2
    go_ret
    exact ⟨by rw [HB.out]; simp; omega, rfl⟩
end Go.Proofs.Ytciafmnideihjaa
