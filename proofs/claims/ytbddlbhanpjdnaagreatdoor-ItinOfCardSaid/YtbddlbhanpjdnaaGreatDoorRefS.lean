/- Package filigreeref22: Symbol. -/
import Derived.Test.YtbddlbhanpjdnaaGreatDoorBack
import Derived.Test.YtbddlbhanpjdnaaGreatDoorItA
namespace Go.Proofs.YtbddlbhanpjdnaaGreatDoor
open Go.RowKit Go.Sort

set_option maxRecDepth 100000 in
set_option maxHeartbeats 2000000 in
/-- filigreeref22.Symbol -/
theorem rSymA_any (s t p q d : Nat) (w : World) (hst : s < t) (ht : t ≤ 2147483647) (hpq : p < q) (hq9 : q ≤ 2147483647) (hd : 2 ≤ d) (hd2 : d ≤ 64) :
    Calls Tryz.prog 14 #[.agg #[.int .u64 (s : Int), .int .u64 (t : Int)], .agg #[.int .u64 (p : Int), .int .u64 (q : Int)], .int .i64 (d : Int)] w (RetVal (.int .u8 ((symV s t p q d : Nat) : Int)) w) := by
  obtain ⟨X, hX⟩ : ∃ X, X = p * d % q := ⟨_, rfl⟩
  obtain ⟨G, hG⟩ : ∃ G, G = Nat.gcd X q := ⟨_, rfl⟩
  obtain ⟨N, hN⟩ : ∃ N, N = X / Nat.gcd X q := ⟨_, rfl⟩
  obtain ⟨D, hD⟩ : ∃ D, D = q / Nat.gcd X q := ⟨_, rfl⟩
  have hG0 : 0 < G := by rw [hG]; exact Nat.gcd_pos_of_pos_right _ (by omega)
  have eN : N * G = X := by rw [hN, hG]; exact Nat.div_mul_cancel (Nat.gcd_dvd_left _ _)
  have eD : D * G = q := by rw [hD, hG]; exact Nat.div_mul_cancel (Nat.gcd_dvd_right _ _)
  have hXq : X < q := by rw [hX]; exact Nat.mod_lt _ (by omega)
  obtain ⟨L, hL⟩ : ∃ L, L = s * D := ⟨_, rfl⟩
  obtain ⟨R, hR⟩ : ∃ R, R = N * t := ⟨_, rfl⟩
  have eL : s * q = L * G := by rw [hL, ← eD, Nat.mul_assoc]
  have eR : X * t = R * G := by rw [hR, ← eN, Nat.mul_assoc, Nat.mul_assoc, Nat.mul_comm G t]
  have bL : L < 18446744073709551616 := by
    have h1 := Nat.mul_le_mul (show s ≤ 2147483647 by omega) hq9
    have h2 := Nat.le_mul_of_pos_right L hG0
    omega
  have bR : R < 18446744073709551616 := by
    have h1 := Nat.mul_le_mul (show X ≤ 2147483647 by omega) ht
    have h2 := Nat.le_mul_of_pos_right R hG0
    omega
  obtain ⟨S, hS⟩ : ∃ S, S = p * d := ⟨_, rfl⟩
  have hSs : S ≤ 2147483647 * 64 := by rw [hS]; exact Nat.mul_le_mul (by omega) hd2
  obtain ⟨f, hf⟩ : ∃ f, f = S / q := ⟨_, rfl⟩
  have hfd : f < d := by
    rw [hf, hS, Nat.div_lt_iff_lt_mul (by omega), Nat.mul_comm d q]
    exact Nat.mul_lt_mul_of_pos_right hpq (by omega)
  have hsym : symV s t p q d = if L = R then 255 else (f + if L < R then 1 else 0) % d := by
    have e1 : s * q = (d * p % q) * t ↔ L = R := by
      rw [Nat.mul_comm d p, ← hX, eL, eR]
      exact ⟨fun h => Nat.eq_of_mul_eq_mul_right hG0 h, fun h => by rw [h]⟩
    have e2 : s * q < (d * p % q) * t ↔ L < R := by
      rw [Nat.mul_comm d p, ← hX, eL, eR]
      exact ⟨fun h => Nat.lt_of_mul_lt_mul_right h, fun h => Nat.mul_lt_mul_of_pos_right h hG0⟩
    have e3 : d * p / q = f := by rw [hf, hS, Nat.mul_comm]
    unfold symV
    simp only [e1, e2, e3]
  have hSi : (p : Int) * (d : Int) = (S : Int) := by rw [hS]; push_cast; rfl
  have wd : IntKind.u64.wrap (d : Int) = (d : Int) := by rw [IntKind.wrap_u64]; omega
  have ws : IntKind.u64.wrap (S : Int) = (S : Int) := by rw [IntKind.wrap_u64]; omega
  have hdiv : (S : Int).tdiv (q : Int) = (f : Int) := by rw [hf]; exact tdiv_nat _ _
  have wf : IntKind.i64.wrap (f : Int) = (f : Int) := by rw [IntKind.wrap_i64]; omega
  have hq0 : ¬ (q : Int) = 0 := by omega
  have hd0 : ¬ (d : Int) = 0 := by omega
  have hT := Lib.hid (fun W => rturn_any p q d X N D W (by omega) (by omega) hq9 hd2 (Lib.hid hX) (Lib.hid hN) (Lib.hid hD))
  have hC := Lib.hid (fun W => rcmp_any s t N D L R W (Lib.hid hL) (Lib.hid hR) bL bR)
  have ka := (Blk.new w 37 #[.int .u64 (s : Int), .int .u64 (t : Int)]).alloc (.cells #[.int .u64 (p : Int), .int .u64 (q : Int)] 37)
  have kb := Blk.new (w.alloc (.cells #[.int .u64 (s : Int), .int .u64 (t : Int)] 37)) 37 #[.int .u64 (p : Int), .int .u64 (q : Int)]
  have hBW : Below w.heap.size w ((w.alloc (.cells #[.int .u64 (s : Int), .int .u64 (t : Int)] 37)).alloc (.cells #[.int .u64 (p : Int), .int .u64 (q : Int)] 37)) := ((Below.refl _ w).alloc (Nat.le_refl _) _).alloc (by simp) _
  rw [World.size_alloc] at kb
  replace ka := Lib.hid ka
  replace kb := Lib.hid kb
  replace hBW := Lib.hid hBW
  replace hsym := Lib.hid hsym
  replace bL := Lib.hid bL
  replace bR := Lib.hid bR
  replace hSs := Lib.hid hSs
  clear hX hG hN hD hG0 eN eD hXq hL hR eL eR hS hf
  go_enter Tryz.func14, Tryz.ntmps14
  go_wp2_with fail
  refine (hT.out _).mono ?_
  rintro en w1 ⟨rfl, hb⟩
  have kn := Lib.hid (Blk.new w1 37 #[.int .u64 (N : Int), .int .u64 (D : Int)])
  replace ka := Lib.hid ((Blk.below ka.out hb).alloc (.cells #[.int .u64 (N : Int), .int .u64 (D : Int)] 37))
  replace kb := Lib.hid ((Blk.below kb.out hb).alloc (.cells #[.int .u64 (N : Int), .int .u64 (D : Int)] 37))
  have hB1 := hBW.out.trans (hb.mono hBW.out.size)
  have hB := Lib.hid (hB1.alloc hB1.size (.cells #[.int .u64 (N : Int), .int .u64 (D : Int)] 37))
  clear hb hB1 hBW
  go_upto_region 2 with fail
  generalize hW : w1.alloc (.cells #[.int .u64 (N : Int), .int .u64 (D : Int)] 37) = w2 at ka kb kn hB ⊢
  generalize hg : w1.heap.size = gn at kn ⊢
  clear hW hg w1
  have a0 : w2.cell? ⟨w.heap.size, 0, none⟩ = some (.int .u64 (s : Int)) := ka.out.cell 0
  have a1 : w2.cell? ⟨w.heap.size, 1, none⟩ = some (.int .u64 (t : Int)) := ka.out.cell 1
  have n0 : w2.cell? ⟨gn, 0, none⟩ = some (.int .u64 (N : Int)) := kn.out.cell 0
  have n1 : w2.cell? ⟨gn, 1, none⟩ = some (.int .u64 (D : Int)) := kn.out.cell 1
  go_wp2_with fail
  refine (hC.out _).mono ?_
  rintro en w3 ⟨rfl, hb⟩
  have b0 : w3.cell? ⟨w.heap.size + 1, 0, none⟩ = some (.int .u64 (p : Int)) := (Blk.below kb.out hb).cell 0
  have b1 : w3.cell? ⟨w.heap.size + 1, 1, none⟩ = some (.int .u64 (q : Int)) := (Blk.below kb.out hb).cell 1
  replace hB := Lib.hid (hB.out.trans (hb.mono hB.out.size))
  clear hb a0 a1 n0 n1 ka kb kn hT hC
  rcases Nat.lt_trichotomy L R with h | h | h
  · have hcv : cmpN L R = -1 := cmpN_lt h
    have hv : symV s t p q d = (f + 1) % d := by rw [hsym.out, if_neg (by omega), if_pos h]
    obtain ⟨m, hm⟩ : ∃ m, m = (f + 1) % d := ⟨_, rfl⟩
    have hm9 : m < d := by rw [hm]; exact Nat.mod_lt _ (by omega)
    have hmod : ((f : Int) + 1).tmod (d : Int) = (m : Int) := by rw [hm, ← tmod_nat]; push_cast; rfl
    have wm : IntKind.u8.wrap (m : Int) = (m : Int) := by rw [IntKind.wrap_u8]; omega
    have hres : Hid (symV s t p q d = m) := Lib.hid (by rw [hv, hm])
    rw [hcv]
    clear hv hcv hm hsym h
    go_wp2
    go_ret
    exact ⟨by rw [hres.out]; rfl, hB.out⟩
  · have hcv : cmpN L R = 0 := cmpN_eq h
    have hv : symV s t p q d = 255 := by rw [hsym.out, if_pos h]
    have hres := Lib.hid hv
    rw [hcv]
    clear hv hcv hsym h
    go_wp2
    go_ret
    exact ⟨by rw [hres.out]; rfl, hB.out⟩
  · have hcv : cmpN L R = 1 := cmpN_gt h
    have hv : symV s t p q d = f % d := by rw [hsym.out, if_neg (by omega), if_neg (by omega), Nat.add_zero]
    obtain ⟨m, hm⟩ : ∃ m, m = f % d := ⟨_, rfl⟩
    have hm9 : m < d := by rw [hm]; exact Nat.mod_lt _ (by omega)
    have hmod : (f : Int).tmod (d : Int) = (m : Int) := by rw [hm]; exact tmod_nat _ _
    have wm : IntKind.u8.wrap (m : Int) = (m : Int) := by rw [IntKind.wrap_u8]; omega
    have hres : Hid (symV s t p q d = m) := Lib.hid (by rw [hv, hm])
    rw [hcv]
    clear hv hcv hm hsym h
    go_wp2
    go_ret
    exact ⟨by rw [hres.out]; rfl, hB.out⟩
end Go.Proofs.YtbddlbhanpjdnaaGreatDoor
