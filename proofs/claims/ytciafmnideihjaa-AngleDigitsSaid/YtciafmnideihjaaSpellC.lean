/- Package angle: Of, of digits that may be. · Package angle: Of, of digits that may not be. -/
import Derived.Test.YtciafmnideihjaaSpellA
import Derived.Deep.CutBlock
namespace Go.Proofs.Ytciafmnideihjaa
open Go.RowKit Go.Sort

theorem mul_256 {a b i j : Nat} (ha : a < 256 ^ i) (hb : b < 256 ^ j) : a * b < 256 ^ (i + j) := by
  rw [Nat.pow_add]
  exact Nat.mul_lt_mul'' ha hb
theorem le_256 {a i j : Nat} (ha : a < 256 ^ i) (h : i ≤ j) : a < 256 ^ j := Nat.lt_of_lt_of_le ha (Nat.pow_le_pow_right (by omega) h)
theorem pow_256 {d n : Nat} (hd : d ≤ 64) : d ^ n < 256 ^ (n + 1) := by
  have h1 : d ^ n ≤ 256 ^ n := Nat.pow_le_pow_left (by omega) n
  have h2 : 0 < 256 ^ n := Nat.pow_pos (by omega)
  rw [Nat.pow_succ]
  omega
theorem dg_256 {m : Nat} (h : m < 256 ^ 8000) : (dg m).length ≤ 1073741823 := Nat.le_trans (dg_of_256 h) (by omega)

theorem und2 : Try.prog.underlying 116 = some (.array 2 81) := by kernel_rfl
theorem idx0 (x y : Value) (w : World) : (Instr.index 116 (.agg #[x, y]) (.int .i64 0)).run Try.prog w = .ok x w := by simp [Instr.index, run_underlying und2, asIntOf, go_sem]
theorem idx1 (x y : Value) (w : World) : (Instr.index 116 (.agg #[x, y]) (.int .i64 1)).run Try.prog w = .ok y w := by simp [Instr.index, run_underlying und2, asIntOf, go_sem]
attribute [local go_sem] idx0 idx1


set_option exponentiation.threshold 9000 in
set_option maxRecDepth 100000 in
set_option maxHeartbeats 4000000 in
/-- angle.Of, of digits that may be. -/
theorem of_full (d : Nat) (v1 v2 : Value) (l1 l2 : List Nat) (N D : Nat) (w : World) (hd : 2 ≤ d) (hd2 : d ≤ 64) (h1 : Rd .u8 5 w v1 l1) (h2 : Rd .u8 5 w v2 l2)
    (hs1 : ∀ x, x ∈ l1 → x < d) (hs2 : ∀ x, x ∈ l2 → x < d) (hp : 1 ≤ l2.length) (hlen : l1.length + l2.length ≤ 1024)
    (hN : N = ((numL d l1 * (d ^ l2.length - 1) + numL d l2) % (d ^ l1.length * (d ^ l2.length - 1))) / Nat.gcd ((numL d l1 * (d ^ l2.length - 1) + numL d l2) % (d ^ l1.length * (d ^ l2.length - 1))) (d ^ l1.length * (d ^ l2.length - 1)))
    (hD : D = (d ^ l1.length * (d ^ l2.length - 1)) / Nat.gcd ((numL d l1 * (d ^ l2.length - 1) + numL d l2) % (d ^ l1.length * (d ^ l2.length - 1))) (d ^ l1.length * (d ^ l2.length - 1)))
    :
    Calls Try.prog 48 #[.int .i64 (d : Int), v1, v2] w (RetVal (toldV N D) w) := by
  obtain ⟨A1, c1, rfl, a1, a2, a3⟩ := id h1
  obtain ⟨A2, c2, rfl, b1, b2, b3⟩ := id h2
  obtain ⟨L1, hL1⟩ : ∃ L, L = l1.length := ⟨_, rfl⟩
  obtain ⟨L2, hL2⟩ : ∃ L, L = l2.length := ⟨_, rfl⟩
  rw [← hL1] at a1 hlen hN hD
  rw [← hL2] at b1 hlen hN hD hp
  obtain ⟨E1, hE1⟩ : ∃ E, E = d ^ L1 := ⟨_, rfl⟩
  obtain ⟨E2, hE2⟩ : ∃ E, E = d ^ L2 := ⟨_, rfl⟩
  obtain ⟨B, hB⟩ : ∃ B, B = E2 - 1 := ⟨_, rfl⟩
  obtain ⟨DEN, hDEN⟩ : ∃ X, X = E1 * B := ⟨_, rfl⟩
  obtain ⟨A, hA⟩ : ∃ A, A = numL d l1 := ⟨_, rfl⟩
  obtain ⟨C, hC⟩ : ∃ C, C = numL d l2 := ⟨_, rfl⟩
  obtain ⟨AB, hAB⟩ : ∃ X, X = A * B := ⟨_, rfl⟩
  obtain ⟨SUM, hSUM⟩ : ∃ X, X = AB + C := ⟨_, rfl⟩
  obtain ⟨NUM, hNUM⟩ : ∃ X, X = SUM % DEN := ⟨_, rfl⟩
  obtain ⟨G, hG⟩ : ∃ X, X = Nat.gcd NUM DEN := ⟨_, rfl⟩
  rw [← hE1, ← hE2, ← hB, ← hDEN, ← hA, ← hC, ← hAB, ← hSUM, ← hNUM, ← hG] at hN hD
  have p2 : 2 ≤ E2 := by
    rw [hE2]
    obtain ⟨k, rfl⟩ : ∃ k, L2 = k + 1 := ⟨L2 - 1, by omega⟩
    rw [Nat.pow_succ]
    have : 1 ≤ d ^ k := one_pow (by omega)
    exact Nat.mul_le_mul this hd
  have p1 : 1 ≤ E1 := by rw [hE1]; exact one_pow (by omega)
  have pD : 0 < DEN := by rw [hDEN]; exact Nat.mul_pos p1 (by omega)
  have pG : 0 < G := by rw [hG]; exact Nat.gcd_pos_of_pos_right _ pD
  have s1 : E1 < 256 ^ 1025 := by rw [hE1]; exact le_256 (pow_256 hd2) (by omega)
  have s2 : E2 < 256 ^ 1025 := by rw [hE2]; exact le_256 (pow_256 hd2) (by omega)
  have sB : B < 256 ^ 1025 := by omega
  have sDEN : DEN < 256 ^ 2050 := by rw [hDEN]; exact mul_256 s1 sB
  have sA : A < 256 ^ 1024 := by rw [hA]; exact le_256 (numL_lt (by omega) l1 (fun x hx => by have := hs1 x hx; omega)) (by omega)
  have sC : C < 256 ^ 1024 := by rw [hC]; exact le_256 (numL_lt (by omega) l2 (fun x hx => by have := hs2 x hx; omega)) (by omega)
  have sAB : AB < 256 ^ 2049 := by rw [hAB]; exact mul_256 sA sB
  have sSUM : SUM < 256 ^ 2050 := by
    rw [hSUM, show (2050 : Nat) = 2049 + 1 from rfl, Nat.pow_succ]
    have h3 : C < 256 ^ 2049 := le_256 sC (by omega)
    omega
  have sNUM : NUM < DEN := by rw [hNUM]; exact Nat.mod_lt _ pD
  have dE1 := dg_256 (le_256 s1 (show 1025 ≤ 8000 by omega))
  have dE2 := dg_256 (le_256 s2 (show 1025 ≤ 8000 by omega))
  have dB := dg_256 (le_256 sB (show 1025 ≤ 8000 by omega))
  have dDEN := dg_256 (le_256 sDEN (show 2050 ≤ 8000 by omega))
  have dA := dg_256 (le_256 sA (show 1024 ≤ 8000 by omega))
  have dC := dg_256 (le_256 sC (show 1024 ≤ 8000 by omega))
  have dAB := dg_256 (le_256 sAB (show 2049 ≤ 8000 by omega))
  have dSUM := dg_256 (le_256 sSUM (show 2050 ≤ 8000 by omega))
  have dNUM : (dg NUM).length ≤ 1073741823 := Nat.le_trans (dg_len_mono (Nat.le_of_lt sNUM)) dDEN
  have dd : (dg d).length ≤ 1073741823 := by have := dg_of_256 (n := d) (k := 1) (by omega); omega
  have d1 : (dg 1).length ≤ 1073741823 := by have := dg_of_256 (n := 1) (k := 1) (by omega); omega
  have hND : N < D := by
    rw [hN, hD]
    exact Nat.div_lt_div_of_lt_of_dvd (by rw [hG]; exact Nat.gcd_dvd_right _ _) sNUM
  have hdI : (2 : Int) ≤ (d : Int) := by omega
  have hdI2 : (d : Int) ≤ 64 := by omega
  have hr : roundB (d : Int) = true := roundB_iff.2 ⟨hdI, hdI2⟩
  have hL2I : ((L2 : Int) == 0) = false := by simp; omega
  have hLI : ¬ (1024 : Int) < (L1 : Int) + (L2 : Int) := by omega
  have kr := Blk.new w 24 #[.bool false, .string ⟨#[]⟩, .string ⟨#[]⟩]
  have hBW : Below w.heap.size w (w.alloc (.cells #[.bool false, .string ⟨#[]⟩, .string ⟨#[]⟩] 24)) := (Below.refl _ w).alloc (Nat.le_refl _) _
  obtain ⟨u, hu⟩ : ∃ u, u = w.alloc (.cells #[.bool false, .string ⟨#[]⟩, .string ⟨#[]⟩] 24) := ⟨_, rfl⟩
  have h1u := h1.alloc (.cells #[.bool false, .string ⟨#[]⟩, .string ⟨#[]⟩] 24)
  have h2u := h2.alloc (.cells #[.bool false, .string ⟨#[]⟩, .string ⟨#[]⟩] 24)
  rw [← hu] at kr hBW h1u h2u
  have hBU : Below u.heap.size u u := Below.refl _ _
  have hus : u.heap.size = w.heap.size + 1 := by rw [hu]; simp
  have hB2 : ((E2 : Nat) : Int) - (1 : Nat) = ((B : Nat) : Int) := by omega
  have hDENi : ((E1 : Nat) : Int) * ((B : Nat) : Int) = ((DEN : Nat) : Int) := by rw [hDEN]; push_cast; rfl
  have hABi : ((A : Nat) : Int) * ((B : Nat) : Int) = ((AB : Nat) : Int) := by rw [hAB]; push_cast; rfl
  have hSUMi : ((AB : Nat) : Int) + ((C : Nat) : Int) = ((SUM : Nat) : Int) := by rw [hSUM]; push_cast; rfl
  rw [← hL1, ← hL2]
  rw [← hL1] at h1u
  rw [← hL2] at h2u
  replace hr := Lib.hid hr
  replace hu := Lib.hid hu
  replace kr := Lib.hid kr
  replace hBW := Lib.hid hBW
  replace hBU := Lib.hid hBU
  replace h1u := Lib.hid h1u
  replace h2u := Lib.hid h2u
  replace hL1 := Lib.hid hL1
  replace hL2 := Lib.hid hL2
  replace hs1 := Lib.hid hs1
  replace hs2 := Lib.hid hs2
  replace hE1 := Lib.hid hE1
  replace hE2 := Lib.hid hE2
  replace hA := Lib.hid hA
  replace hC := Lib.hid hC
  replace hNUM := Lib.hid hNUM
  replace hG := Lib.hid hG
  replace hN := Lib.hid hN
  replace hD := Lib.hid hD
  replace dE1 := Lib.hid dE1
  replace dE2 := Lib.hid dE2
  replace dB := Lib.hid dB
  replace dDEN := Lib.hid dDEN
  replace dA := Lib.hid dA
  replace dC := Lib.hid dC
  replace dAB := Lib.hid dAB
  replace dSUM := Lib.hid dSUM
  replace dNUM := Lib.hid dNUM
  replace dd := Lib.hid dd
  replace d1 := Lib.hid d1
  replace hB2 := Lib.hid hB2
  replace hDENi := Lib.hid hDENi
  replace hABi := Lib.hid hABi
  replace hSUMi := Lib.hid hSUMi
  replace p2 := Lib.hid p2
  replace p1 := Lib.hid p1
  replace pD := Lib.hid pD
  replace pG := Lib.hid pG
  replace hND := Lib.hid hND
  replace hd2 := Lib.hid hd2
  clear h1 h2 a3 b3 hB hDEN hAB hSUM s1 s2 sB sDEN sA sC sAB sSUM sNUM
  go_enter Try.func48, Try.ntmps48
  go_wp2_with fail
  rw [← hu.out]
  refine (aturns_any (d : Int) _).mono ?_
  rintro e x0 ⟨rfl, rfl⟩
  rw [hr.out]
  go_wp2_with fail
  go_loopw [38] (fun i wr => ∃ k : Nat, i = .int .i64 (k : Int) ∧ k ≤ 2 ∧ u = wr) (fun i _ => 2 - (intOf i).toNat)
  case atStart => exact ⟨0, rfl, by omega, by simp⟩
  case round =>
    obtain ⟨k, rfl, hk, rfl⟩ := hrel
    have hk3 : k = 0 ∨ k = 1 ∨ k = 2 := by omega
    rcases hk3 with rfl | rfl | rfl
    · go_wp2_with fail
      go_loopw [43] (fun i wq => ∃ j : Nat, i = .int .i64 (j : Int) ∧ j ≤ L1 ∧ u = wq) (fun i _ => L1 - (intOf i).toNat)
      case atStart => exact ⟨0, rfl, Nat.zero_le _, by simp⟩
      case round =>
        obtain ⟨j, rfl, hj, rfl⟩ := hrel
        by_cases hj0 : j < L1
        · have hjI : (j : Int) < (L1 : Int) := by omega
          obtain ⟨x, hx⟩ : ∃ x, l1[j]? = some x := ⟨_, List.getElem?_eq_getElem (by rw [← hL1.out]; exact hj0)⟩
          have hxd := hs1.out x (List.mem_of_getElem? hx)
          obtain ⟨ga, oa, ca, La, ea, -, -, hAa, hLa⟩ := h1u.out.open_ (fun e => by have := hL1.out; rw [e] at this; simp at this; omega)
          injection ea with ea1 _ ea2
          subst ea1 ea2
          have hcx : u.cell? ⟨ga, oa + j, none⟩ = some (.int .u8 (x : Int)) := hAa.cell (hLa _ _ hx)
          have hxI : ¬ (d : Int) ≤ (x : Int) := by omega
          clear hx
          go_wp2_with fail
          go_roundw
          case rel => exact ⟨j + 1, by go_num, by omega, by simp⟩
          case measure => simp [intOf]; omega
        · obtain rfl : j = L1 := by omega
          have hjI : ¬ (j : Int) < (j : Int) := by omega
          go_wp2_with fail
          go_roundw
          case rel => exact ⟨1, rfl, by omega, by simp⟩
          case measure => simp [intOf]
    · go_wp2_with fail
      go_loopw [43] (fun i wq => ∃ j : Nat, i = .int .i64 (j : Int) ∧ j ≤ L2 ∧ u = wq) (fun i _ => L2 - (intOf i).toNat)
      case atStart => exact ⟨0, rfl, Nat.zero_le _, by simp⟩
      case round =>
        obtain ⟨j, rfl, hj, rfl⟩ := hrel
        by_cases hj0 : j < L2
        · have hjI : (j : Int) < (L2 : Int) := by omega
          obtain ⟨x, hx⟩ : ∃ x, l2[j]? = some x := ⟨_, List.getElem?_eq_getElem (by rw [← hL2.out]; exact hj0)⟩
          have hxd := hs2.out x (List.mem_of_getElem? hx)
          obtain ⟨ga, oa, ca, La, ea, -, -, hAa, hLa⟩ := h2u.out.open_ (fun e => by have := hL2.out; rw [e] at this; simp at this; omega)
          injection ea with ea1 _ ea2
          subst ea1 ea2
          have hcx : u.cell? ⟨ga, oa + j, none⟩ = some (.int .u8 (x : Int)) := hAa.cell (hLa _ _ hx)
          have hxI : ¬ (d : Int) ≤ (x : Int) := by omega
          clear hx
          go_wp2_with fail
          go_roundw
          case rel => exact ⟨j + 1, by go_num, by omega, by simp⟩
          case measure => simp [intOf]; omega
        · obtain rfl : j = L2 := by omega
          have hjI : ¬ (j : Int) < (j : Int) := by omega
          go_wp2_with fail
          go_roundw
          case rel => exact ⟨2, rfl, by omega, by simp⟩
          case measure => simp [intOf]
    · clear hk
      go_wp2_with fail
      refine (newInt_any d _ (by have := hd2.out; omega)).mono ?_
      rintro e y1 ⟨pb, rfl, hge, hbase, hb⟩
      have ge_pb : u.heap.size ≤ pb := Nat.le_trans hBU.out.size hge
      replace hBU := Lib.hid (hBU.out.trans (hb.mono hBU.out.size))
      replace hbase := Lib.hid hbase
      clear hb hge
      go_wp2_with fail
      have ge_g1 : u.heap.size ≤ y1.heap.size := hBU.out.size
      have lt_pb_g1 : pb < y1.heap.size := hbase.out.slot.lt
      replace hbase := hbase.out.alloc (.cells #[.bool false, .slice none 0 0] 120)
      have hg1 := Big.new y1
      replace hBU := hBU.out.alloc hBU.out.size (.cells #[.bool false, .slice none 0 0] 120)
      generalize hxx : y1.alloc (.cells #[.bool false, .slice none 0 0] 120) = y2 at hbase hg1 hBU ⊢
      generalize hgg : y1.heap.size = g1 at *
      clear hxx hgg
      replace hbase := Lib.hid hbase
      replace hg1 := Lib.hid hg1
      replace hBU := Lib.hid hBU
      refine (newInt_any L2 _ (by omega)).mono ?_
      rintro e y3 ⟨pe, rfl, hge, hpe, hb⟩
      have ge_pe : u.heap.size ≤ pe := Nat.le_trans hBU.out.size hge
      have lt_pb_pe : pb < pe := Nat.lt_of_lt_of_le hbase.out.slot.lt hge
      have lt_g1_pe : g1 < pe := Nat.lt_of_lt_of_le hg1.out.slot.lt hge
      replace hbase := Lib.hid (hbase.out.below hb)
      replace hg1 := Lib.hid (hg1.out.below hb)
      replace hBU := Lib.hid (hBU.out.trans (hb.mono hBU.out.size))
      replace hpe := Lib.hid hpe
      clear hb hge
      go_wp2_with fail
      refine (expBig_any g1 0 pb 0 pe 0 d L2 _ hg1.out.slot hbase.out hpe.out (by omega) (by omega) (by rw [← hE2.out]; exact dE2.out) _).mono ?_
      rintro e y4 ⟨rfl, hz, hg⟩
      replace hbase := Lib.hid (hbase.out.grown hg1.out.slot hg (by omega))
      replace hpe := Lib.hid (hpe.out.grown hg1.out.slot hg (by omega))
      replace hBU := Lib.hid (below_gb hBU.out hg ge_g1 hBU.out.size)
      rw [← hE2.out] at hz
      replace hg1 := Lib.hid hz
      clear hg
      clear hpe
      go_wp2_with fail
      refine (newInt_any 1 _ (by omega)).mono ?_
      rintro e y5 ⟨p1, rfl, hge, hp1, hb⟩
      have ge_p1 : u.heap.size ≤ p1 := Nat.le_trans hBU.out.size hge
      have lt_pb_p1 : pb < p1 := Nat.lt_of_lt_of_le hbase.out.slot.lt hge
      have lt_g1_p1 : g1 < p1 := Nat.lt_of_lt_of_le hg1.out.slot.lt hge
      replace hbase := Lib.hid (hbase.out.below hb)
      replace hg1 := Lib.hid (hg1.out.below hb)
      replace hBU := Lib.hid (hBU.out.trans (hb.mono hBU.out.size))
      replace hp1 := Lib.hid hp1
      clear hb hge
      go_wp2_with fail
      refine (subBig_any g1 0 g1 0 p1 0 (E2 : Int) ((1 : Nat) : Int) _ hg1.out.slot hg1.out hp1.out (by rw [Int.natAbs_natCast]; exact dE2.out) (by rw [Int.natAbs_natCast]; exact d1.out)).mono ?_
      rintro e y6 ⟨rfl, hz, hg⟩
      replace hbase := Lib.hid (hbase.out.grown hg1.out.slot hg (by omega))
      replace hp1 := Lib.hid (hp1.out.grown hg1.out.slot hg (by omega))
      replace hBU := Lib.hid (below_gb hBU.out hg ge_g1 hBU.out.size)
      rw [hB2.out] at hz
      replace hg1 := Lib.hid hz
      clear hg
      clear hp1
      go_wp2_with fail
      have ge_g2 : u.heap.size ≤ y6.heap.size := hBU.out.size
      have lt_pb_g2 : pb < y6.heap.size := hbase.out.slot.lt
      have lt_g1_g2 : g1 < y6.heap.size := hg1.out.slot.lt
      replace hbase := hbase.out.alloc (.cells #[.bool false, .slice none 0 0] 120)
      replace hg1 := hg1.out.alloc (.cells #[.bool false, .slice none 0 0] 120)
      have hg2 := Big.new y6
      replace hBU := hBU.out.alloc hBU.out.size (.cells #[.bool false, .slice none 0 0] 120)
      generalize hxx : y6.alloc (.cells #[.bool false, .slice none 0 0] 120) = y7 at hbase hg1 hg2 hBU ⊢
      generalize hgg : y6.heap.size = g2 at *
      clear hxx hgg
      replace hbase := Lib.hid hbase
      replace hg1 := Lib.hid hg1
      replace hg2 := Lib.hid hg2
      replace hBU := Lib.hid hBU
      refine (newInt_any L1 _ (by omega)).mono ?_
      rintro e y8 ⟨pe2, rfl, hge, hpe, hb⟩
      have ge_pe2 : u.heap.size ≤ pe2 := Nat.le_trans hBU.out.size hge
      have lt_pb_pe2 : pb < pe2 := Nat.lt_of_lt_of_le hbase.out.slot.lt hge
      have lt_g1_pe2 : g1 < pe2 := Nat.lt_of_lt_of_le hg1.out.slot.lt hge
      have lt_g2_pe2 : g2 < pe2 := Nat.lt_of_lt_of_le hg2.out.slot.lt hge
      replace hbase := Lib.hid (hbase.out.below hb)
      replace hg1 := Lib.hid (hg1.out.below hb)
      replace hg2 := Lib.hid (hg2.out.below hb)
      replace hBU := Lib.hid (hBU.out.trans (hb.mono hBU.out.size))
      replace hpe := Lib.hid hpe
      clear hb hge
      go_wp2_with fail
      refine (expBig_any g2 0 pb 0 pe2 0 d L1 _ hg2.out.slot hbase.out hpe.out (by omega) (by omega) (by rw [← hE1.out]; exact dE1.out) _).mono ?_
      rintro e y9 ⟨rfl, hz, hg⟩
      replace hbase := Lib.hid (hbase.out.grown hg2.out.slot hg (by omega))
      replace hg1 := Lib.hid (hg1.out.grown hg2.out.slot hg (by omega))
      replace hpe := Lib.hid (hpe.out.grown hg2.out.slot hg (by omega))
      replace hBU := Lib.hid (below_gb hBU.out hg ge_g2 hBU.out.size)
      rw [← hE1.out] at hz
      replace hg2 := Lib.hid hz
      clear hg
      clear hpe
      clear hbase
      go_wp2_with fail
      refine (mulBig_any g2 0 g2 0 g1 0 (E1 : Int) (B : Int) _ hg2.out.slot hg2.out hg1.out (by rw [Int.natAbs_natCast]; exact dE1.out) (by rw [Int.natAbs_natCast]; exact dB.out)).mono ?_
      rintro e y10 ⟨rfl, hz, hg⟩
      replace hg1 := Lib.hid (hg1.out.grown hg2.out.slot hg (by omega))
      replace hBU := Lib.hid (below_gb hBU.out hg ge_g2 hBU.out.size)
      rw [hDENi.out] at hz
      replace hg2 := Lib.hid hz
      clear hg
      have rd1 := Lib.hid (h1u.out.below hBU.out)
      go_wp2_with fail
      refine (number_any d _ l1 _ hd2.out rd1.out (fun x hx => by have := hs1.out x hx; have := hd2.out; omega) (by have := hL1.out; omega)).mono ?_
      rintro e y11 ⟨p3, rfl, hge, hp3, hb⟩
      have ge_p3 : u.heap.size ≤ p3 := Nat.le_trans hBU.out.size hge
      have lt_g1_p3 : g1 < p3 := Nat.lt_of_lt_of_le hg1.out.slot.lt hge
      have lt_g2_p3 : g2 < p3 := Nat.lt_of_lt_of_le hg2.out.slot.lt hge
      replace hg1 := Lib.hid (hg1.out.below hb)
      replace hg2 := Lib.hid (hg2.out.below hb)
      replace hBU := Lib.hid (hBU.out.trans (hb.mono hBU.out.size))
      replace hp3 := Lib.hid hp3
      clear hb hge
      rw [← hA.out] at hp3
      clear rd1
      go_wp2_with fail
      refine (mulBig_any p3 0 p3 0 g1 0 (A : Int) (B : Int) _ hp3.out.slot hp3.out hg1.out (by rw [Int.natAbs_natCast]; exact dA.out) (by rw [Int.natAbs_natCast]; exact dB.out)).mono ?_
      rintro e y12 ⟨rfl, hz, hg⟩
      replace hg1 := Lib.hid (hg1.out.grown hp3.out.slot hg (by omega))
      replace hg2 := Lib.hid (hg2.out.grown hp3.out.slot hg (by omega))
      replace hBU := Lib.hid (below_gb hBU.out hg ge_p3 hBU.out.size)
      rw [hABi.out] at hz
      replace hp3 := Lib.hid hz
      clear hg
      clear hg1
      have rd2 := Lib.hid (h2u.out.below hBU.out)
      go_wp2_with fail
      refine (number_any d _ l2 _ hd2.out rd2.out (fun x hx => by have := hs2.out x hx; have := hd2.out; omega) (by have := hL2.out; omega)).mono ?_
      rintro e y13 ⟨p4, rfl, hge, hp4, hb⟩
      have ge_p4 : u.heap.size ≤ p4 := Nat.le_trans hBU.out.size hge
      have lt_g2_p4 : g2 < p4 := Nat.lt_of_lt_of_le hg2.out.slot.lt hge
      have lt_p3_p4 : p3 < p4 := Nat.lt_of_lt_of_le hp3.out.slot.lt hge
      replace hg2 := Lib.hid (hg2.out.below hb)
      replace hp3 := Lib.hid (hp3.out.below hb)
      replace hBU := Lib.hid (hBU.out.trans (hb.mono hBU.out.size))
      replace hp4 := Lib.hid hp4
      clear hb hge
      rw [← hC.out] at hp4
      clear rd2
      go_wp2_with fail
      refine (addBig_any p3 0 p3 0 p4 0 (AB : Int) (C : Int) _ hp3.out.slot hp3.out hp4.out (by rw [Int.natAbs_natCast]; exact dAB.out) (by rw [Int.natAbs_natCast]; exact dC.out)).mono ?_
      rintro e y14 ⟨rfl, hz, hg⟩
      replace hg2 := Lib.hid (hg2.out.grown hp3.out.slot hg (by omega))
      replace hp4 := Lib.hid (hp4.out.grown hp3.out.slot hg (by omega))
      replace hBU := Lib.hid (below_gb hBU.out hg ge_p3 hBU.out.size)
      rw [hSUMi.out] at hz
      replace hp3 := Lib.hid hz
      clear hg
      clear hp4
      go_wp2_with fail
      refine (modBig_any p3 0 p3 0 g2 0 SUM DEN _ hp3.out.slot hp3.out hg2.out pD.out dSUM.out).mono ?_
      rintro e y15 ⟨rfl, hz, hg⟩
      replace hg2 := Lib.hid (hg2.out.grown hp3.out.slot hg (by omega))
      replace hBU := Lib.hid (below_gb hBU.out hg ge_p3 hBU.out.size)
      rw [← hNUM.out] at hz
      replace hp3 := Lib.hid hz
      clear hg
      go_wp2_with fail
      have ge_g5 : u.heap.size ≤ y15.heap.size := hBU.out.size
      have lt_g2_g5 : g2 < y15.heap.size := hg2.out.slot.lt
      have lt_p3_g5 : p3 < y15.heap.size := hp3.out.slot.lt
      replace hg2 := hg2.out.alloc (.cells #[.bool false, .slice none 0 0] 120)
      replace hp3 := hp3.out.alloc (.cells #[.bool false, .slice none 0 0] 120)
      have hg5 := Big.new y15
      replace hBU := hBU.out.alloc hBU.out.size (.cells #[.bool false, .slice none 0 0] 120)
      generalize hxx : y15.alloc (.cells #[.bool false, .slice none 0 0] 120) = y16 at hg2 hp3 hg5 hBU ⊢
      generalize hgg : y15.heap.size = g5 at *
      clear hxx hgg
      replace hg2 := Lib.hid hg2
      replace hp3 := Lib.hid hp3
      replace hg5 := Lib.hid hg5
      replace hBU := Lib.hid hBU
      refine (gcdBig_any g5 0 p3 0 g2 0 NUM DEN _ hg5.out.slot hp3.out hg2.out dNUM.out dDEN.out).mono ?_
      rintro e y17 ⟨rfl, hz, hg⟩
      replace hg2 := Lib.hid (hg2.out.grown hg5.out.slot hg (by omega))
      replace hp3 := Lib.hid (hp3.out.grown hg5.out.slot hg (by omega))
      replace hBU := Lib.hid (below_gb hBU.out hg ge_g5 hBU.out.size)
      rw [← hG.out] at hz
      replace hg5 := Lib.hid hz
      clear hg
      go_wp2_with fail
      refine (quoBig_any p3 0 p3 0 g5 0 NUM G _ hp3.out.slot hp3.out hg5.out pG.out dNUM.out).mono ?_
      rintro e y18 ⟨rfl, hz, hg⟩
      replace hg2 := Lib.hid (hg2.out.grown hp3.out.slot hg (by omega))
      replace hg5 := Lib.hid (hg5.out.grown hp3.out.slot hg (by omega))
      replace hBU := Lib.hid (below_gb hBU.out hg ge_p3 hBU.out.size)
      rw [← hN.out] at hz
      replace hp3 := Lib.hid hz
      clear hg
      go_wp2_with fail
      refine (quoBig_any g2 0 g2 0 g5 0 DEN G _ hg2.out.slot hg2.out hg5.out pG.out dDEN.out).mono ?_
      rintro e y19 ⟨rfl, hz, hg⟩
      replace hp3 := Lib.hid (hp3.out.grown hg2.out.slot hg (by omega))
      replace hg5 := Lib.hid (hg5.out.grown hg2.out.slot hg (by omega))
      replace hBU := Lib.hid (below_gb hBU.out hg ge_g2 hBU.out.size)
      rw [← hD.out] at hz
      replace hg2 := Lib.hid hz
      clear hg
      clear hg5
      go_wp2_with fail
      refine (newInt_any 2147483647 _ (by omega)).mono ?_
      rintro e y20 ⟨pm, rfl, hge, hpm, hb⟩
      have ge_pm : u.heap.size ≤ pm := Nat.le_trans hBU.out.size hge
      have lt_g2_pm : g2 < pm := Nat.lt_of_lt_of_le hg2.out.slot.lt hge
      have lt_p3_pm : p3 < pm := Nat.lt_of_lt_of_le hp3.out.slot.lt hge
      replace hg2 := Lib.hid (hg2.out.below hb)
      replace hp3 := Lib.hid (hp3.out.below hb)
      replace hBU := Lib.hid (hBU.out.trans (hb.mono hBU.out.size))
      replace hpm := Lib.hid hpm
      clear hb hge
      by_cases hle : D ≤ 2147483647
      · have hT2 : toldV N D = .tuple #[.agg #[.bool false, .string (natS N), .string (natS D)], .int .i64 0] := by simp [toldV, hle, ratV]
        replace hT2 := Lib.hid hT2
        replace hle := Lib.hid hle
        obtain ⟨Cm, hCm⟩ : ∃ c, c = cmpI D 2147483647 := ⟨_, rfl⟩
        have hCm0 : ¬ 0 < Cm := by rw [hCm]; have := hle.out; unfold cmpI; split <;> (try split) <;> omega
        replace hCm := Lib.hid hCm
        go_wp2_with fail
        refine (cmpBig_any g2 0 pm 0 D 2147483647 _ hg2.out hpm.out).mono ?_
        rintro e z1 ⟨rfl, nd, rfl⟩
        rw [← hCm.out]
        have hNl : Hid (N % 18446744073709551616 = N) := Lib.hid (Nat.mod_eq_of_lt (by have := hND.out; have := hle.out; omega))
        have hDl : Hid (D % 18446744073709551616 = D) := Lib.hid (Nat.mod_eq_of_lt (by have := hle.out; omega))
        replace hp3 := Lib.hid (Big.drewN hp3.out nd)
        replace hg2 := Lib.hid (Big.drewN hg2.out nd)
        replace hBU := Lib.hid (below_drewN hBU.out nd)
        go_wp2_with fail
        refine (uint64Big_any p3 0 N _ hp3.out).mono ?_
        rintro e z2 ⟨rfl, rfl⟩
        rw [hNl.out]
        go_wp2_with fail
        refine (uint64Big_any g2 0 D _ hg2.out).mono ?_
        rintro e z3 ⟨rfl, rfl⟩
        rw [hDl.out]
        go_wp2_with fail
        refine (told_any N D _ (by have := hND.out; have := hle.out; omega) (by have := hle.out; omega)).mono ?_
        rintro e z4 ⟨rfl, hb⟩
        rw [hT2.out]
        replace hBU := hBU.out.trans (hb.mono hBU.out.size)
        have kq := Blk.below kr.out hBU
        have hBf := Lib.hid (hBW.out.trans (hBU.mono hBW.out.size))
        have r0 : z4.cell? ⟨w.heap.size, 0, none⟩ = some (.bool false) := kq.cell 0
        have r1 : z4.cell? ⟨w.heap.size, 1, none⟩ = some (.string ⟨#[]⟩) := kq.cell 1
        have r2 : z4.cell? ⟨w.heap.size, 2, none⟩ = some (.string ⟨#[]⟩) := kq.cell 2
        have f0 := kq.frozen 0
        have f1 := kq.frozen 1
        have f2 := kq.frozen 2
        clear hb kq hBU
        go_wp2_with fail
        refine bodyPost_ret (v := .tuple #[.agg #[.bool false, .string (natS N), .string (natS D)], .int .i64 0]) (by simp [results, Try.results48, go_sem, r0, r1, r2]) rfl ⟨by rw [hT2.out], ?_⟩
        exact ((hBf.out.setCell (p := ⟨w.heap.size, 0, none⟩) (by simp) _).setCell (p := ⟨w.heap.size, 1, none⟩) (by simp) _).setCell (p := ⟨w.heap.size, 2, none⟩) (by simp) _
      · have hT2 : toldV N D = .tuple #[.agg #[.bool false, .string ⟨#[]⟩, .string ⟨#[]⟩], .int .i64 210] := by simp [toldV, hle, rat0]
        replace hT2 := Lib.hid hT2
        obtain ⟨Cm, hCm⟩ : ∃ c, c = cmpI D 2147483647 := ⟨_, rfl⟩
        have hCm0 : 0 < Cm := by rw [hCm]; unfold cmpI; split <;> (try split) <;> omega
        replace hCm := Lib.hid hCm
        replace hle := Lib.hid hle
        go_wp2_with fail
        refine (cmpBig_any g2 0 pm 0 D 2147483647 _ hg2.out hpm.out).mono ?_
        rintro e z1 ⟨rfl, nd, rfl⟩
        rw [← hCm.out]
        replace hBU := below_drewN hBU.out nd
        have kq := Blk.below kr.out hBU
        have hBf := Lib.hid (hBW.out.trans (hBU.mono hBW.out.size))
        have r0 := kq.cell 0
        have r1 := kq.cell 1
        have r2 := kq.cell 2
        have f0 := kq.frozen 0
        have f1 := kq.frozen 1
        have f2 := kq.frozen 2
        clear kq hBU
        go_wp2_with fail
        refine bodyPost_ret (v := .tuple #[.agg #[.bool false, .string ⟨#[]⟩, .string ⟨#[]⟩], .int .i64 210]) (by simp [results, Try.results48, go_sem, r0, r1, r2]) rfl ⟨by rw [hT2.out], ?_⟩
        exact ((hBf.out.setCell (p := ⟨w.heap.size, 0, none⟩) (by simp) _).setCell (p := ⟨w.heap.size, 1, none⟩) (by simp) _).setCell (p := ⟨w.heap.size, 2, none⟩) (by simp) _

/-- angle.Of, where all may be. -/
theorem of_any (d : Nat) (v1 v2 : Value) (l1 l2 : List Nat) (N D : Nat) (w : World) (hd : 2 ≤ d) (hd2 : d ≤ 64) (h1 : Rd .u8 5 w v1 l1) (h2 : Rd .u8 5 w v2 l2)
    (hs1 : ∀ x, x ∈ l1 → x < d) (hs2 : ∀ x, x ∈ l2 → x < d) (hp : 1 ≤ l2.length) (hlen : l1.length + l2.length ≤ 1024)
    (hN : N = ((numL d l1 * (d ^ l2.length - 1) + numL d l2) % (d ^ l1.length * (d ^ l2.length - 1))) / Nat.gcd ((numL d l1 * (d ^ l2.length - 1) + numL d l2) % (d ^ l1.length * (d ^ l2.length - 1))) (d ^ l1.length * (d ^ l2.length - 1)))
    (hD : D = (d ^ l1.length * (d ^ l2.length - 1)) / Nat.gcd ((numL d l1 * (d ^ l2.length - 1) + numL d l2) % (d ^ l1.length * (d ^ l2.length - 1))) (d ^ l1.length * (d ^ l2.length - 1)))
    (hle : D ≤ 2147483647) :
    Calls Try.prog 48 #[.int .i64 (d : Int), v1, v2] w (RetVal (.tuple #[.agg #[.bool false, .string (natS N), .string (natS D)], .int .i64 0]) w) := by
  have h := of_full d v1 v2 l1 l2 N D w hd hd2 h1 h2 hs1 hs2 hp hlen hN hD
  have hT : toldV N D = .tuple #[.agg #[.bool false, .string (natS N), .string (natS D)], .int .i64 0] := by simp [toldV, hle, ratV]
  rwa [hT] at h
end Go.Proofs.Ytciafmnideihjaa

namespace Go.Proofs.Ytciafmnideihjaa
open Go.RowKit Go.Sort

theorem of_ends {w y : World} (hBW : Below w.heap.size w (w.alloc (.cells #[.bool false, .string ⟨#[]⟩, .string ⟨#[]⟩] 24))) (hy : Below (w.alloc (.cells #[.bool false, .string ⟨#[]⟩, .string ⟨#[]⟩] 24)).heap.size (w.alloc (.cells #[.bool false, .string ⟨#[]⟩, .string ⟨#[]⟩] 24)) y) : Below w.heap.size w y :=
  hBW.trans (hy.mono hBW.size)

set_option maxRecDepth 100000 in
set_option maxHeartbeats 4000000 in
/-- angle.Of, refused ahead of the digits. -/
theorem of_err (d : Int) (v1 v2 : Value) (l1 l2 : List Nat) (E : Int) (w : World) (h1 : Rd .u8 5 w v1 l1) (h2 : Rd .u8 5 w v2 l2) (hlen : l1.length + l2.length ≤ 1125899906842624)
    (hE : (roundB d = false ∧ E = 2) ∨ (roundB d = true ∧ l2.length = 0 ∧ E = 2) ∨ (roundB d = true ∧ l2.length ≠ 0 ∧ 1024 < l1.length + l2.length ∧ E = 4)) :
    Calls Try.prog 48 #[.int .i64 d, v1, v2] w (RetVal (.tuple #[rat0, .int .i64 E]) w) := by
  obtain ⟨A1, c1, rfl, a1, a2, a3⟩ := id h1
  obtain ⟨A2, c2, rfl, b1, b2, b3⟩ := id h2
  obtain ⟨L1, hL1⟩ : ∃ L, L = l1.length := ⟨_, rfl⟩
  obtain ⟨L2, hL2⟩ : ∃ L, L = l2.length := ⟨_, rfl⟩
  rw [← hL1] at a1 hlen hE
  rw [← hL2] at b1 hlen hE
  have kr := Blk.new w 24 #[.bool false, .string ⟨#[]⟩, .string ⟨#[]⟩]
  have hBW : Below w.heap.size w (w.alloc (.cells #[.bool false, .string ⟨#[]⟩, .string ⟨#[]⟩] 24)) := (Below.refl _ w).alloc (Nat.le_refl _) _
  obtain ⟨u, hu⟩ : ∃ u, u = w.alloc (.cells #[.bool false, .string ⟨#[]⟩, .string ⟨#[]⟩] 24) := ⟨_, rfl⟩
  rw [← hL1, ← hL2]
  rw [← hu] at kr hBW
  replace hu := Lib.hid hu
  replace hBW := Lib.hid hBW
  have r0 : u.cell? ⟨w.heap.size, 0, none⟩ = some (.bool false) := kr.cell 0
  have r1 : u.cell? ⟨w.heap.size, 1, none⟩ = some (.string ⟨#[]⟩) := kr.cell 1
  have r2 : u.cell? ⟨w.heap.size, 2, none⟩ = some (.string ⟨#[]⟩) := kr.cell 2
  have f0 := kr.frozen 0
  have f1 := kr.frozen 1
  have f2 := kr.frozen 2
  clear kr h1 h2 a3 b3 hL1 hL2
  rcases hE with ⟨hr, rfl⟩ | ⟨hr, rfl, rfl⟩ | ⟨hr, h3, h4, rfl⟩
  · replace hr := Lib.hid hr
    go_enter Try.func48, Try.ntmps48
    go_wp2_with fail
    rw [← hu.out]
    refine (aturns_any d _).mono ?_
    rintro e x0 ⟨rfl, rfl⟩
    rw [hr.out]
    go_wp2_with fail
    refine bodyPost_ret (v := .tuple #[.agg #[.bool false, .string ⟨#[]⟩, .string ⟨#[]⟩], .int .i64 2]) (by simp [results, Try.results48, go_sem, r0, r1, r2]) rfl ⟨rfl, ?_⟩
    exact ((hBW.out.setCell (p := ⟨w.heap.size, 0, none⟩) (by simp) _).setCell (p := ⟨w.heap.size, 1, none⟩) (by simp) _).setCell (p := ⟨w.heap.size, 2, none⟩) (by simp) _
  · replace hr := Lib.hid hr
    go_enter Try.func48, Try.ntmps48
    go_wp2_with fail
    rw [← hu.out]
    refine (aturns_any d _).mono ?_
    rintro e x0 ⟨rfl, rfl⟩
    rw [hr.out]
    go_wp2_with fail
    refine bodyPost_ret (v := .tuple #[.agg #[.bool false, .string ⟨#[]⟩, .string ⟨#[]⟩], .int .i64 2]) (by simp [results, Try.results48, go_sem, r0, r1, r2]) rfl ⟨rfl, ?_⟩
    exact ((hBW.out.setCell (p := ⟨w.heap.size, 0, none⟩) (by simp) _).setCell (p := ⟨w.heap.size, 1, none⟩) (by simp) _).setCell (p := ⟨w.heap.size, 2, none⟩) (by simp) _
  · replace hr := Lib.hid hr
    have hL2I : ((L2 : Int) == 0) = false := by simp; omega
    have hLI : (1024 : Int) < (L1 : Int) + (L2 : Int) := by omega
    go_enter Try.func48, Try.ntmps48
    go_wp2_with fail
    rw [← hu.out]
    refine (aturns_any d _).mono ?_
    rintro e x0 ⟨rfl, rfl⟩
    rw [hr.out]
    go_wp2_with fail
    refine bodyPost_ret (v := .tuple #[.agg #[.bool false, .string ⟨#[]⟩, .string ⟨#[]⟩], .int .i64 4]) (by simp [results, Try.results48, go_sem, r0, r1, r2]) rfl ⟨rfl, ?_⟩
    exact ((hBW.out.setCell (p := ⟨w.heap.size, 0, none⟩) (by simp) _).setCell (p := ⟨w.heap.size, 1, none⟩) (by simp) _).setCell (p := ⟨w.heap.size, 2, none⟩) (by simp) _

attribute [local go_sem] idx0 idx1
set_option maxRecDepth 100000 in
set_option maxHeartbeats 4000000 in
/-- angle.Of, a digit that may not be. -/
theorem of_digit (d : Nat) (v1 v2 : Value) (l1 l2 : List Nat) (w : World) (h1 : Rd .u8 5 w v1 l1) (h2 : Rd .u8 5 w v2 l2) (hd : 2 ≤ d) (hd2 : d ≤ 64) (hp : 1 ≤ l2.length) (hlen : l1.length + l2.length ≤ 1024)
    (hx1 : ∀ x, x ∈ l1 → x < 256) (hx2 : ∀ x, x ∈ l2 → x < 256) (hbad : ¬ ((∀ x, x ∈ l1 → x < d) ∧ (∀ x, x ∈ l2 → x < d))) :
    Calls Try.prog 48 #[.int .i64 (d : Int), v1, v2] w (RetVal (.tuple #[rat0, .int .i64 212]) w) := by
  obtain ⟨A1, c1, rfl, a1, a2, a3⟩ := id h1
  obtain ⟨A2, c2, rfl, b1, b2, b3⟩ := id h2
  obtain ⟨L1, hL1⟩ : ∃ L, L = l1.length := ⟨_, rfl⟩
  obtain ⟨L2, hL2⟩ : ∃ L, L = l2.length := ⟨_, rfl⟩
  rw [← hL1] at a1 hlen
  rw [← hL2] at b1 hlen hp
  have kr := Blk.new w 24 #[.bool false, .string ⟨#[]⟩, .string ⟨#[]⟩]
  have hBW : Below w.heap.size w (w.alloc (.cells #[.bool false, .string ⟨#[]⟩, .string ⟨#[]⟩] 24)) := (Below.refl _ w).alloc (Nat.le_refl _) _
  obtain ⟨u, hu⟩ : ∃ u, u = w.alloc (.cells #[.bool false, .string ⟨#[]⟩, .string ⟨#[]⟩] 24) := ⟨_, rfl⟩
  have h1u := h1.alloc (.cells #[.bool false, .string ⟨#[]⟩, .string ⟨#[]⟩] 24)
  have h2u := h2.alloc (.cells #[.bool false, .string ⟨#[]⟩, .string ⟨#[]⟩] 24)
  rw [← hL1, ← hL2]
  rw [← hu] at kr hBW h1u h2u
  rw [← hL1] at h1u
  rw [← hL2] at h2u
  have r0 : u.cell? ⟨w.heap.size, 0, none⟩ = some (.bool false) := kr.cell 0
  have r1 : u.cell? ⟨w.heap.size, 1, none⟩ = some (.string ⟨#[]⟩) := kr.cell 1
  have r2 : u.cell? ⟨w.heap.size, 2, none⟩ = some (.string ⟨#[]⟩) := kr.cell 2
  have f0 := kr.frozen 0
  have f1 := kr.frozen 1
  have f2 := kr.frozen 2
  have hdI : (2 : Int) ≤ (d : Int) := by omega
  have hdI2 : (d : Int) ≤ 64 := by omega
  have hr : roundB (d : Int) = true := roundB_iff.2 ⟨hdI, hdI2⟩
  have hL2I : ((L2 : Int) == 0) = false := by simp; omega
  have hLI : ¬ (1024 : Int) < (L1 : Int) + (L2 : Int) := by omega
  replace hu := Lib.hid hu
  replace hBW := Lib.hid hBW
  replace hr := Lib.hid hr
  replace h1u := Lib.hid h1u
  replace h2u := Lib.hid h2u
  replace hL1 := Lib.hid hL1
  replace hL2 := Lib.hid hL2
  replace hbad := Lib.hid hbad
  replace hx1 := Lib.hid hx1
  replace hx2 := Lib.hid hx2
  clear kr h1 h2 a3 b3
  go_enter Try.func48, Try.ntmps48
  go_wp2_with fail
  rw [← hu.out]
  refine (aturns_any (d : Int) _).mono ?_
  rintro e x0 ⟨rfl, rfl⟩
  rw [hr.out]
  go_wp2_with fail
  go_loopw [38] (fun i wr => ∃ k : Nat, i = .int .i64 (k : Int) ∧ k ≤ 2 ∧ (1 ≤ k → ∀ x, x ∈ l1 → x < d) ∧ (2 ≤ k → ∀ x, x ∈ l2 → x < d) ∧ u = wr) (fun i _ => 2 - (intOf i).toNat)
  case atStart => exact ⟨0, rfl, by omega, by omega, by omega, by simp⟩
  case round =>
    obtain ⟨k, rfl, hk, hg1, hg2, rfl⟩ := hrel
    replace hg1 := Lib.hid hg1
    replace hg2 := Lib.hid hg2
    have hk3 : k = 0 ∨ k = 1 ∨ k = 2 := by omega
    rcases hk3 with rfl | rfl | rfl
    · go_wp2_with fail
      go_loopw [43] (fun i wq => ∃ j : Nat, i = .int .i64 (j : Int) ∧ j ≤ L1 ∧ (∀ t x, t < j → l1[t]? = some x → x < d) ∧ u = wq) (fun i _ => L1 - (intOf i).toNat)
      case atStart => exact ⟨0, rfl, Nat.zero_le _, fun t x h => by omega, by simp⟩
      case round =>
        obtain ⟨j, rfl, hj, hsm, rfl⟩ := hrel
        replace hsm := Lib.hid hsm
        by_cases hj0 : j < L1
        · have hjI : (j : Int) < (L1 : Int) := by omega
          obtain ⟨x, hx⟩ : ∃ x, l1[j]? = some x := ⟨_, List.getElem?_eq_getElem (by rw [← hL1.out]; exact hj0)⟩
          obtain ⟨ga, oa, ca, La, ea, -, -, hAa, hLa⟩ := h1u.out.open_ (fun e => by have := hL1.out; rw [e] at this; simp at this; omega)
          injection ea with ea1 _ ea2
          subst ea1 ea2
          have hcx : u.cell? ⟨ga, oa + j, none⟩ = some (.int .u8 (x : Int)) := hAa.cell (hLa _ _ hx)
          by_cases hxd : x < d
          · have hxI : ¬ (d : Int) ≤ (x : Int) := by omega
            have hsm2 : Hid (∀ t y, t < j + 1 → l1[t]? = some y → y < d) := Lib.hid (fun t y ht hy => by
              by_cases e : t = j
              · subst e
                rw [hx] at hy
                cases hy
                exact hxd
              · exact hsm.out t y (by omega) hy)
            clear hx hsm
            go_wp2_with fail
            exact ⟨⟨j + 1, by go_num, by omega, hsm2.out, trivial⟩, by simp [intOf]; omega⟩
          · have hxI : (d : Int) ≤ (x : Int) := by omega
            have hx9 := hx1.out x (List.mem_of_getElem? hx)

            clear hx hsm
            go_wp2_with fail
            refine bodyPost_ret (v := .tuple #[.agg #[.bool false, .string ⟨#[]⟩, .string ⟨#[]⟩], .int .i64 212]) (by simp [results, Try.results48, go_sem, r0, r1, r2]) rfl ⟨rfl, ?_⟩
            exact ((hBW.out.setCell (p := ⟨w.heap.size, 0, none⟩) (by simp) _).setCell (p := ⟨w.heap.size, 1, none⟩) (by simp) _).setCell (p := ⟨w.heap.size, 2, none⟩) (by simp) _
        · obtain rfl : j = L1 := by omega
          have hjI : ¬ (j : Int) < (j : Int) := by omega
          go_wp2_with fail
          go_roundw
          case rel => exact ⟨1, rfl, by omega, fun _ x hx => by
            obtain ⟨t, ht⟩ := List.getElem?_of_mem hx
            exact hsm.out t x (by rw [hL1.out]; exact lt_of_getElem? ht) ht, by omega, by simp⟩
          case measure => simp [intOf]
    · go_wp2_with fail
      go_loopw [43] (fun i wq => ∃ j : Nat, i = .int .i64 (j : Int) ∧ j ≤ L2 ∧ (∀ t x, t < j → l2[t]? = some x → x < d) ∧ u = wq) (fun i _ => L2 - (intOf i).toNat)
      case atStart => exact ⟨0, rfl, Nat.zero_le _, fun t x h => by omega, by simp⟩
      case round =>
        obtain ⟨j, rfl, hj, hsm, rfl⟩ := hrel
        replace hsm := Lib.hid hsm
        by_cases hj0 : j < L2
        · have hjI : (j : Int) < (L2 : Int) := by omega
          obtain ⟨x, hx⟩ : ∃ x, l2[j]? = some x := ⟨_, List.getElem?_eq_getElem (by rw [← hL2.out]; exact hj0)⟩
          obtain ⟨ga, oa, ca, La, ea, -, -, hAa, hLa⟩ := h2u.out.open_ (fun e => by have := hL2.out; rw [e] at this; simp at this; omega)
          injection ea with ea1 _ ea2
          subst ea1 ea2
          have hcx : u.cell? ⟨ga, oa + j, none⟩ = some (.int .u8 (x : Int)) := hAa.cell (hLa _ _ hx)
          by_cases hxd : x < d
          · have hxI : ¬ (d : Int) ≤ (x : Int) := by omega
            have hsm2 : Hid (∀ t y, t < j + 1 → l2[t]? = some y → y < d) := Lib.hid (fun t y ht hy => by
              by_cases e : t = j
              · subst e
                rw [hx] at hy
                cases hy
                exact hxd
              · exact hsm.out t y (by omega) hy)
            clear hx hsm
            go_wp2_with fail
            exact ⟨⟨j + 1, by go_num, by omega, hsm2.out, trivial⟩, by simp [intOf]; omega⟩
          · have hxI : (d : Int) ≤ (x : Int) := by omega
            have hx9 := hx2.out x (List.mem_of_getElem? hx)

            clear hx hsm
            go_wp2_with fail
            refine bodyPost_ret (v := .tuple #[.agg #[.bool false, .string ⟨#[]⟩, .string ⟨#[]⟩], .int .i64 212]) (by simp [results, Try.results48, go_sem, r0, r1, r2]) rfl ⟨rfl, ?_⟩
            exact ((hBW.out.setCell (p := ⟨w.heap.size, 0, none⟩) (by simp) _).setCell (p := ⟨w.heap.size, 1, none⟩) (by simp) _).setCell (p := ⟨w.heap.size, 2, none⟩) (by simp) _
        · obtain rfl : j = L2 := by omega
          have hjI : ¬ (j : Int) < (j : Int) := by omega
          go_wp2_with fail
          go_roundw
          case rel => exact ⟨2, rfl, by omega, fun _ => hg1.out (by omega), fun _ x hx => by
            obtain ⟨t, ht⟩ := List.getElem?_of_mem hx
            exact hsm.out t x (by rw [hL2.out]; exact lt_of_getElem? ht) ht, by simp⟩
          case measure => simp [intOf]
    · exact absurd ⟨hg1.out (by omega), hg2.out (by omega)⟩ hbad.out
end Go.Proofs.Ytciafmnideihjaa
