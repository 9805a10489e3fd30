/- The document's answer: filigreeref21.Add. -/
import Derived.Test.YtciafmnideihjaaRefF
import Derived.Deep.CutBlock
namespace Go.Proofs.Ytciafmnideihjaa
open Go.RowKit

theorem add_same {x1 y1 x2 y2 G : Nat} (hG : G = Nat.gcd y1 y2) :
    y1 * y2 = G * (y1 / G * y2) ∧ addX x1 y1 x2 y2 = G * ((x1 * (y2 / G) + x2 * (y1 / G)) % (y1 / G * y2)) := by
  have d1 : G * (y1 / G) = y1 := Nat.mul_div_cancel' (by rw [hG]; exact Nat.gcd_dvd_left _ _)
  have d2 : G * (y2 / G) = y2 := Nat.mul_div_cancel' (by rw [hG]; exact Nat.gcd_dvd_right _ _)
  have e1 : y1 * y2 = G * (y1 / G * y2) := by rw [← Nat.mul_assoc, d1]
  refine ⟨e1, ?_⟩
  unfold addX
  rw [← Nat.mul_mod_mul_left, ← e1]
  congr 1
  rw [Nat.mul_add]
  congr 1
  · rw [Nat.mul_left_comm, d2]
  · rw [Nat.mul_left_comm, d1]

theorem add_low {x1 y1 x2 y2 G NUM DEN : Nat} (hG : G = Nat.gcd y1 y2) (p1 : 0 < y1) (hD : DEN = y1 / G * y2) (hN : NUM = (x1 * (y2 / G) + x2 * (y1 / G)) % DEN) :
    addX x1 y1 x2 y2 / Nat.gcd (addX x1 y1 x2 y2) (y1 * y2) = NUM / Nat.gcd NUM DEN ∧ y1 * y2 / Nat.gcd (addX x1 y1 x2 y2) (y1 * y2) = DEN / Nat.gcd NUM DEN := by
  obtain ⟨e1, e2⟩ := add_same (x1 := x1) (x2 := x2) hG
  have hG0 : 0 < G := by rw [hG]; exact Nat.gcd_pos_of_pos_left _ p1
  rw [← hD] at e1 e2
  rw [← hN] at e2
  rw [e1, e2, Nat.gcd_mul_left, Nat.mul_div_mul_left _ _ hG0, Nat.mul_div_mul_left _ _ hG0]
  exact ⟨rfl, rfl⟩

/-- What the document's Add tells of a lowest part. -/
def raddV (N D : Nat) : Value := if D ≤ 2147483647 then .tuple #[.agg #[.int .u64 (N : Int), .int .u64 (D : Int)], .int .i64 0] else .tuple #[.agg #[.int .u64 0, .int .u64 0], .int .i64 210]

set_option maxRecDepth 100000 in
set_option maxHeartbeats 2000000 in
/-- filigreeref21.Add -/
theorem radd_any (x1 y1 x2 y2 N D : Nat) (w : World) (k1 : x1 < y1) (l1 : y1 ≤ 2147483647) (k2 : x2 < y2) (l2 : y2 ≤ 2147483647)
    (hN : N = addX x1 y1 x2 y2 / Nat.gcd (addX x1 y1 x2 y2) (y1 * y2)) (hD : D = y1 * y2 / Nat.gcd (addX x1 y1 x2 y2) (y1 * y2)) :
    Calls Try.prog 39 #[.agg #[.int .u64 (x1 : Int), .int .u64 (y1 : Int)], .agg #[.int .u64 (x2 : Int), .int .u64 (y2 : Int)]] w (RetVal (raddV N D) w) := by
  obtain ⟨G, hG⟩ : ∃ G, G = Nat.gcd y1 y2 := ⟨_, rfl⟩
  obtain ⟨Q1, hQ1⟩ : ∃ Q, Q = y1 / G := ⟨_, rfl⟩
  obtain ⟨Q2, hQ2⟩ : ∃ Q, Q = y2 / G := ⟨_, rfl⟩
  obtain ⟨DEN, hDEN⟩ : ∃ Q, Q = Q1 * y2 := ⟨_, rfl⟩
  obtain ⟨T1, hT1⟩ : ∃ Q, Q = x1 * Q2 := ⟨_, rfl⟩
  obtain ⟨T2, hT2⟩ : ∃ Q, Q = x2 * Q1 := ⟨_, rfl⟩
  obtain ⟨NUM, hNUM⟩ : ∃ Q, Q = (T1 + T2) % DEN := ⟨_, rfl⟩
  have p1 : 0 < y1 := by omega
  have p2 : 0 < y2 := by omega
  have hG0 : 0 < G := by rw [hG]; exact Nat.gcd_pos_of_pos_left _ p1
  have hGy : G ≤ y1 := by rw [hG]; exact Nat.gcd_le_left _ p1
  have q1 : Q1 ≤ 2147483647 := by rw [hQ1]; exact Nat.le_trans (Nat.div_le_self _ _) l1
  have q2 : Q2 ≤ 2147483647 := by rw [hQ2]; exact Nat.le_trans (Nat.div_le_self _ _) l2
  have q10 : 0 < Q1 := by rw [hQ1]; exact Nat.div_pos hGy hG0
  have mD : DEN ≤ 4611686014132420609 := by rw [hDEN]; exact Nat.mul_le_mul q1 l2
  have mD0 : 0 < DEN := by rw [hDEN]; exact Nat.mul_pos q10 p2
  have m1 : T1 ≤ 4611686014132420609 := by rw [hT1]; exact Nat.mul_le_mul (show x1 ≤ 2147483647 by omega) q2
  have m2 : T2 ≤ 4611686014132420609 := by rw [hT2]; exact Nat.mul_le_mul (show x2 ≤ 2147483647 by omega) q1
  have hl := add_low (x1 := x1) (x2 := x2) (NUM := NUM) (DEN := DEN) hG p1 (by rw [hDEN, hQ1]) (by rw [hNUM, hT1, hT2, hQ1, hQ2])
  have eN : Hid (N = NUM / Nat.gcd NUM DEN) := Lib.hid (by rw [hN]; exact hl.1)
  have eD : Hid (D = DEN / Nat.gcd NUM DEN) := Lib.hid (by rw [hD]; exact hl.2)
  have hNs : NUM < DEN := by rw [hNUM]; exact Nat.mod_lt _ mD0
  have eX : Hid (NUM = NUM % DEN) := Lib.hid (Nat.mod_eq_of_lt hNs).symm
  have i1 : (y1 : Int) / (G : Int) = (Q1 : Int) := by rw [hQ1]; rfl
  have i2 : (y2 : Int) / (G : Int) = (Q2 : Int) := by rw [hQ2]; rfl
  have i1' : (y1 : Int).tdiv (G : Int) = (Q1 : Int) := by rw [hQ1]; rfl
  have i2' : (y2 : Int).tdiv (G : Int) = (Q2 : Int) := by rw [hQ2]; rfl
  have i3 : (Q1 : Int) * (y2 : Int) = (DEN : Int) := by rw [hDEN]; push_cast; rfl
  have i4 : (x1 : Int) * (Q2 : Int) = (T1 : Int) := by rw [hT1]; push_cast; rfl
  have i5 : (x2 : Int) * (Q1 : Int) = (T2 : Int) := by rw [hT2]; push_cast; rfl
  have i6 : ((T1 : Int) + (T2 : Int)) % (DEN : Int) = (NUM : Int) := by rw [hNUM]; push_cast; rfl
  have i6' : ((T1 : Int) + (T2 : Int)).tmod (DEN : Int) = (NUM : Int) := by rw [hNUM]; exact tmod_nat (T1 + T2) DEN
  have w1 : IntKind.u64.wrap (Q1 : Int) = (Q1 : Int) := by rw [IntKind.wrap_u64]; omega
  have w2 : IntKind.u64.wrap (Q2 : Int) = (Q2 : Int) := by rw [IntKind.wrap_u64]; omega
  have w3 : IntKind.u64.wrap (DEN : Int) = (DEN : Int) := by rw [IntKind.wrap_u64]; omega
  have w4 : IntKind.u64.wrap (T1 : Int) = (T1 : Int) := by rw [IntKind.wrap_u64]; omega
  have w5 : IntKind.u64.wrap (T2 : Int) = (T2 : Int) := by rw [IntKind.wrap_u64]; omega
  have w6 : IntKind.u64.wrap ((T1 : Int) + (T2 : Int)) = (T1 : Int) + (T2 : Int) := by rw [IntKind.wrap_u64]; omega
  have w7 : IntKind.u64.wrap (NUM : Int) = (NUM : Int) := by rw [IntKind.wrap_u64]; omega
  have hG1 : ¬ (G : Int) = 0 := by omega
  have hD1 : ¬ (DEN : Int) = 0 := by omega
  have bN : Hid (NUM < 18446744073709551616) := Lib.hid (by omega)
  have bD : Hid (DEN < 18446744073709551616) := Lib.hid (by omega)
  have hDD : D ≤ DEN := by rw [eD.out]; exact Nat.div_le_self _ _
  replace mD0 := Lib.hid mD0
  replace hG := Lib.hid hG
  have y1s : Hid (y1 < 18446744073709551616) := Lib.hid (by omega)
  have y2s : Hid (y2 < 18446744073709551616) := Lib.hid (by omega)
  have hK1 := ((Blk.new w 34 #[.int .u64 (x1 : Int), .int .u64 (y1 : Int)]).alloc (.cells #[.int .u64 (x2 : Int), .int .u64 (y2 : Int)] 34)).alloc (.cells #[.int .u64 0, .int .u64 0] 34)
  have hK2 := (Blk.new (w.alloc (.cells #[.int .u64 (x1 : Int), .int .u64 (y1 : Int)] 34)) 34 #[.int .u64 (x2 : Int), .int .u64 (y2 : Int)]).alloc (.cells #[.int .u64 0, .int .u64 0] 34)
  have hK3 := Blk.new ((w.alloc (.cells #[.int .u64 (x1 : Int), .int .u64 (y1 : Int)] 34)).alloc (.cells #[.int .u64 (x2 : Int), .int .u64 (y2 : Int)] 34)) 34 #[.int .u64 0, .int .u64 0]
  rw [show (w.alloc (.cells #[.int .u64 (x1 : Int), .int .u64 (y1 : Int)] 34)).heap.size = w.heap.size + 1 by simp] at hK2
  rw [show ((w.alloc (.cells #[.int .u64 (x1 : Int), .int .u64 (y1 : Int)] 34)).alloc (.cells #[.int .u64 (x2 : Int), .int .u64 (y2 : Int)] 34)).heap.size = w.heap.size + 2 by simp] at hK3
  have hBW : Below w.heap.size w (((w.alloc (.cells #[.int .u64 (x1 : Int), .int .u64 (y1 : Int)] 34)).alloc (.cells #[.int .u64 (x2 : Int), .int .u64 (y2 : Int)] 34)).alloc (.cells #[.int .u64 0, .int .u64 0] 34)) := (((Below.refl _ w).alloc (Nat.le_refl _) _).alloc (by simp) _).alloc (by simp; omega) _
  replace hK1 := Lib.hid hK1
  replace hK2 := Lib.hid hK2
  replace hK3 := Lib.hid hK3
  replace hBW := Lib.hid hBW
  clear hQ1 hQ2 hDEN hT1 hT2 hNUM p1 p2 hG0 hGy q1 q2 q10 m1 m2 hl hN hD hNs k1 k2 l1 l2
  go_enter Try.func39, Try.ntmps39
  go_wp2_with fail
  refine (rgcd_any y1 y2 _ y1s.out y2s.out).mono ?_
  rintro e v1 ⟨rfl, hdr⟩
  rw [← hG.out]
  replace hK1 := Blk.dr hdr hK1.out
  replace hK2 := Blk.dr hdr hK2.out
  replace hK3 := Lib.hid (Blk.dr hdr hK3.out)
  replace hBW := Lib.hid (below_dr hdr hBW.out)
  have c10 : v1.cell? ⟨w.heap.size, 0, none⟩ = some (.int .u64 (x1 : Int)) := hK1.cell 0
  have c11 : v1.cell? ⟨w.heap.size, 1, none⟩ = some (.int .u64 (y1 : Int)) := hK1.cell 1
  have c20 : v1.cell? ⟨w.heap.size + 1, 0, none⟩ = some (.int .u64 (x2 : Int)) := hK2.cell 0
  have c21 : v1.cell? ⟨w.heap.size + 1, 1, none⟩ = some (.int .u64 (y2 : Int)) := hK2.cell 1
  clear hdr hK1 hK2
  go_wp2_with fail
  go_quiet (fail)
  go_wp2_with fail
  go_quiet (fail)
  go_wp2_with fail
  refine (low_any NUM DEN NUM N D _ bN.out bD.out mD0.out eX eN eD).mono ?_
  rintro e v2 ⟨rfl, hb⟩
  have k3 := (Blk.below (Blk.drewN hK3.out _) hb).alloc (.cells #[.int .u64 (N : Int), .int .u64 (D : Int)] 34)
  have ks := Blk.new v2 34 #[.int .u64 (N : Int), .int .u64 (D : Int)]
  have hB2 := (below_drewN hBW.out _).trans (hb.mono (below_drewN hBW.out _).size)
  replace hB2 := hB2.alloc hB2.size (.cells #[.int .u64 (N : Int), .int .u64 (D : Int)] 34)
  have hz : w.heap.size + 2 ≠ v2.heap.size := by
    have h1 := (Blk.below (Blk.drewN hK3.out _) hb).lt
    omega
  clear hb hK3 hBW c10 c11 c20 c21 i1 i2 i1' i2' i3 i4 i5 i6 i6' w1 w2 w3 w4 w5 w6 w7
  go_upto_region 5 with fail
  generalize hv2 : v2.alloc (.cells #[.int .u64 (N : Int), .int .u64 (D : Int)] 34) = v3 at k3 ks hB2 ⊢
  generalize hg : v2.heap.size = g at *
  have r0 : v3.cell? ⟨w.heap.size + 2, 0, none⟩ = some (.int .u64 0) := k3.cell 0
  have r1 : v3.cell? ⟨w.heap.size + 2, 1, none⟩ = some (.int .u64 0) := k3.cell 1
  have f0 := k3.frozen 0
  have f1 := k3.frozen 1
  have s0 : v3.cell? ⟨g, 0, none⟩ = some (.int .u64 (N : Int)) := ks.cell 0
  have s1 : v3.cell? ⟨g, 1, none⟩ = some (.int .u64 (D : Int)) := ks.cell 1
  replace hB2 := Lib.hid hB2
  clear hv2 hg k3 ks
  by_cases hle : D ≤ 2147483647
  · have hv : Hid (raddV N D = .tuple #[.agg #[.int .u64 (N : Int), .int .u64 (D : Int)], .int .i64 0]) := Lib.hid (by simp [raddV, hle])
    have hI : ¬ (2147483647 : Int) < (D : Int) := by omega
    clear hDD hle
    go_wp2_with fail
    refine bodyPost_ret (v := .tuple #[.agg #[.int .u64 (N : Int), .int .u64 (D : Int)], .int .i64 0]) (by simp [results, Try.results39, go_sem, r0, r1]) rfl ⟨by rw [hv.out], ?_⟩
    exact (hB2.out.setCell (p := ⟨w.heap.size + 2, 0, none⟩) (by simp) _).setCell (p := ⟨w.heap.size + 2, 1, none⟩) (by simp) _
  · have hv : Hid (raddV N D = .tuple #[.agg #[.int .u64 0, .int .u64 0], .int .i64 210]) := Lib.hid (by simp [raddV, hle])
    have hI : (2147483647 : Int) < (D : Int) := by omega
    clear hDD hle
    go_wp2_with fail
    refine bodyPost_ret (v := .tuple #[.agg #[.int .u64 0, .int .u64 0], .int .i64 210]) (by simp [results, Try.results39, go_sem, r0, r1]) rfl ⟨by rw [hv.out], ?_⟩
    exact (hB2.out.setCell (p := ⟨w.heap.size + 2, 0, none⟩) (by simp) _).setCell (p := ⟨w.heap.size + 2, 1, none⟩) (by simp) _
end Go.Proofs.Ytciafmnideihjaa
