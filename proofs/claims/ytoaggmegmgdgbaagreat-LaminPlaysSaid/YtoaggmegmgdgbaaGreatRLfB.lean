import Derived.Test.YtoaggmegmgdgbaaGreatRLfA
namespace Go.Proofs.YtoaggmegmgdgbaaGreat
open Go.RowKit Go.Sort
set_option maxRecDepth 100000 in
set_option maxHeartbeats 2000000 in
theorem rlTurn_any (l : Lf) (d : Nat) (w : World) (hl : AngL l) (hd : d ≤ 64) :
    Calls Tryz.prog 22 #[rlV l, .int .i64 (d : Int)] w (RetVal (.tuple #[(rmake23 (trnP d l.1) (trnP d l.2)).1, .bool (decide ((rmake23 (trnP d l.1) (trnP d l.2)).2 = 0))]) w) := by
  have rt : ∀ (p : Nat × Nat) W, Ang p → Calls Tryz.prog 71 #[.agg #[.int .u64 (p.1 : Int), .int .u64 (p.2 : Int)], .int .i64 (d : Int)] W (RetVal (.agg #[.int .u64 ((trnP d p).1 : Int), .int .u64 ((trnP d p).2 : Int)]) W) := fun p W h => by
    have h1 := h.2.1
    have h2 := h.2.2
    exact rturn_any p.1 p.2 d (turnX p.1 p.2 d 1) _ _ W (by omega) (by omega) h2 hd (Lib.hid (by rw [turnX, Nat.pow_one, Nat.mul_mod, Nat.mod_mod, ← Nat.mul_mod])) (Lib.hid rfl) (Lib.hid rfl)
  have hT1 := Lib.hid (fun W => rt l.1 W hl.1)
  have hT2 := Lib.hid (fun W => rt l.2 W hl.2)
  have hM := Lib.hid (fun W => rlMake_any (trnP d l.1) (trnP d l.2) W (hl.1.trn d) (hl.2.trn d))
  obtain ⟨m, hm⟩ : ∃ m, m = rmake23 (trnP d l.1) (trnP d l.2) := ⟨_, rfl⟩
  obtain ⟨u0, u1, u2, u3, hu⟩ : ∃ u0 u1 u2 u3 : Int, m.1 = .agg #[.int .u64 u0, .int .u64 u1, .int .u64 u2, .int .u64 u3] := by
    rw [hm, rmake23]
    split
    · exact ⟨0, 0, 0, 0, rfl⟩
    · split
      · exact ⟨_, _, _, _, rfl⟩
      · exact ⟨_, _, _, _, rfl⟩
  rw [← hm] at hM ⊢
  rw [hu] at hM ⊢
  obtain ⟨mc, hmc⟩ : ∃ c, c = m.2 := ⟨_, rfl⟩
  rw [← hmc] at hM ⊢
  obtain ⟨p, hp⟩ : ∃ p, p = trnP d l.1 := ⟨_, rfl⟩
  obtain ⟨q, hq⟩ : ∃ p, p = trnP d l.2 := ⟨_, rfl⟩
  rw [← hp] at hT1 hM
  rw [← hq] at hT2 hM
  obtain ⟨bz, hbz⟩ : ∃ b, b = decide (mc = 0) := ⟨_, rfl⟩
  rw [← hbz]
  have hmz : Hid ((mc == 0) = bz) := Lib.hid (by rw [hbz]; rfl)
  clear rt hm hu hmc hp hq hl hbz
  unfold rlV
  have hBW : Below w.heap.size w ((w.alloc (.cells #[.int .u64 (l.1.1 : Int), .int .u64 (l.1.2 : Int), .int .u64 (l.2.1 : Int), .int .u64 (l.2.2 : Int)] 44)).alloc (.cells #[.int .u64 0, .int .u64 0, .int .u64 0, .int .u64 0] 44)) := (((Below.refl _ w).alloc (Nat.le_refl _) _).alloc (by simp) _)
  have kk0 := ((Blk.new w 44 #[.int .u64 (l.1.1 : Int), .int .u64 (l.1.2 : Int), .int .u64 (l.2.1 : Int), .int .u64 (l.2.2 : Int)]).alloc (.cells #[.int .u64 0, .int .u64 0, .int .u64 0, .int .u64 0] 44))
  have kk1 := (Blk.new (w.alloc (.cells #[.int .u64 (l.1.1 : Int), .int .u64 (l.1.2 : Int), .int .u64 (l.2.1 : Int), .int .u64 (l.2.2 : Int)] 44)) 44 #[.int .u64 0, .int .u64 0, .int .u64 0, .int .u64 0])
  simp only [World.size_alloc] at kk1
  have K := Lib.hid ((KeepT.one kk0).snoc kk1)
  have hB := Lib.hid hBW
  clear hBW kk0 kk1
  go_enter Tryz.func22, Tryz.ntmps22
  go_upto_region 1 with fail
  generalize hW : ((w.alloc (.cells #[.int .u64 (l.1.1 : Int), .int .u64 (l.1.2 : Int), .int .u64 (l.2.1 : Int), .int .u64 (l.2.2 : Int)] 44)).alloc (.cells #[.int .u64 0, .int .u64 0, .int .u64 0, .int .u64 0] 44)) = w1 at hB K ⊢
  clear hW
  have ll0 : w1.cell? ⟨w.heap.size, 0, none⟩ = some (.int .u64 (l.1.1 : Int)) := (K.out.at_ 0 rfl).cell 0
  have ll1 : w1.cell? ⟨w.heap.size, 1, none⟩ = some (.int .u64 (l.1.2 : Int)) := (K.out.at_ 0 rfl).cell 1
  have ll2 : w1.cell? ⟨w.heap.size, 2, none⟩ = some (.int .u64 (l.2.1 : Int)) := (K.out.at_ 0 rfl).cell 2
  have ll3 : w1.cell? ⟨w.heap.size, 3, none⟩ = some (.int .u64 (l.2.2 : Int)) := (K.out.at_ 0 rfl).cell 3
  replace K : Hid (KeepT w1 [(w.heap.size, 44, #[.int .u64 (l.1.1 : Int), .int .u64 (l.1.2 : Int), .int .u64 (l.2.1 : Int), .int .u64 (l.2.2 : Int)]), (w.heap.size + 1, 44, #[.int .u64 0, .int .u64 0, .int .u64 0, .int .u64 0])]) := K
  have hs1 : w.heap.size + 2 ≤ w1.heap.size := by have := (K.out.at_ 1 rfl).lt; omega
  go_cut [6, 7] from 8 to 22 (fun s6 s7 wx => ∃ g6 : Nat, s6 = .pointer (some ⟨g6, 0, none⟩) ∧ s7 = .int .i64 mc ∧ w.heap.size + 2 ≤ g6 ∧ Hid (Blk wx g6 44 #[.int .u64 u0, .int .u64 u1, .int .u64 u2, .int .u64 u3]) ∧ Hid (KeepT wx [(w.heap.size, 44, #[.int .u64 (l.1.1 : Int), .int .u64 (l.1.2 : Int), .int .u64 (l.2.1 : Int), .int .u64 (l.2.2 : Int)]), (w.heap.size + 1, 44, #[.int .u64 0, .int .u64 0, .int .u64 0, .int .u64 0])]) ∧ Hid (Below w.heap.size w wx))
  case first =>
    go_region_held3 (fun w' => w'.cell? ⟨w.heap.size, 0, none⟩ = some (.int .u64 (l.1.1 : Int)) ∧ w'.cell? ⟨w.heap.size, 1, none⟩ = some (.int .u64 (l.1.2 : Int)) ∧ w'.cell? ⟨w.heap.size, 2, none⟩ = some (.int .u64 (l.2.1 : Int)) ∧ w'.cell? ⟨w.heap.size, 3, none⟩ = some (.int .u64 (l.2.2 : Int))) (first | go_keep | exact ⟨keep_set4 o0 (by simp; omega), keep_set4 o1 (by simp; omega), keep_set4 o2 (by simp; omega), keep_set4 o3 (by simp; omega)⟩)
      (first
        | (go_at_call_of 71 (Value.int .u64 (l.1.1 : Int)); (with_reducible refine (hT1.out _).mono ?_); rintro en w2 ⟨rfl, hb⟩; have hb0 : Below w1.heap.size w1 w2 := (by first | exact hb | exact (((Below.refl _ w1).drew).trans hb) | exact (((Below.refl _ w1).alloc (Nat.le_refl _) (.cells #[.int .u64 0, .int .u64 0, .int .u64 0, .int .u64 0] 44)).trans (hb.mono (by simp))) | exact ((((Below.refl _ w1).drew).alloc (Nat.le_refl _) (.cells #[.int .u64 0, .int .u64 0, .int .u64 0, .int .u64 0] 44)).trans (hb.mono (by simp)))); have K2 := K.out.below hb0; have hB2 : Below w.heap.size w w2 := hB.out.trans (hb0.mono hB.out.size); have hs2 : w.heap.size + 2 ≤ w2.heap.size := Nat.le_trans hs1 hb0.size; have m0 : w2.cell? ⟨w.heap.size, 0, none⟩ = some (.int .u64 (l.1.1 : Int)) := (K2.at_ 0 rfl).cell 0; have m1 : w2.cell? ⟨w.heap.size, 1, none⟩ = some (.int .u64 (l.1.2 : Int)) := (K2.at_ 0 rfl).cell 1; have m2 : w2.cell? ⟨w.heap.size, 2, none⟩ = some (.int .u64 (l.2.1 : Int)) := (K2.at_ 0 rfl).cell 2; have m3 : w2.cell? ⟨w.heap.size, 3, none⟩ = some (.int .u64 (l.2.2 : Int)) := (K2.at_ 0 rfl).cell 3; (first | (have bx : Blk w2 w1.heap.size 44 #[.int .u64 0, .int .u64 0, .int .u64 0, .int .u64 0] := Blk.below (Blk.new w1 44 #[.int .u64 0, .int .u64 0, .int .u64 0, .int .u64 0]) hb; have hgx : w.heap.size + 2 ≤ w1.heap.size := hs1) | (have bx : Blk w2 w1.heap.size 44 #[.int .u64 0, .int .u64 0, .int .u64 0, .int .u64 0] := Blk.below (Blk.new w1.drew 44 #[.int .u64 0, .int .u64 0, .int .u64 0, .int .u64 0]) hb; have hgx : w.heap.size + 2 ≤ w1.heap.size := hs1) | (have bx := Blk.below bx hb) | skip); replace K2 := Lib.hid K2; replace hB2 := Lib.hid hB2; clear hb hb0)
        | (go_at_call_of 71 (Value.int .u64 (l.2.1 : Int)); (with_reducible refine (hT2.out _).mono ?_); rintro en w3 ⟨rfl, hb⟩; have hb0 : Below w2.heap.size w2 w3 := (by first | exact hb | exact (((Below.refl _ w2).drew).trans hb) | exact (((Below.refl _ w2).alloc (Nat.le_refl _) (.cells #[.int .u64 0, .int .u64 0, .int .u64 0, .int .u64 0] 44)).trans (hb.mono (by simp))) | exact ((((Below.refl _ w2).drew).alloc (Nat.le_refl _) (.cells #[.int .u64 0, .int .u64 0, .int .u64 0, .int .u64 0] 44)).trans (hb.mono (by simp)))); have K3 := K2.out.below hb0; have hB3 : Below w.heap.size w w3 := hB2.out.trans (hb0.mono hB2.out.size); have hs3 : w.heap.size + 2 ≤ w3.heap.size := Nat.le_trans hs2 hb0.size; have n0 : w3.cell? ⟨w.heap.size, 0, none⟩ = some (.int .u64 (l.1.1 : Int)) := (K3.at_ 0 rfl).cell 0; have n1 : w3.cell? ⟨w.heap.size, 1, none⟩ = some (.int .u64 (l.1.2 : Int)) := (K3.at_ 0 rfl).cell 1; have n2 : w3.cell? ⟨w.heap.size, 2, none⟩ = some (.int .u64 (l.2.1 : Int)) := (K3.at_ 0 rfl).cell 2; have n3 : w3.cell? ⟨w.heap.size, 3, none⟩ = some (.int .u64 (l.2.2 : Int)) := (K3.at_ 0 rfl).cell 3; (first | (have bx : Blk w3 w2.heap.size 44 #[.int .u64 0, .int .u64 0, .int .u64 0, .int .u64 0] := Blk.below (Blk.new w2 44 #[.int .u64 0, .int .u64 0, .int .u64 0, .int .u64 0]) hb; have hgx : w.heap.size + 2 ≤ w2.heap.size := hs2) | (have bx : Blk w3 w2.heap.size 44 #[.int .u64 0, .int .u64 0, .int .u64 0, .int .u64 0] := Blk.below (Blk.new w2.drew 44 #[.int .u64 0, .int .u64 0, .int .u64 0, .int .u64 0]) hb; have hgx : w.heap.size + 2 ≤ w2.heap.size := hs2) | (have bx := Blk.below bx hb) | skip); replace K3 := Lib.hid K3; replace hB3 := Lib.hid hB3; clear hb hb0)
        | (go_at_call 26; (with_reducible refine (hM.out _).mono ?_); rintro en w4 ⟨rfl, hb⟩; have hb0 : Below w3.heap.size w3 w4 := (by first | exact hb | exact (((Below.refl _ w3).drew).trans hb) | exact (((Below.refl _ w3).alloc (Nat.le_refl _) (.cells #[.int .u64 0, .int .u64 0, .int .u64 0, .int .u64 0] 44)).trans (hb.mono (by simp))) | exact ((((Below.refl _ w3).drew).alloc (Nat.le_refl _) (.cells #[.int .u64 0, .int .u64 0, .int .u64 0, .int .u64 0] 44)).trans (hb.mono (by simp)))); have K4 := K3.out.below hb0; have hB4 : Below w.heap.size w w4 := hB3.out.trans (hb0.mono hB3.out.size); have hs4 : w.heap.size + 2 ≤ w4.heap.size := Nat.le_trans hs3 hb0.size; have o0 : w4.cell? ⟨w.heap.size, 0, none⟩ = some (.int .u64 (l.1.1 : Int)) := (K4.at_ 0 rfl).cell 0; have o1 : w4.cell? ⟨w.heap.size, 1, none⟩ = some (.int .u64 (l.1.2 : Int)) := (K4.at_ 0 rfl).cell 1; have o2 : w4.cell? ⟨w.heap.size, 2, none⟩ = some (.int .u64 (l.2.1 : Int)) := (K4.at_ 0 rfl).cell 2; have o3 : w4.cell? ⟨w.heap.size, 3, none⟩ = some (.int .u64 (l.2.2 : Int)) := (K4.at_ 0 rfl).cell 3; (first | (have bx : Blk w4 w3.heap.size 44 #[.int .u64 0, .int .u64 0, .int .u64 0, .int .u64 0] := Blk.below (Blk.new w3 44 #[.int .u64 0, .int .u64 0, .int .u64 0, .int .u64 0]) hb; have hgx : w.heap.size + 2 ≤ w3.heap.size := hs3) | (have bx : Blk w4 w3.heap.size 44 #[.int .u64 0, .int .u64 0, .int .u64 0, .int .u64 0] := Blk.below (Blk.new w3.drew 44 #[.int .u64 0, .int .u64 0, .int .u64 0, .int .u64 0]) hb; have hgx : w.heap.size + 2 ≤ w3.heap.size := hs3) | (have bx := Blk.below bx hb) | skip); (first | (have y0 := bx.cell 0; have yf0 := bx.frozen 0; have y1 := bx.cell 1; have yf1 := bx.frozen 1; have y2 := bx.cell 2; have yf2 := bx.frozen 2; have y3 := bx.cell 3; have yf3 := bx.frozen 3) | skip); replace K4 := Lib.hid K4; replace hB4 := Lib.hid hB4; clear hb hb0))
    all_goals
      clear ll0 ll1 ll2 ll3
      go_wp2_with fail
      go_meet
      case rel =>
        first
          | exact ⟨w4.heap.size, rfl, rfl, by omega, Lib.hid (Blk.new w4 44 #[.int .u64 u0, .int .u64 u1, .int .u64 u2, .int .u64 u3]), Lib.hid (K4.out.alloc (.cells #[.int .u64 u0, .int .u64 u1, .int .u64 u2, .int .u64 u3] 44)), Lib.hid (hB4.out.alloc hB4.out.size (.cells #[.int .u64 u0, .int .u64 u1, .int .u64 u2, .int .u64 u3] 44))⟩
          | exact ⟨_, rfl, rfl, hgx, Lib.hid ((((bx.set_ 0 (.int .u64 u0)).set_ 1 (.int .u64 u1)).set_ 2 (.int .u64 u2)).set_ 3 (.int .u64 u3)), Lib.hid (KeepT.two (Blk.far4 (K4.out.at_ 0 rfl) (by omega)) (Blk.far4 (K4.out.at_ 1 rfl) (by omega))), Lib.hid (((((hB4.out.setCell (p := ⟨_, 0, none⟩) (by simp; omega) (.int .u64 u0)).setCell (p := ⟨_, 1, none⟩) (by simp; omega) (.int .u64 u1)).setCell (p := ⟨_, 2, none⟩) (by simp; omega) (.int .u64 u2)).setCell (p := ⟨_, 3, none⟩) (by simp; omega) (.int .u64 u3)))⟩
  clear hT1 hT2 hM hs1 ll0 ll1 ll2 ll3 hB K
  obtain ⟨g6, rfl, rfl, hg6, hx, K, hB⟩ := hcut
  have x0 : wc.cell? ⟨g6, 0, none⟩ = some (.int .u64 u0) := hx.out.cell 0
  have x1 : wc.cell? ⟨g6, 1, none⟩ = some (.int .u64 u1) := hx.out.cell 1
  have x2 : wc.cell? ⟨g6, 2, none⟩ = some (.int .u64 u2) := hx.out.cell 2
  have x3 : wc.cell? ⟨g6, 3, none⟩ = some (.int .u64 u3) := hx.out.cell 3
  have f10 := (K.out.at_ 1 rfl).frozen 0
  have f11 := (K.out.at_ 1 rfl).frozen 1
  have f12 := (K.out.at_ 1 rfl).frozen 2
  have f13 := (K.out.at_ 1 rfl).frozen 3
  have rr0 : wc.cell? ⟨w.heap.size + 1, 0, none⟩ = some (.int .u64 0) := (K.out.at_ 1 rfl).cell 0
  have rr1 : wc.cell? ⟨w.heap.size + 1, 1, none⟩ = some (.int .u64 0) := (K.out.at_ 1 rfl).cell 1
  have rr2 : wc.cell? ⟨w.heap.size + 1, 2, none⟩ = some (.int .u64 0) := (K.out.at_ 1 rfl).cell 2
  have rr3 : wc.cell? ⟨w.heap.size + 1, 3, none⟩ = some (.int .u64 0) := (K.out.at_ 1 rfl).cell 3
  have hmz2 : (mc == 0) = bz := hmz.out
  have KZ := Lib.hid (Blk.set_ (Blk.set_ (Blk.set_ (Blk.set_ (K.out.at_ 1 rfl) 0 (.int .u64 u0)) 1 (.int .u64 u1)) 2 (.int .u64 u2)) 3 (.int .u64 u3))
  have hBZ := Lib.hid ((((hB.out.setCell (p := ⟨w.heap.size + 1, 0, none⟩) (by simp) (.int .u64 u0)).setCell (p := ⟨w.heap.size + 1, 1, none⟩) (by simp) (.int .u64 u1)).setCell (p := ⟨w.heap.size + 1, 2, none⟩) (by simp) (.int .u64 u2)).setCell (p := ⟨w.heap.size + 1, 3, none⟩) (by simp) (.int .u64 u3))
  clear K hB hx
  go_wp2_with fail
  have q0 := KZ.out.cell 0
  have q1 := KZ.out.cell 1
  have q2 := KZ.out.cell 2
  have q3 := KZ.out.cell 3
  refine bodyPost_ret (v := .tuple #[.agg #[.int .u64 u0, .int .u64 u1, .int .u64 u2, .int .u64 u3], .bool bz]) (by simp [results, Tryz.results22, go_sem, q0, q1, q2, q3]) rfl ⟨rfl, hBZ.out⟩
end Go.Proofs.YtoaggmegmgdgbaaGreat
