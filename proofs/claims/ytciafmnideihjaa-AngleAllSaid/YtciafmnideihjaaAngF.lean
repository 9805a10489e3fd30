/- Package angle: Turns, Turn, Make. · Package angle: Turn, Make. -/
import Derived.Test.YtciafmnideihjaaAngE
import Derived.Deep.RegionWith
namespace Go.Proofs.Ytciafmnideihjaa
open Go.RowKit

/-- The angle a over b, turned n times by d: over b. -/
def turnX (a b d n : Nat) : Nat := a * (d ^ n % b) % b
/-- What Turns tells. -/
def turnsV (neg : Bool) (num den : ByteArray) (d n : Int) : Value :=
  if okA neg num den then
    if roundB d && decide (0 ≤ n) then
      .tuple #[ratV (turnX (be (sl num)) (be (sl den)) d.toNat n.toNat / Nat.gcd (turnX (be (sl num)) (be (sl den)) d.toNat n.toNat) (be (sl den)))
        (be (sl den) / Nat.gcd (turnX (be (sl num)) (be (sl den)) d.toNat n.toNat) (be (sl den))), .int .i64 0]
    else .tuple #[rat0, .int .i64 2]
  else .tuple #[rat0, .int .i64 210]

theorem okA_spec {neg : Bool} {num den : ByteArray} (h : okA neg num den = true) :
    neg = false ∧ mayB num = true ∧ mayB den = true ∧ Nat.gcd (be (sl num)) (be (sl den)) = 1 ∧ be (sl num) < be (sl den) ∧ be (sl den) ≤ 2147483647 := by
  simp [okA, ratioMay] at h
  obtain ⟨⟨⟨⟨⟨⟨⟨⟨⟨h1, h2⟩, h3⟩, h4⟩, -⟩, h5⟩, -⟩, -⟩, h6⟩, h7⟩ := h
  exact ⟨h5, h1, h2, h4, h6, h7⟩

set_option maxRecDepth 100000 in
set_option maxHeartbeats 1000000 in
/-- angle.Turns -/
theorem turns_any (neg : Bool) (num den : ByteArray) (d n : Int) (w : World) (z1 : num.size ≤ 9223372036854775807) (z2 : den.size ≤ 9223372036854775807) (hn : n < 9223372036854775808) :
    Calls Try.prog 25 #[.agg #[.bool neg, .string num, .string den], .int .i64 d, .int .i64 n] w (RetVal (turnsV neg num den d n) w) := by
  have hK2 := Blk.new (w.alloc (.cells #[.bool neg, .string num, .string den] 24)) 24 #[.bool false, .string ⟨#[]⟩, .string ⟨#[]⟩]
  have hBW : Below w.heap.size w ((w.alloc (.cells #[.bool neg, .string num, .string den] 24)).alloc (.cells #[.bool false, .string ⟨#[]⟩, .string ⟨#[]⟩] 24)) := ((Below.refl _ w).alloc (Nat.le_refl _) _).alloc (by simp) _
  rw [show (w.alloc (.cells #[.bool neg, .string num, .string den] 24)).heap.size = w.heap.size + 1 by simp] at hK2
  replace hK2 := Lib.hid hK2
  replace hBW := Lib.hid hBW
  cases hok : okA neg num den
  · have hv : Hid (turnsV neg num den d n = .tuple #[.agg #[.bool false, .string ⟨#[]⟩, .string ⟨#[]⟩], .int .i64 210]) := Lib.hid (by simp [turnsV, hok, rat0])
    have hsv := smallV_no hok
    replace hsv := Lib.hid hsv
    clear hok
    go_enter Try.func25, Try.ntmps25
    go_wp2_with fail
    refine (small_any neg num den _ z1 z2).mono ?_
    rintro e w1 ⟨rfl, hb⟩
    rw [hsv.out]
    have q2 := Blk.below hK2.out hb
    have hB1 := hBW.out.trans (hb.mono (by simp; omega))
    have hz : w.heap.size + 2 ≤ w1.heap.size := by have := hb.size; simp at this; omega
    replace hB1 := hB1.alloc (by omega) (.cells #[.int .u64 0, .int .u64 0] 91)
    have q3 := q2.alloc (.cells #[.int .u64 0, .int .u64 0] 91)
    clear hb q2
    go_upto_region 2 with fail
    generalize hw2 : w1.alloc (.cells #[.int .u64 0, .int .u64 0] 91) = w2 at hB1 q3 ⊢
    have p0 : w2.cell? ⟨w.heap.size + 1, 0, none⟩ = some (.bool false) := q3.cell 0
    have p1 : w2.cell? ⟨w.heap.size + 1, 1, none⟩ = some (.string ⟨#[]⟩) := q3.cell 1
    have p2 : w2.cell? ⟨w.heap.size + 1, 2, none⟩ = some (.string ⟨#[]⟩) := q3.cell 2
    have f0 := q3.frozen 0
    have f1 := q3.frozen 1
    have f2 := q3.frozen 2
    replace hB1 := Lib.hid hB1
    clear hw2 q3
    go_wp2
    refine bodyPost_ret (v := .tuple #[.agg #[.bool false, .string ⟨#[]⟩, .string ⟨#[]⟩], .int .i64 210]) (by simp [results, Try.results25, go_sem, p0, p1, p2]) rfl ⟨by rw [hv.out], ?_⟩
    exact ((hB1.out.setCell (p := ⟨w.heap.size + 1, 0, none⟩) (by simp) _).setCell (p := ⟨w.heap.size + 1, 1, none⟩) (by simp) _).setCell (p := ⟨w.heap.size + 1, 2, none⟩) (by simp) _
  obtain ⟨x, hx⟩ : ∃ x, x = be (sl num) := ⟨_, rfl⟩
  obtain ⟨y, hy⟩ : ∃ y, y = be (sl den) := ⟨_, rfl⟩
  obtain ⟨rfl, -, -, hgc, hxy, hyd⟩ := okA_spec hok
  have hsv := smallV_yes hok
  rw [← hx, ← hy] at hsv hgc
  rw [← hx, ← hy] at hxy
  rw [← hy] at hyd
  replace hsv := Lib.hid hsv
  cases hr : roundB d
  · have hv : Hid (turnsV false num den d n = .tuple #[.agg #[.bool false, .string ⟨#[]⟩, .string ⟨#[]⟩], .int .i64 2]) := Lib.hid (by simp [turnsV, hok, hr, rat0])
    replace hr := Lib.hid hr
    clear hok hx hy
    go_enter Try.func25, Try.ntmps25
    go_wp2_with fail
    refine (small_any false num den _ z1 z2).mono ?_
    rintro e w1 ⟨rfl, hb⟩
    rw [hsv.out]
    have q2 := Blk.below hK2.out hb
    have hB1 := hBW.out.trans (hb.mono (by simp; omega))
    have hz : w.heap.size + 2 ≤ w1.heap.size := by have := hb.size; simp at this; omega
    replace hB1 := hB1.alloc (by omega) (.cells #[.int .u64 (x : Int), .int .u64 (y : Int)] 91)
    have q3 := q2.alloc (.cells #[.int .u64 (x : Int), .int .u64 (y : Int)] 91)
    have qp := Blk.new w1 91 #[.int .u64 (x : Int), .int .u64 (y : Int)]
    clear hb q2
    go_upto_region 2 with fail
    generalize hw2 : w1.alloc (.cells #[.int .u64 (x : Int), .int .u64 (y : Int)] 91) = w2 at hB1 q3 qp ⊢
    generalize hgp : w1.heap.size = gp at *
    have p0 : w2.cell? ⟨w.heap.size + 1, 0, none⟩ = some (.bool false) := q3.cell 0
    have p1 : w2.cell? ⟨w.heap.size + 1, 1, none⟩ = some (.string ⟨#[]⟩) := q3.cell 1
    have p2 : w2.cell? ⟨w.heap.size + 1, 2, none⟩ = some (.string ⟨#[]⟩) := q3.cell 2
    have f0 := q3.frozen 0
    have f1 := q3.frozen 1
    have f2 := q3.frozen 2
    have c0 : w2.cell? ⟨gp, 0, none⟩ = some (.int .u64 (x : Int)) := qp.cell 0
    have c1 : w2.cell? ⟨gp, 1, none⟩ = some (.int .u64 (y : Int)) := qp.cell 1
    replace hB1 := Lib.hid hB1
    replace qp := Lib.hid qp
    replace q3 := Lib.hid q3
    have hne : gp ≠ w.heap.size + 1 := by omega
    have hne' : w.heap.size + 1 ≠ gp := by omega
    clear hw2 hgp
    go_wp2_with fail
    refine (aturns_any d _).mono ?_
    rintro e w3 ⟨rfl, rfl⟩
    rw [hr.out]
    go_wp2
    refine bodyPost_ret (v := .tuple #[.agg #[.bool false, .string ⟨#[]⟩, .string ⟨#[]⟩], .int .i64 2]) (by simp [results, Try.results25, go_sem, p0, p1, p2]) rfl ⟨by rw [hv.out], ?_⟩
    exact ((hB1.out.setCell (p := ⟨w.heap.size + 1, 0, none⟩) (by simp) _).setCell (p := ⟨w.heap.size + 1, 1, none⟩) (by simp) _).setCell (p := ⟨w.heap.size + 1, 2, none⟩) (by simp) _
  have hd := roundB_iff.1 hr
  by_cases hn0 : 0 ≤ n
  rotate_left
  · have hv : Hid (turnsV false num den d n = .tuple #[.agg #[.bool false, .string ⟨#[]⟩, .string ⟨#[]⟩], .int .i64 2]) := Lib.hid (by simp [turnsV, hok, hr, rat0, hn0])
    have hnI : n < 0 := by omega
    replace hr := Lib.hid hr
    clear hok hx hy hn0
    go_enter Try.func25, Try.ntmps25
    go_wp2_with fail
    refine (small_any false num den _ z1 z2).mono ?_
    rintro e w1 ⟨rfl, hb⟩
    rw [hsv.out]
    have q2 := Blk.below hK2.out hb
    have hB1 := hBW.out.trans (hb.mono (by simp; omega))
    have hz : w.heap.size + 2 ≤ w1.heap.size := by have := hb.size; simp at this; omega
    replace hB1 := hB1.alloc (by omega) (.cells #[.int .u64 (x : Int), .int .u64 (y : Int)] 91)
    have q3 := q2.alloc (.cells #[.int .u64 (x : Int), .int .u64 (y : Int)] 91)
    have qp := Blk.new w1 91 #[.int .u64 (x : Int), .int .u64 (y : Int)]
    clear hb q2
    go_upto_region 2 with fail
    generalize hw2 : w1.alloc (.cells #[.int .u64 (x : Int), .int .u64 (y : Int)] 91) = w2 at hB1 q3 qp ⊢
    generalize hgp : w1.heap.size = gp at *
    have p0 : w2.cell? ⟨w.heap.size + 1, 0, none⟩ = some (.bool false) := q3.cell 0
    have p1 : w2.cell? ⟨w.heap.size + 1, 1, none⟩ = some (.string ⟨#[]⟩) := q3.cell 1
    have p2 : w2.cell? ⟨w.heap.size + 1, 2, none⟩ = some (.string ⟨#[]⟩) := q3.cell 2
    have f0 := q3.frozen 0
    have f1 := q3.frozen 1
    have f2 := q3.frozen 2
    have c0 : w2.cell? ⟨gp, 0, none⟩ = some (.int .u64 (x : Int)) := qp.cell 0
    have c1 : w2.cell? ⟨gp, 1, none⟩ = some (.int .u64 (y : Int)) := qp.cell 1
    replace hB1 := Lib.hid hB1
    replace qp := Lib.hid qp
    replace q3 := Lib.hid q3
    have hne : gp ≠ w.heap.size + 1 := by omega
    have hne' : w.heap.size + 1 ≠ gp := by omega
    clear hw2 hgp
    go_wp2_with fail
    refine (aturns_any d _).mono ?_
    rintro e w3 ⟨rfl, rfl⟩
    rw [hr.out]
    go_wp2
    refine bodyPost_ret (v := .tuple #[.agg #[.bool false, .string ⟨#[]⟩, .string ⟨#[]⟩], .int .i64 2]) (by simp [results, Try.results25, go_sem, p0, p1, p2]) rfl ⟨by rw [hv.out], ?_⟩
    exact ((hB1.out.setCell (p := ⟨w.heap.size + 1, 0, none⟩) (by simp) _).setCell (p := ⟨w.heap.size + 1, 1, none⟩) (by simp) _).setCell (p := ⟨w.heap.size + 1, 2, none⟩) (by simp) _
  · obtain ⟨dn, rfl⟩ := Int.eq_ofNat_of_zero_le (show 0 ≤ d by omega)
    obtain ⟨nn, rfl⟩ := Int.eq_ofNat_of_zero_le hn0
    obtain ⟨P, hP⟩ : ∃ P, P = dn ^ nn % y := ⟨_, rfl⟩
    obtain ⟨X, hX⟩ : ∃ X, X = x * P % y := ⟨_, rfl⟩
    obtain ⟨N, hN⟩ : ∃ N, N = X / Nat.gcd X y := ⟨_, rfl⟩
    obtain ⟨D, hD⟩ : ∃ D, D = y / Nat.gcd X y := ⟨_, rfl⟩
    have hPy : P < y := by rw [hP]; exact Nat.mod_lt _ (by omega)
    have hNs : N < 18446744073709551616 := by
      have h1 : X < y := by rw [hX]; exact Nat.mod_lt _ (by omega)
      have h2 : N ≤ X := by rw [hN]; exact Nat.div_le_self _ _
      omega
    have hDs : D ≤ 2147483647 := by rw [hD]; exact Nat.le_trans (Nat.div_le_self _ _) hyd
    have hv : Hid (turnsV false num den (dn : Int) (nn : Int) = .tuple #[.agg #[.bool false, .string (natS N), .string (natS D)], .int .i64 0]) := Lib.hid (by
      have e1 : turnX (be (sl num)) (be (sl den)) dn nn = X := by rw [hX, hP, hx, hy]; rfl
      simp only [turnsV, hok, hr, hn0, decide_true, Bool.and_self, if_true, Int.toNat_natCast, e1, ratV]
      rw [hN, hD, hy])
    have hT : Hid (toldV N D = .tuple #[.agg #[.bool false, .string (natS N), .string (natS D)], .int .i64 0]) := Lib.hid (by simp [toldV, hDs, ratV])
    have hI : ¬ (nn : Int) < 0 := by omega
    have hnn : Hid (nn < 9223372036854775808) := Lib.hid (by omega)
    clear hn
    replace hr := Lib.hid hr
    replace hP := Lib.hid hP
    replace hX := Lib.hid hX
    replace hN := Lib.hid hN
    replace hD := Lib.hid hD
    have hwd : IntKind.u64.wrap (dn : Int) = (dn : Int) := by rw [IntKind.wrap_u64]; omega
    have hdI : (2 : Int) ≤ (dn : Int) := hd.1
    have hdI2 : (dn : Int) ≤ 64 := hd.2
    clear hok hx hy hn0 hgc hd
    go_enter Try.func25, Try.ntmps25
    go_wp2_with fail
    refine (small_any false num den _ z1 z2).mono ?_
    rintro e w1 ⟨rfl, hb⟩
    rw [hsv.out]
    have q2 := Blk.below hK2.out hb
    have hB1 := hBW.out.trans (hb.mono (by simp; omega))
    have hz : w.heap.size + 2 ≤ w1.heap.size := by have := hb.size; simp at this; omega
    replace hB1 := hB1.alloc (by omega) (.cells #[.int .u64 (x : Int), .int .u64 (y : Int)] 91)
    have q3 := q2.alloc (.cells #[.int .u64 (x : Int), .int .u64 (y : Int)] 91)
    have qp := Blk.new w1 91 #[.int .u64 (x : Int), .int .u64 (y : Int)]
    clear hb q2
    go_upto_region 2 with fail
    generalize hw2 : w1.alloc (.cells #[.int .u64 (x : Int), .int .u64 (y : Int)] 91) = w2 at hB1 q3 qp ⊢
    generalize hgp : w1.heap.size = gp at *
    have p0 : w2.cell? ⟨w.heap.size + 1, 0, none⟩ = some (.bool false) := q3.cell 0
    have p1 : w2.cell? ⟨w.heap.size + 1, 1, none⟩ = some (.string ⟨#[]⟩) := q3.cell 1
    have p2 : w2.cell? ⟨w.heap.size + 1, 2, none⟩ = some (.string ⟨#[]⟩) := q3.cell 2
    have f0 := q3.frozen 0
    have f1 := q3.frozen 1
    have f2 := q3.frozen 2
    have c0 : w2.cell? ⟨gp, 0, none⟩ = some (.int .u64 (x : Int)) := qp.cell 0
    have c1 : w2.cell? ⟨gp, 1, none⟩ = some (.int .u64 (y : Int)) := qp.cell 1
    replace hB1 := Lib.hid hB1
    replace qp := Lib.hid qp
    replace q3 := Lib.hid q3
    have hne : gp ≠ w.heap.size + 1 := by omega
    have hne' : w.heap.size + 1 ≠ gp := by omega
    clear hw2 hgp
    go_wp2_with fail
    refine (aturns_any (dn : Int) _).mono ?_
    rintro e w3 ⟨rfl, rfl⟩
    rw [hr.out]
    go_wp2_with fail
    go_region_held3 (fun w' => w'.cell? ⟨gp, 0, none⟩ = some (.int .u64 (x : Int)) ∧ w'.cell? ⟨gp, 1, none⟩ = some (.int .u64 (y : Int))) (go_keep)
      (first
        | (go_at_call 60; refine (power_any dn nn y _ hnn.out (by omega) (by omega)).mono ?_; rintro e w4 ⟨rfl, n4, rfl⟩; rw [← hP.out])
        | (go_at_call 57; refine (turn_any x y P X N D _ (by omega) (by omega) (by omega) (by omega) hX hN hD).mono ?_; rintro e w5 ⟨rfl, hb5⟩; have r3 := Blk.below (Blk.drewN q3.out _) hb5; have rp := Blk.below (Blk.drewN qp.out _) hb5; have hB5 := (below_drewN hB1.out _).trans (hb5.mono hB1.out.size); have k0 : w5.cell? ⟨gp, 0, none⟩ = some (.int .u64 (x : Int)) := rp.cell 0; have k1 : w5.cell? ⟨gp, 1, none⟩ = some (.int .u64 (y : Int)) := rp.cell 1; replace r3 := Lib.hid r3; replace rp := Lib.hid rp; replace hB5 := Lib.hid hB5; clear hb5)
        | (go_at_call 59; refine (told_any N D _ hNs (by omega)).mono ?_; rintro e w6 ⟨rfl, hb6⟩; rw [hT.out]; have s3 := Blk.below r3.out hb6; have sp := Blk.below rp.out hb6; have hB6 := hB5.out.trans (hb6.mono hB5.out.size); have j0 : w6.cell? ⟨gp, 0, none⟩ = some (.int .u64 (x : Int)) := sp.cell 0; have j1 : w6.cell? ⟨gp, 1, none⟩ = some (.int .u64 (y : Int)) := sp.cell 1; have i0 : w6.cell? ⟨w.heap.size + 1, 0, none⟩ = some (.bool false) := s3.cell 0; have i1 : w6.cell? ⟨w.heap.size + 1, 1, none⟩ = some (.string ⟨#[]⟩) := s3.cell 1; have i2 : w6.cell? ⟨w.heap.size + 1, 2, none⟩ = some (.string ⟨#[]⟩) := s3.cell 2; have g0 := s3.frozen 0; have g1 := s3.frozen 1; have g2 := s3.frozen 2; replace hB6 := Lib.hid hB6; clear hb6 s3 sp))
    all_goals
      go_wp2
      refine bodyPost_ret (v := .tuple #[.agg #[.bool false, .string (natS N), .string (natS D)], .int .i64 0]) (by simp [results, Try.results25, go_sem, i0, i1, i2]) rfl ⟨by rw [hv.out], ?_⟩
      exact ((hB6.out.setCell (p := ⟨w.heap.size + 1, 0, none⟩) (by simp) _).setCell (p := ⟨w.heap.size + 1, 1, none⟩) (by simp) _).setCell (p := ⟨w.heap.size + 1, 2, none⟩) (by simp) _
end Go.Proofs.Ytciafmnideihjaa

namespace Go.Proofs.Ytciafmnideihjaa
open Go.RowKit

theorem turnsV_form (neg : Bool) (num den : ByteArray) (d n : Int) : ∃ s1 s2 e, turnsV neg num den d n = .tuple #[.agg #[.bool false, .string s1, .string s2], .int .i64 e] := by
  unfold turnsV ratV rat0
  split
  · split
    · exact ⟨_, _, _, rfl⟩
    · exact ⟨_, _, _, rfl⟩
  · exact ⟨_, _, _, rfl⟩

set_option maxRecDepth 100000 in
set_option maxHeartbeats 400000 in
/-- angle.Turn -/
theorem turn1_any (neg : Bool) (num den : ByteArray) (d : Int) (w : World) (z1 : num.size ≤ 9223372036854775807) (z2 : den.size ≤ 9223372036854775807) :
    Calls Try.prog 17 #[.agg #[.bool neg, .string num, .string den], .int .i64 d] w (RetVal (turnsV neg num den d 1) w) := by
  obtain ⟨s1, s2, c, hv⟩ := turnsV_form neg num den d 1
  replace hv := Lib.hid hv
  have hK2 := Blk.new (w.alloc (.cells #[.bool neg, .string num, .string den] 24)) 24 #[.bool false, .string ⟨#[]⟩, .string ⟨#[]⟩]
  have hBW : Below w.heap.size w ((w.alloc (.cells #[.bool neg, .string num, .string den] 24)).alloc (.cells #[.bool false, .string ⟨#[]⟩, .string ⟨#[]⟩] 24)) := ((Below.refl _ w).alloc (Nat.le_refl _) _).alloc (by simp) _
  rw [show (w.alloc (.cells #[.bool neg, .string num, .string den] 24)).heap.size = w.heap.size + 1 by simp] at hK2
  replace hK2 := Lib.hid hK2
  replace hBW := Lib.hid hBW
  go_enter Try.func17, Try.ntmps17
  go_wp2_with fail
  refine (turns_any neg num den d 1 _ z1 z2 (by omega)).mono ?_
  rintro e w1 ⟨rfl, hb⟩
  rw [hv.out]
  have r2 := Blk.below hK2.out hb
  have hB1 := hBW.out.trans (hb.mono (by simp; omega))
  have i0 : w1.cell? ⟨w.heap.size + 1, 0, none⟩ = some (.bool false) := r2.cell 0
  have i1 : w1.cell? ⟨w.heap.size + 1, 1, none⟩ = some (.string ⟨#[]⟩) := r2.cell 1
  have i2 : w1.cell? ⟨w.heap.size + 1, 2, none⟩ = some (.string ⟨#[]⟩) := r2.cell 2
  have f0 := r2.frozen 0
  have f1 := r2.frozen 1
  have f2 := r2.frozen 2
  replace hB1 := Lib.hid hB1
  clear hb r2
  go_wp2
  refine bodyPost_ret (v := .tuple #[.agg #[.bool false, .string s1, .string s2], .int .i64 c]) (by simp [results, Try.results17, go_sem, i0, i1, i2]) rfl ⟨by rw [hv.out], ?_⟩
  exact ((hB1.out.setCell (p := ⟨w.heap.size + 1, 0, none⟩) (by simp) _).setCell (p := ⟨w.heap.size + 1, 1, none⟩) (by simp) _).setCell (p := ⟨w.heap.size + 1, 2, none⟩) (by simp) _

/-- What Make tells. -/
def makeV (num den : Int) : Value :=
  if 1 ≤ den ∧ den ≤ 2147483647 then
    .tuple #[ratV ((num % den).toNat / Nat.gcd (num % den).toNat den.toNat) (den.toNat / Nat.gcd (num % den).toNat den.toNat), .int .i64 0]
  else .tuple #[rat0, .int .i64 2]

theorem tmod_cases (num den : Int) (h : 0 < den) : (num.tmod den < 0 ∧ num.tmod den + den = num % den) ∨ (0 ≤ num.tmod den ∧ num.tmod den = num % den) := by
  have h1 := Int.emod_nonneg num (by omega : den ≠ 0)
  have h2 := Int.emod_lt_of_pos num h
  rw [Int.tmod_eq_emod]
  split
  · right; omega
  · rename_i hh
    have h0 : num % den ≠ 0 := fun e => hh (Or.inr (Int.dvd_of_emod_eq_zero e))
    left; omega

set_option maxRecDepth 100000 in
set_option maxHeartbeats 1000000 in
/-- angle.Make -/
theorem make_any (num den : Int) (w : World) :
    Calls Try.prog 34 #[.int .i64 num, .int .i64 den] w (RetVal (makeV num den) w) := by
  by_cases h1 : den < 1
  · have hv : Hid (makeV num den = .tuple #[.agg #[.bool false, .string ⟨#[]⟩, .string ⟨#[]⟩], .int .i64 2]) := Lib.hid (by
      have : ¬ (1 ≤ den ∧ den ≤ 2147483647) := by omega
      simp [makeV, this, rat0])
    go_enter Try.func34, Try.ntmps34
    go_wp2
    refine bodyPost_ret (v := .tuple #[.agg #[.bool false, .string ⟨#[]⟩, .string ⟨#[]⟩], .int .i64 2]) (by simp [results, Try.results34, go_sem]) rfl ⟨by rw [hv.out], ?_⟩
    repeat (first | exact Below.refl _ _ | apply Below.drew | refine Below.setCell ?_ (by simp) _ | refine Below.alloc ?_ (by simp) _)
  by_cases h2 : 2147483647 < den
  · have hv : Hid (makeV num den = .tuple #[.agg #[.bool false, .string ⟨#[]⟩, .string ⟨#[]⟩], .int .i64 2]) := Lib.hid (by
      have : ¬ (1 ≤ den ∧ den ≤ 2147483647) := by omega
      simp [makeV, this, rat0])
    go_enter Try.func34, Try.ntmps34
    go_wp2
    refine bodyPost_ret (v := .tuple #[.agg #[.bool false, .string ⟨#[]⟩, .string ⟨#[]⟩], .int .i64 2]) (by simp [results, Try.results34, go_sem]) rfl ⟨by rw [hv.out], ?_⟩
    repeat (first | exact Below.refl _ _ | apply Below.drew | refine Below.setCell ?_ (by simp) _ | refine Below.alloc ?_ (by simp) _)
  obtain ⟨b, rfl⟩ := Int.eq_ofNat_of_zero_le (show 0 ≤ den by omega)
  have hb1 : 0 < b := by omega
  have hbs : b ≤ 2147483647 := by omega
  have hX0 := Int.emod_nonneg num (by omega : (b : Int) ≠ 0)
  have hXb := Int.emod_lt_of_pos num (show (0 : Int) < (b : Int) by omega)
  obtain ⟨X, hX⟩ := Int.eq_ofNat_of_zero_le hX0
  have hXs : X < b := by omega
  obtain ⟨N, hN⟩ : ∃ N, N = X / Nat.gcd X b := ⟨_, rfl⟩
  obtain ⟨D, hD⟩ : ∃ D, D = b / Nat.gcd X b := ⟨_, rfl⟩
  have hDs : D ≤ 2147483647 := by rw [hD]; exact Nat.le_trans (Nat.div_le_self _ _) hbs
  have hNs : N ≤ 2147483647 := by
    have : N ≤ X := by rw [hN]; exact Nat.div_le_self _ _
    omega
  have hv : Hid (makeV num (b : Int) = .tuple #[.agg #[.bool false, .string (natS N), .string (natS D)], .int .i64 0]) := Lib.hid (by
    have : (1 : Int) ≤ (b : Int) ∧ (b : Int) ≤ 2147483647 := by omega
    simp only [makeV, this, and_self, if_true, hX, Int.toNat_natCast, ratV]
    rw [hN, hD])
  have hT : Hid (toldV N D = .tuple #[.agg #[.bool false, .string (natS N), .string (natS D)], .int .i64 0]) := Lib.hid (by simp [toldV, hDs, ratV])
  have hc := tmod_cases num (b : Int) (by omega)
  rw [hX] at hc
  obtain ⟨R, hR⟩ : ∃ R, R = num.tmod (b : Int) := ⟨_, rfl⟩
  rw [← hR] at hc
  have hRi : num.tmod (b : Int) = R := hR.symm
  replace hN := Lib.hid hN
  replace hD := Lib.hid hD
  have hbI : (1 : Int) ≤ (b : Int) := by omega
  have hbI2 : (b : Int) ≤ 2147483647 := by omega
  have hK2 := Blk.new w 24 #[.bool false, .string ⟨#[]⟩, .string ⟨#[]⟩]
  have hBW : Below w.heap.size w (w.alloc (.cells #[.bool false, .string ⟨#[]⟩, .string ⟨#[]⟩] 24)) := (Below.refl _ w).alloc (Nat.le_refl _) _
  replace hK2 := Lib.hid hK2
  replace hBW := Lib.hid hBW
  clear hX hX0 hXb hR
  rcases hc with ⟨hneg, hsum⟩ | ⟨hpos, hsum⟩
  · skip
    go_enter Try.func34, Try.ntmps34
    go_wp2_with fail
    refine (lowest_any X b N D _ (by omega) (by omega) hb1 hN hD).mono ?_
    rintro e w1 ⟨rfl, hb⟩
    have r2 := Blk.below hK2.out hb
    have hB1 := hBW.out.trans (hb.mono (by simp))
    replace r2 := Lib.hid r2
    replace hB1 := Lib.hid hB1
    clear hb
    go_wp2_with fail
    refine (told_any N D _ (by omega) (by omega)).mono ?_
    rintro e w2 ⟨rfl, hb⟩
    rw [hT.out]
    have r3 := Blk.below r2.out hb
    have hB2 := hB1.out.trans (hb.mono hB1.out.size)
    have i0 : w2.cell? ⟨w.heap.size, 0, none⟩ = some (.bool false) := r3.cell 0
    have i1 : w2.cell? ⟨w.heap.size, 1, none⟩ = some (.string ⟨#[]⟩) := r3.cell 1
    have i2 : w2.cell? ⟨w.heap.size, 2, none⟩ = some (.string ⟨#[]⟩) := r3.cell 2
    have f0 := r3.frozen 0
    have f1 := r3.frozen 1
    have f2 := r3.frozen 2
    replace hB2 := Lib.hid hB2
    clear hb r3
    go_wp2
    refine bodyPost_ret (v := .tuple #[.agg #[.bool false, .string (natS N), .string (natS D)], .int .i64 0]) (by simp [results, Try.results34, go_sem, i0, i1, i2]) rfl ⟨by rw [hv.out], ?_⟩
    exact ((hB2.out.setCell (p := ⟨w.heap.size, 0, none⟩) (by simp) _).setCell (p := ⟨w.heap.size, 1, none⟩) (by simp) _).setCell (p := ⟨w.heap.size, 2, none⟩) (by simp) _
  · subst hsum
    go_enter Try.func34, Try.ntmps34
    go_wp2_with fail
    refine (lowest_any X b N D _ (by omega) (by omega) hb1 hN hD).mono ?_
    rintro e w1 ⟨rfl, hb⟩
    have r2 := Blk.below hK2.out hb
    have hB1 := hBW.out.trans (hb.mono (by simp))
    replace r2 := Lib.hid r2
    replace hB1 := Lib.hid hB1
    clear hb
    go_wp2_with fail
    refine (told_any N D _ (by omega) (by omega)).mono ?_
    rintro e w2 ⟨rfl, hb⟩
    rw [hT.out]
    have r3 := Blk.below r2.out hb
    have hB2 := hB1.out.trans (hb.mono hB1.out.size)
    have i0 : w2.cell? ⟨w.heap.size, 0, none⟩ = some (.bool false) := r3.cell 0
    have i1 : w2.cell? ⟨w.heap.size, 1, none⟩ = some (.string ⟨#[]⟩) := r3.cell 1
    have i2 : w2.cell? ⟨w.heap.size, 2, none⟩ = some (.string ⟨#[]⟩) := r3.cell 2
    have f0 := r3.frozen 0
    have f1 := r3.frozen 1
    have f2 := r3.frozen 2
    replace hB2 := Lib.hid hB2
    clear hb r3
    go_wp2
    refine bodyPost_ret (v := .tuple #[.agg #[.bool false, .string (natS N), .string (natS D)], .int .i64 0]) (by simp [results, Try.results34, go_sem, i0, i1, i2]) rfl ⟨by rw [hv.out], ?_⟩
    exact ((hB2.out.setCell (p := ⟨w.heap.size, 0, none⟩) (by simp) _).setCell (p := ⟨w.heap.size, 1, none⟩) (by simp) _).setCell (p := ⟨w.heap.size, 2, none⟩) (by simp) _
end Go.Proofs.Ytciafmnideihjaa
