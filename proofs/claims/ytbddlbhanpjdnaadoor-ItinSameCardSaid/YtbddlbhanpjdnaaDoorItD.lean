/- Package itin: Differ. · Package filigreeref22: Differ. · filigreelaw22.ItinDiffers: the walk. -/
import Derived.Test.YtbddlbhanpjdnaaDoorAdr
import Derived.Test.YtbddlbhanpjdnaaDoorRowQ
namespace Go.Proofs.YtbddlbhanpjdnaaDoor
open Go.RowKit Go.Sort

/-- What Differ tells. -/
def difN (P Q P' Q' : List Nat) : Nat := (difO P Q P' Q').getD 0
def difB (P Q P' Q' : List Nat) : Bool := (difO P Q P' Q').isSome
def difE (P Q P' Q' : List Nat) : Int := if mayI P Q && mayI P' Q' then 0 else 220
def difV (P Q P' Q' : List Nat) : Value := if mayI P Q && mayI P' Q' then .tuple #[.int .i64 ((difN P Q P' Q' : Nat) : Int), .bool (difB P Q P' Q'), .int .i64 0] else .tuple #[.int .i64 0, .bool false, .int .i64 220]

set_option maxRecDepth 100000 in
set_option maxHeartbeats 2000000 in
/-- itin.Differ -/
theorem iDiffer_any (a b c d : Value) (P Q P' Q' : List Nat) (w : World) (h : Itn w a b P Q) (k : Itn w c d P' Q') :
    Calls Tryd.prog 21 #[.agg #[a, b], .agg #[c, d]] w (RetVal (difV P Q P' Q') w) := by
  obtain ⟨v, hv⟩ : ∃ v, v = difV P Q P' Q' := ⟨_, rfl⟩
  rw [← hv]
  obtain ⟨⟨A1, n1, c1, T1, rfl, h1⟩, ⟨A2, n2, c2, T2, rfl, h2⟩, s1, s2, l1, l2⟩ := h
  obtain ⟨⟨A3, n3, c3, T3, rfl, h3⟩, ⟨A4, n4, c4, T4, rfl, h4⟩, s3, s4, l3, l4⟩ := k
  obtain ⟨r, hr⟩ : ∃ r, r = chkE P Q := ⟨_, rfl⟩
  obtain ⟨r', hr'⟩ : ∃ r, r = chkE P' Q' := ⟨_, rfl⟩
  have hBW : Below w.heap.size w ((w.alloc (.cells #[.slice A1 n1 c1, .slice A2 n2 c2] 28)).alloc (.cells #[.slice A3 n3 c3, .slice A4 n4 c4] 28)) := ((Below.refl _ w).alloc (Nat.le_refl _) _).alloc (by simp) _
  have k0 := (Blk.new w 28 #[.slice A1 n1 c1, .slice A2 n2 c2]).alloc (.cells #[.slice A3 n3 c3, .slice A4 n4 c4] 28)
  have k1 := Blk.new (w.alloc (.cells #[.slice A1 n1 c1, .slice A2 n2 c2] 28)) 28 #[.slice A3 n3 c3, .slice A4 n4 c4]
  rw [show (w.alloc (.cells #[.slice A1 n1 c1, .slice A2 n2 c2] 28)).heap.size = w.heap.size + 1 by simp] at k1
  have hC := fun W h1 h2 => iCheck_any (T1 := T1) (T2 := T2) A1 A2 n1 c1 n2 c2 P Q W h1 h2 s1 s2 l1 l2
  have hC' := fun W h1 h2 => iCheck_any (T1 := T3) (T2 := T4) A3 A4 n3 c3 n4 c4 P' Q' W h1 h2 s3 s4 l3 l4
  rw [← hr] at hC
  rw [← hr'] at hC'
  have hat : mayI P Q = true → ∀ (k : Nat), k ≤ 1000000 → ∀ W h1 h2, Calls Tryd.prog 40 #[.agg #[.slice A1 n1 c1, .slice A2 n2 c2], .int .i64 (k : Int)] W (RetVal (.int .u8 ((rowAt P Q k : Nat) : Int)) W) := fun hm k hk W h1 h2 => by
    obtain ⟨m1, m2, -, -⟩ := mayI_spec hm
    exact iat_any (T1 := T1) (T2 := T2) A1 A2 n1 c1 n2 c2 k P Q W h1 h2 m1 (by omega) (by omega) (by omega)
  have hat' : mayI P' Q' = true → ∀ (k : Nat), k ≤ 1000000 → ∀ W h1 h2, Calls Tryd.prog 40 #[.agg #[.slice A3 n3 c3, .slice A4 n4 c4], .int .i64 (k : Int)] W (RetVal (.int .u8 ((rowAt P' Q' k : Nat) : Int)) W) := fun hm k hk W h1 h2 => by
    obtain ⟨m1, m2, -, -⟩ := mayI_spec hm
    exact iat_any (T1 := T3) (T2 := T4) A3 A4 n3 c3 n4 c4 k P' Q' W h1 h2 m1 (by omega) (by omega) (by omega)
  have e1 := (rd_cells h1).1
  have e2 := (rd_cells h2).1
  have e3 := (rd_cells h3).1
  have e4 := (rd_cells h4).1
  have hR1 := Lib.hid h1
  have hR2 := Lib.hid h2
  have hR3 := Lib.hid h3
  have hR4 := Lib.hid h4
  replace hBW := Lib.hid hBW
  replace k0 := Lib.hid k0
  replace k1 := Lib.hid k1
  replace hC := Lib.hid hC
  replace hC' := Lib.hid hC'
  replace hat := Lib.hid hat
  replace hat' := Lib.hid hat'
  replace hr := Lib.hid hr
  replace hr' := Lib.hid hr'
  replace hv := Lib.hid hv
  replace e1 := Lib.hid e1
  replace e2 := Lib.hid e2
  replace e3 := Lib.hid e3
  replace e4 := Lib.hid e4
  clear h1 h2 h3 h4 s1 s2 s3 s4 l1 l2 l3 l4
  go_enter Tryd.func21, Tryd.ntmps21
  go_wp2_with fail
  refine (hC.out _ (hR1.out.below hBW.out) (hR2.out.below hBW.out)).mono ?_
  rintro en w1 ⟨rfl, hb⟩
  have hB1 := Lib.hid (hBW.out.trans (hb.mono hBW.out.size))
  have i0 := Lib.hid (Blk.below k0.out hb)
  have i1 := Lib.hid (Blk.below k1.out hb)
  clear hb hBW k0 k1 hC
  cases hm : mayI P Q
  · obtain rfl : r = 220 := by rw [hr.out]; exact mayI_no hm
    have hv2 : Hid (v = .tuple #[.int .i64 0, .bool false, .int .i64 220]) := Lib.hid (by rw [hv.out, difV, hm]; rfl)
    clear hm hv hat hat'
    go_wp2_with fail
    go_ret3
    exact ⟨by rw [hv2.out]; rfl, hB1.out⟩
  · obtain rfl : r = 0 := by rw [hr.out]; exact mayI_yes hm
    have m0 : w1.cell? ⟨w.heap.size + 1, 0, none⟩ = some (.slice A3 n3 c3) := i1.out.cell 0
    have m1 : w1.cell? ⟨w.heap.size + 1, 1, none⟩ = some (.slice A4 n4 c4) := i1.out.cell 1
    have hatP := Lib.hid (hat.out hm)
    clear hat
    go_wp2_with fail
    refine (hC'.out _ (hR3.out.below hB1.out) (hR4.out.below hB1.out)).mono ?_
    rintro en w2 ⟨rfl, hb⟩
    have hB2 := hB1.out.trans (hb.mono hB1.out.size)
    have j0 := Blk.below i0.out hb
    have j1 := Blk.below i1.out hb
    clear hb hB1 i0 i1 m0 m1 hC'
    cases hm' : mayI P' Q'
    · obtain rfl : r' = 220 := by rw [hr'.out]; exact mayI_no hm'
      have hv2 : Hid (v = .tuple #[.int .i64 0, .bool false, .int .i64 220]) := Lib.hid (by rw [hv.out, difV, hm, hm']; rfl)
      clear hm hm' hv hat' hatP
      replace hB2 := Lib.hid hB2
      go_wp2_with fail
      go_ret3
      exact ⟨by rw [hv2.out]; rfl, hB2.out⟩
    · obtain rfl : r' = 0 := by rw [hr'.out]; exact mayI_yes hm'
      have hatQ := Lib.hid (hat'.out hm')
      obtain ⟨p1, p2, -, -⟩ := mayI_spec hm
      obtain ⟨p3, p4, -, -⟩ := mayI_spec hm'
      rw [← e2.out] at p1
      rw [← e4.out] at p3
      rw [← e1.out, ← e2.out] at p2
      rw [← e3.out, ← e4.out] at p4
      obtain ⟨o, ho⟩ : ∃ o, o = difO P Q P' Q' := ⟨_, rfl⟩
      have hv2 : Hid (v = .tuple #[.int .i64 ((o.getD 0 : Nat) : Int), .bool o.isSome, .int .i64 0]) := Lib.hid (by rw [hv.out, difV, hm, hm', difN, difB, ← ho]; rfl)
      rw [difO, ← e1.out, ← e2.out, ← e3.out, ← e4.out] at ho
      clear hm hm' hv hat'
      have g0 : w2.cell? ⟨w.heap.size, 0, none⟩ = some (.slice A1 n1 c1) := j0.cell 0
      have g1 : w2.cell? ⟨w.heap.size, 1, none⟩ = some (.slice A2 n2 c2) := j0.cell 1
      have g2 : w2.cell? ⟨w.heap.size + 1, 0, none⟩ = some (.slice A3 n3 c3) := j1.cell 0
      have g3 : w2.cell? ⟨w.heap.size + 1, 1, none⟩ = some (.slice A4 n4 c4) := j1.cell 1
      obtain ⟨M, hM⟩ : ∃ M, M = max n1 n3 := ⟨_, rfl⟩
      rw [← hM] at ho
      have hMI : max (n1 : Int) (n3 : Int) = (M : Int) := by rw [hM]; omega
      have hM9 : M ≤ 4096 := by omega
      have hpos : (0 : Int) < (M : Int) + (n2 : Int) + (n4 : Int) := by omega
      replace ho := Lib.hid ho
      replace hM := Lib.hid hM
      go_wp2_with fail
      go_loopw [7, 31] (fun _ iv wr => ∃ i : Nat, iv = .int .i64 (i : Int) ∧ i ≤ M + n2 + n4 ∧ o = difF P Q P' Q' (M + n2 + n4 - i) i ∧ Blk wr w.heap.size 28 #[.slice A1 n1 c1, .slice A2 n2 c2] ∧ Blk wr (w.heap.size + 1) 28 #[.slice A3 n3 c3, .slice A4 n4 c4] ∧ Below w.heap.size w wr) (fun _ iv _ => M + n2 + n4 - (intOf iv).toNat)
      case atStart => exact ⟨0, rfl, Nat.zero_le _, ho.out, j0, j1, hB2⟩
      case round =>
        clear g0 g1 g2 g3 j0 j1 hB2
        obtain ⟨i, rfl, hi, hoi, j0, j1, hB⟩ := hrel
        replace hoi := Lib.hid hoi
        by_cases h0 : i < M + n2 + n4
        · have h0I : (i : Int) < (M : Int) + (n2 : Int) + (n4 : Int) := by omega
          obtain ⟨x, hx⟩ : ∃ x, x = rowAt P Q i := ⟨_, rfl⟩
          obtain ⟨y, hy⟩ : ∃ y, y = rowAt P' Q' i := ⟨_, rfl⟩
          have m0 : ∀ d os, (grow (redrawn wr d) os).cell? ⟨w.heap.size, 0, none⟩ = some (.slice A1 n1 c1) := cell_regrown (Blk.cell j0 0)
          have m1 : ∀ d os, (grow (redrawn wr d) os).cell? ⟨w.heap.size, 1, none⟩ = some (.slice A2 n2 c2) := cell_regrown (Blk.cell j0 1)
          have m2 : ∀ d os, (grow (redrawn wr d) os).cell? ⟨w.heap.size + 1, 0, none⟩ = some (.slice A3 n3 c3) := cell_regrown (Blk.cell j1 0)
          have m3 : ∀ d os, (grow (redrawn wr d) os).cell? ⟨w.heap.size + 1, 1, none⟩ = some (.slice A4 n4 c4) := cell_regrown (Blk.cell j1 1)
          have hi9 : i ≤ 1000000 := by omega
          have cx : ∀ d os, Calls Tryd.prog 40 #[.agg #[.slice A1 n1 c1, .slice A2 n2 c2], .int .i64 (i : Int)] (grow (redrawn wr d) os) fun e w'' => e = .returned (.int .u8 (x : Int)) ∧ ∃ p : Regrown, w'' = grow (redrawn wr p.d) p.os :=
            fun d os => Calls.regrown_of (by
              rw [hx]
              have hb := hB.trans ((below_regrown wr d os).mono hB.size)
              exact hatP.out i hi9 _ (hR1.out.below hb) (hR2.out.below hb))
          have cy : ∀ d os, Calls Tryd.prog 40 #[.agg #[.slice A3 n3 c3, .slice A4 n4 c4], .int .i64 (i : Int)] (grow (redrawn wr d) os) fun e w'' => e = .returned (.int .u8 (y : Int)) ∧ ∃ p : Regrown, w'' = grow (redrawn wr p.d) p.os :=
            fun d os => Calls.regrown_of (by
              rw [hy]
              have hb := hB.trans ((below_regrown wr d os).mono hB.size)
              exact hatQ.out i hi9 _ (hR3.out.below hb) (hR4.out.below hb))
          replace hx := Lib.hid hx
          replace hy := Lib.hid hy
          clear hi9
          go_upto_region 6 with fail
          refine wp_region_quiet_below (by kernel_rfl) (by kernel_rfl) ?_
          iterate 2 (quiet_step (fail))
          quiet_step (exact cx _ _)
          iterate 2 (quiet_step (fail))
          quiet_step (exact cy _ _)
          iterate 1 (quiet_step (fail))
          refine wpQuiet_nil ?_
          intro q5 hw'
          have hb : Below wr.heap.size wr q5 := by
            obtain ⟨p, rfl⟩ := hw'
            exact below_regrown wr p.d p.os
          clear hw' cx cy m0 m1 m2 m3
          have jj0 := Lib.hid (Blk.below j0 hb)
          have jj1 := Lib.hid (Blk.below j1 hb)
          have kB := Lib.hid (hB.trans (hb.mono hB.size))
          clear hb j0 j1 hB
          have hfu : M + n2 + n4 - i = (M + n2 + n4 - (i + 1)) + 1 := by omega
          by_cases hxy : x = y
          · have ho2 : Hid (o = difF P Q P' Q' (M + n2 + n4 - (i + 1)) (i + 1)) := Lib.hid (by rw [hoi.out, hfu, difF, if_neg (by rw [← hx.out, ← hy.out]; simp [hxy])])
            subst hxy
            clear hoi
            go_wp2_with fail
            go_roundw
            case rel => exact ⟨i + 1, by go_num, by omega, ho2.out, jj0.out, jj1.out, kB.out⟩
            case measure => simp [intOf]; omega
          · have ho2 : Hid (o = some i) := Lib.hid (by rw [hoi.out, hfu, difF, if_pos (by rw [← hx.out, ← hy.out]; exact hxy)])
            have hxyI : ¬ (x : Int) = (y : Int) := by omega
            clear hoi
            go_wp2_with fail
            go_ret3
            exact ⟨by rw [hv2.out, ho2.out]; rfl, kB.out⟩
        · obtain rfl : i = M + n2 + n4 := by omega
          have ho2 : Hid (o = none) := Lib.hid (by rw [hoi.out, Nat.sub_self]; rfl)
          have h0I : ¬ ((M + n2 + n4 : Nat) : Int) < (M : Int) + (n2 : Int) + (n4 : Int) := by omega
          replace hB := Lib.hid hB
          clear hoi j0 j1
          go_wp2_with fail
          go_ret3
          exact ⟨by rw [hv2.out, ho2.out]; rfl, hB.out⟩

set_option maxRecDepth 100000 in
set_option maxHeartbeats 2000000 in
/-- filigreeref22.Differ -/
theorem rDiffer_any (a b c d : Value) (P Q P' Q' : List Nat) (w : World) (h : Itn w a b P Q) (k : Itn w c d P' Q') (hm : mayI P Q = true) (hm' : mayI P' Q' = true) :
    Calls Tryd.prog 22 #[.agg #[a, b], .agg #[c, d]] w (RetVal (.tuple #[.int .i64 ((difN P Q P' Q' : Nat) : Int), .bool (difB P Q P' Q')]) w) := by
  obtain ⟨⟨A1, n1, c1, T1, rfl, h1⟩, ⟨A2, n2, c2, T2, rfl, h2⟩, -, -, -, -⟩ := h
  obtain ⟨⟨A3, n3, c3, T3, rfl, h3⟩, ⟨A4, n4, c4, T4, rfl, h4⟩, -, -, -, -⟩ := k
  have hBW : Below w.heap.size w ((w.alloc (.cells #[.slice A1 n1 c1, .slice A2 n2 c2] 28)).alloc (.cells #[.slice A3 n3 c3, .slice A4 n4 c4] 28)) := ((Below.refl _ w).alloc (Nat.le_refl _) _).alloc (by simp) _
  have k0 := (Blk.new w 28 #[.slice A1 n1 c1, .slice A2 n2 c2]).alloc (.cells #[.slice A3 n3 c3, .slice A4 n4 c4] 28)
  have k1 := Blk.new (w.alloc (.cells #[.slice A1 n1 c1, .slice A2 n2 c2] 28)) 28 #[.slice A3 n3 c3, .slice A4 n4 c4]
  rw [show (w.alloc (.cells #[.slice A1 n1 c1, .slice A2 n2 c2] 28)).heap.size = w.heap.size + 1 by simp] at k1
  obtain ⟨p1, p2, -, -⟩ := mayI_spec hm
  obtain ⟨p3, p4, -, -⟩ := mayI_spec hm'
  have hatP : ∀ (k : Nat), k ≤ 1000000 → ∀ W h1 h2, Calls Tryd.prog 42 #[.agg #[.slice A1 n1 c1, .slice A2 n2 c2], .int .i64 (k : Int)] W (RetVal (.int .u8 ((rowAt P Q k : Nat) : Int)) W) := fun k hk W h1 h2 =>
    ritat_any (T1 := T1) (T2 := T2) A1 A2 n1 c1 n2 c2 k P Q W h1 h2 p1 (by omega) (by omega) (by omega)
  have hatQ : ∀ (k : Nat), k ≤ 1000000 → ∀ W h1 h2, Calls Tryd.prog 42 #[.agg #[.slice A3 n3 c3, .slice A4 n4 c4], .int .i64 (k : Int)] W (RetVal (.int .u8 ((rowAt P' Q' k : Nat) : Int)) W) := fun k hk W h1 h2 =>
    ritat_any (T1 := T3) (T2 := T4) A3 A4 n3 c3 n4 c4 k P' Q' W h1 h2 p3 (by omega) (by omega) (by omega)
  obtain ⟨o, ho⟩ : ∃ o, o = difO P Q P' Q' := ⟨_, rfl⟩
  have hv2 : Hid ((Value.tuple #[.int .i64 ((difN P Q P' Q' : Nat) : Int), .bool (difB P Q P' Q')]) = .tuple #[.int .i64 ((o.getD 0 : Nat) : Int), .bool o.isSome]) := Lib.hid (by rw [difN, difB, ← ho])
  obtain ⟨v, hv⟩ : ∃ v, v = (Value.tuple #[.int .i64 ((difN P Q P' Q' : Nat) : Int), .bool (difB P Q P' Q')]) := ⟨_, rfl⟩
  rw [← hv] at hv2 ⊢
  rw [← (rd_cells h1).1, ← (rd_cells h2).1] at p2
  rw [← (rd_cells h3).1, ← (rd_cells h4).1] at p4
  rw [difO, ← (rd_cells h1).1, ← (rd_cells h2).1, ← (rd_cells h3).1, ← (rd_cells h4).1] at ho
  obtain ⟨M, hM⟩ : ∃ M, M = max n1 n3 := ⟨_, rfl⟩
  rw [← hM] at ho
  have hMI : max (n1 : Int) (n3 : Int) = (M : Int) := by rw [hM]; omega
  have hM9 : M ≤ 4096 := by omega
  have hR1 := Lib.hid h1
  have hR2 := Lib.hid h2
  have hR3 := Lib.hid h3
  have hR4 := Lib.hid h4
  replace hatP := Lib.hid hatP
  replace hatQ := Lib.hid hatQ
  replace hBW := Lib.hid hBW
  replace ho := Lib.hid ho
  replace hM := Lib.hid hM
  replace hv := Lib.hid hv
  clear h1 h2 h3 h4 hm hm' p1 p3
  go_enter Tryd.func22, Tryd.ntmps22
  go_wp2_with fail
  go_loopw [7] (fun iv wr => ∃ i : Nat, iv = .int .i64 (i : Int) ∧ i ≤ M + n2 + n4 ∧ o = difF P Q P' Q' (M + n2 + n4 - i) i ∧ Blk wr w.heap.size 28 #[.slice A1 n1 c1, .slice A2 n2 c2] ∧ Blk wr (w.heap.size + 1) 28 #[.slice A3 n3 c3, .slice A4 n4 c4] ∧ Below w.heap.size w wr) (fun iv _ => M + n2 + n4 - (intOf iv).toNat)
  case atStart => exact ⟨0, rfl, Nat.zero_le _, ho.out, k0, k1, hBW.out⟩
  case round =>
    clear k0 k1
    obtain ⟨i, rfl, hi, hoi, j0, j1, hB⟩ := hrel
    replace hoi := Lib.hid hoi
    by_cases h0 : i < M + n2 + n4
    · have h0I : (i : Int) < (M : Int) + (n2 : Int) + (n4 : Int) := by omega
      obtain ⟨x, hx⟩ : ∃ x, x = rowAt P Q i := ⟨_, rfl⟩
      obtain ⟨y, hy⟩ : ∃ y, y = rowAt P' Q' i := ⟨_, rfl⟩
      have m0 : ∀ d os, (grow (redrawn wr d) os).cell? ⟨w.heap.size, 0, none⟩ = some (.slice A1 n1 c1) := cell_regrown (Blk.cell j0 0)
      have m1 : ∀ d os, (grow (redrawn wr d) os).cell? ⟨w.heap.size, 1, none⟩ = some (.slice A2 n2 c2) := cell_regrown (Blk.cell j0 1)
      have m2 : ∀ d os, (grow (redrawn wr d) os).cell? ⟨w.heap.size + 1, 0, none⟩ = some (.slice A3 n3 c3) := cell_regrown (Blk.cell j1 0)
      have m3 : ∀ d os, (grow (redrawn wr d) os).cell? ⟨w.heap.size + 1, 1, none⟩ = some (.slice A4 n4 c4) := cell_regrown (Blk.cell j1 1)
      have hi9 : i ≤ 1000000 := by omega
      have cx : ∀ d os, Calls Tryd.prog 42 #[.agg #[.slice A1 n1 c1, .slice A2 n2 c2], .int .i64 (i : Int)] (grow (redrawn wr d) os) fun e w'' => e = .returned (.int .u8 (x : Int)) ∧ ∃ p : Regrown, w'' = grow (redrawn wr p.d) p.os :=
        fun d os => Calls.regrown_of (by
          rw [hx]
          have hb := hB.trans ((below_regrown wr d os).mono hB.size)
          exact hatP.out i hi9 _ (hR1.out.below hb) (hR2.out.below hb))
      have cy : ∀ d os, Calls Tryd.prog 42 #[.agg #[.slice A3 n3 c3, .slice A4 n4 c4], .int .i64 (i : Int)] (grow (redrawn wr d) os) fun e w'' => e = .returned (.int .u8 (y : Int)) ∧ ∃ p : Regrown, w'' = grow (redrawn wr p.d) p.os :=
        fun d os => Calls.regrown_of (by
          rw [hy]
          have hb := hB.trans ((below_regrown wr d os).mono hB.size)
          exact hatQ.out i hi9 _ (hR3.out.below hb) (hR4.out.below hb))
      replace hx := Lib.hid hx
      replace hy := Lib.hid hy
      clear hi9
      go_upto_region 5 with fail
      refine wp_region_quiet_below (by kernel_rfl) (by kernel_rfl) ?_
      iterate 2 (quiet_step (fail))
      quiet_step (exact cx _ _)
      iterate 2 (quiet_step (fail))
      quiet_step (exact cy _ _)
      iterate 1 (quiet_step (fail))
      refine wpQuiet_nil ?_
      intro q5 hw'
      have hb : Below wr.heap.size wr q5 := by
        obtain ⟨p, rfl⟩ := hw'
        exact below_regrown wr p.d p.os
      clear hw' cx cy m0 m1 m2 m3
      have jj0 := Lib.hid (Blk.below j0 hb)
      have jj1 := Lib.hid (Blk.below j1 hb)
      have kB := Lib.hid (hB.trans (hb.mono hB.size))
      clear hb j0 j1 hB
      have hfu : M + n2 + n4 - i = (M + n2 + n4 - (i + 1)) + 1 := by omega
      by_cases hxy : x = y
      · have ho2 : Hid (o = difF P Q P' Q' (M + n2 + n4 - (i + 1)) (i + 1)) := Lib.hid (by rw [hoi.out, hfu, difF, if_neg (by rw [← hx.out, ← hy.out]; simp [hxy])])
        subst hxy
        clear hoi
        go_wp2_with fail
        go_roundw
        case rel => exact ⟨i + 1, by go_num, by omega, ho2.out, jj0.out, jj1.out, kB.out⟩
        case measure => simp [intOf]; omega
      · have ho2 : Hid (o = some i) := Lib.hid (by rw [hoi.out, hfu, difF, if_pos (by rw [← hx.out, ← hy.out]; exact hxy)])
        have hxyI : ¬ (x : Int) = (y : Int) := by omega
        clear hoi
        go_wp2_with fail
        go_ret2
        exact ⟨by rw [hv2.out, ho2.out]; rfl, kB.out⟩
    · obtain rfl : i = M + n2 + n4 := by omega
      have ho2 : Hid (o = none) := Lib.hid (by rw [hoi.out, Nat.sub_self]; rfl)
      have h0I : ¬ ((M + n2 + n4 : Nat) : Int) < (M : Int) + (n2 : Int) + (n4 : Int) := by omega
      replace hB := Lib.hid hB
      clear hoi j0 j1
      go_wp2_with fail
      go_ret2
      exact ⟨by rw [hv2.out, ho2.out]; rfl, hB.out⟩

set_option maxRecDepth 100000 in
set_option maxHeartbeats 2000000 in
/-- filigreelaw22.ItinDiffers -/
theorem itinDiffers_any (a b : Value) (P Q : List Nat) (c d : Value) (P' Q' : List Nat) (w : World) (h : Itn w a b P Q) (k : Itn w c d P' Q') :
    Calls Tryd.prog 6 #[.agg #[a, b], .agg #[c, d]] w (RetVal (.bool true) w) := by
  have hI0 := h
  have hJ0 := k
  obtain ⟨⟨A1, n1, c1, T1, rfl, -⟩, ⟨A2, n2, c2, T2, rfl, -⟩, -, -, -, -⟩ := h
  obtain ⟨⟨A3, n3, c3, T3, rfl, -⟩, ⟨A4, n4, c4, T4, rfl, -⟩, -, -, -, -⟩ := k
  have hBW : Below w.heap.size w ((w.alloc (.cells #[.slice A1 n1 c1, .slice A2 n2 c2] 28)).alloc (.cells #[.slice A3 n3 c3, .slice A4 n4 c4] 28)) := ((Below.refl _ w).alloc (Nat.le_refl _) _).alloc (by simp) _
  have k0 := Lib.hid ((Blk.new w 28 #[.slice A1 n1 c1, .slice A2 n2 c2]).alloc (.cells #[.slice A3 n3 c3, .slice A4 n4 c4] 28))
  have k1 := Blk.new (w.alloc (.cells #[.slice A1 n1 c1, .slice A2 n2 c2] 28)) 28 #[.slice A3 n3 c3, .slice A4 n4 c4]
  rw [show (w.alloc (.cells #[.slice A1 n1 c1, .slice A2 n2 c2] 28)).heap.size = w.heap.size + 1 by simp] at k1
  obtain ⟨n, ok, e, hv⟩ : ∃ (n : Nat) (ok : Bool) (e : Int), difV P Q P' Q' = .tuple #[.int .i64 (n : Int), .bool ok, .int .i64 e] := by
    unfold difV
    split
    · exact ⟨_, _, _, rfl⟩
    · exact ⟨0, _, _, rfl⟩
  have hI : ∀ W, Below w.heap.size w W → Itn W _ _ P Q := fun W hb => hI0.below hb
  have hJ : ∀ W, Below w.heap.size w W → Itn W _ _ P' Q' := fun W hb => hJ0.below hb
  replace hI := Lib.hid hI
  replace hJ := Lib.hid hJ
  replace hBW := Lib.hid hBW
  replace k1 := Lib.hid k1
  replace hv := Lib.hid hv
  clear hI0 hJ0
  go_enter Tryd.func6, Tryd.ntmps6
  go_wp2_with fail
  refine (iDiffer_any _ _ _ _ P Q P' Q' _ (hI.out _ hBW.out) (hJ.out _ hBW.out)).mono ?_
  rintro en w1 ⟨rfl, hb⟩
  rw [hv.out]
  have hB1 := Lib.hid (hBW.out.trans (hb.mono hBW.out.size))
  have i0 := Lib.hid (Blk.below k0.out hb)
  have i1 := Lib.hid (Blk.below k1.out hb)
  clear hb hBW k0 k1
  have m0 : w1.cell? ⟨w.heap.size, 0, none⟩ = some (.slice A1 n1 c1) := i0.out.cell 0
  have m1 : w1.cell? ⟨w.heap.size, 1, none⟩ = some (.slice A2 n2 c2) := i0.out.cell 1
  go_wp2_with fail
  refine (ritmay_any _ _ P Q _ (hI.out _ hB1.out)).mono ?_
  rintro en w2 ⟨rfl, hb⟩
  have hB2 := Lib.hid (hB1.out.trans (hb.mono hB1.out.size))
  have j0 := Lib.hid (Blk.below i0.out hb)
  have j1 := Lib.hid (Blk.below i1.out hb)
  clear hb hB1 i0 i1 m0 m1
  cases hm : mayI P Q
  · have hv2 : Hid (n = 0 ∧ ok = false ∧ e = 220) := Lib.hid (by
      have h1 := hv.out
      rw [difV, hm] at h1
      simp at h1
      exact ⟨by omega, h1.2.1, h1.2.2.symm⟩)
    obtain ⟨rfl, rfl, rfl⟩ := hv2.out
    clear hm hv hv2
    go_wp2_with fail
    refine (lives_any _).mono ?_
    rintro en w5 ⟨rfl, hb⟩
    have hB5 := Lib.hid (hB2.out.trans (hb.mono hB2.out.size))
    clear hb
    go_wp2_with fail
    go_ret
    exact ⟨rfl, hB5.out⟩
  · have m2 : w2.cell? ⟨w.heap.size + 1, 0, none⟩ = some (.slice A3 n3 c3) := j1.out.cell 0
    have m3 : w2.cell? ⟨w.heap.size + 1, 1, none⟩ = some (.slice A4 n4 c4) := j1.out.cell 1
    go_wp2_with fail
    refine (ritmay_any _ _ P' Q' _ (hJ.out _ hB2.out)).mono ?_
    rintro en w3 ⟨rfl, hb⟩
    have hB3 := Lib.hid (hB2.out.trans (hb.mono hB2.out.size))
    have i0 := Lib.hid (Blk.below j0.out hb)
    have i1 := Lib.hid (Blk.below j1.out hb)
    clear hb hB2 j0 j1 m2 m3
    cases hm' : mayI P' Q'
    · have hv2 : Hid (n = 0 ∧ ok = false ∧ e = 220) := Lib.hid (by
        have h1 := hv.out
        rw [difV, hm, hm'] at h1
        simp at h1
        exact ⟨by omega, h1.2.1, h1.2.2.symm⟩)
      obtain ⟨rfl, rfl, rfl⟩ := hv2.out
      clear hm hm' hv hv2
      go_wp2_with fail
      refine (lives_any _).mono ?_
      rintro en w5 ⟨rfl, hb⟩
      have hB5 := Lib.hid (hB3.out.trans (hb.mono hB3.out.size))
      clear hb
      go_wp2_with fail
      go_ret
      exact ⟨rfl, hB5.out⟩
    · have hv2 : Hid (n = difN P Q P' Q' ∧ ok = difB P Q P' Q' ∧ e = 0) := Lib.hid (by
        have h1 := hv.out
        rw [difV, hm, hm'] at h1
        simp at h1
        exact ⟨by omega, h1.2.1.symm, h1.2.2.symm⟩)
      obtain rfl := hv2.out.2.2
      have hC := fun W h1 h2 => rDiffer_any (.slice A1 n1 c1) (.slice A2 n2 c2) (.slice A3 n3 c3) (.slice A4 n4 c4) P Q P' Q' W h1 h2 hm hm'
      rw [← hv2.out.1, ← hv2.out.2.1] at hC
      replace hC := Lib.hid hC
      have m0 : w3.cell? ⟨w.heap.size, 0, none⟩ = some (.slice A1 n1 c1) := i0.out.cell 0
      have m1 : w3.cell? ⟨w.heap.size, 1, none⟩ = some (.slice A2 n2 c2) := i0.out.cell 1
      have m2 : w3.cell? ⟨w.heap.size + 1, 0, none⟩ = some (.slice A3 n3 c3) := i1.out.cell 0
      have m3 : w3.cell? ⟨w.heap.size + 1, 1, none⟩ = some (.slice A4 n4 c4) := i1.out.cell 1
      have hk1 : ((n : Int) == (n : Int)) = true := beq_self_eq_true _
      have hk2 : (ok == ok) = true := beq_self_eq_true _
      clear hm hm' hv hv2
      go_wp2_with fail
      refine (hC.out _ (hI.out _ hB3.out) (hJ.out _ hB3.out)).mono ?_
      rintro en w4 ⟨rfl, hb⟩
      have hB4 := Lib.hid (hB3.out.trans (hb.mono hB3.out.size))
      clear hb m0 m1 m2 m3 i0 i1
      go_wp2_with fail
      refine (lives_any _).mono ?_
      rintro en w5 ⟨rfl, hb⟩
      have hB5 := Lib.hid (hB4.out.trans (hb.mono hB4.out.size))
      clear hb
      go_wp2_with fail
      go_ret
      exact ⟨rfl, hB5.out⟩
end Go.Proofs.YtbddlbhanpjdnaaDoor
