/- Package filigreeref22: At, May, Rho, Address. -/
import Derived.Test.YtbddlbhanpjdnaaDoorTxt
namespace Go.Proofs.YtbddlbhanpjdnaaDoor
open Go.RowKit Go.Sort

set_option maxRecDepth 100000 in
set_option maxHeartbeats 1000000 in
/-- filigreeref22.At -/
theorem ritat_any {T1 T2 : TypeId} (A1 A2 : Option Addr) (n1 c1 n2 c2 n : Nat) (P Q : List Nat) (w : World) (h1 : Rd .u8 T1 w (.slice A1 n1 c1) P) (h2 : Rd .u8 T2 w (.slice A2 n2 c2) Q)
    (hQ : 0 < Q.length) (hP9 : P.length ≤ 1099511627776) (hQ9 : Q.length ≤ 1099511627776) (hn : n ≤ 9007199254740992) :
    Calls Tryd.prog 42 #[.agg #[.slice A1 n1 c1, .slice A2 n2 c2], .int .i64 (n : Int)] w (RetVal (.int .u8 ((rowAt P Q n : Nat) : Int)) w) := by
  obtain ⟨x, hx⟩ : ∃ x, x = rowAt P Q n := ⟨_, rfl⟩
  rw [← hx]
  obtain ⟨rfl, hc1, hc1m, hcell1⟩ := rd_cells h1
  obtain ⟨rfl, hc2, hc2m, hcell2⟩ := rd_cells h2
  obtain ⟨a, ha⟩ : ∃ a, a = P.length := ⟨_, rfl⟩
  obtain ⟨b, hb⟩ : ∃ b, b = Q.length := ⟨_, rfl⟩
  have hBW : Below w.heap.size w (w.alloc (.cells #[.slice A1 a c1, .slice A2 b c2] 28)) := (Below.refl _ w).alloc (Nat.le_refl _) _
  replace hBW := Lib.hid hBW
  by_cases h0 : n < P.length
  · obtain ⟨g, off, rfl, hg, hcell⟩ := hcell1 (fun e => by rw [e] at h0; exact absurd h0 (by simp))
    have hcx : (w.alloc (.cells #[.slice (some ⟨g, off, none⟩) a c1, .slice A2 b c2] 28)).cell? ⟨g, off + n, none⟩ = some (.int .u8 (x : Int)) := by
      have e := hcell n x (by rw [hx]; exact rowAt_pre h0)
      exact (Lib.cell?_alloc_some _ e)
    rw [← ha] at h0 hc1 hP9 ⊢
    rw [← hb] at hc2 hQ hQ9 ⊢
    have h0I : (n : Int) < (a : Int) := by omega
    replace hx := Lib.hid hx
    clear hcell1 hcell2 hcell h1 h2 ha hb
    go_enter Tryd.func42, Tryd.ntmps42
    go_wp2_with fail
    go_ret
    exact ⟨rfl, hBW.out⟩
  · obtain ⟨g, off, rfl, hg, hcell⟩ := hcell2 (fun e => by rw [e] at hQ; exact absurd hQ (by simp))
    obtain ⟨j, hj⟩ : ∃ j, j = (n - P.length) % Q.length := ⟨_, rfl⟩
    obtain ⟨k, hk⟩ : ∃ k, k = n - P.length := ⟨_, rfl⟩
    have hjb : j < Q.length := by rw [hj]; exact Nat.mod_lt _ hQ
    have hcx : (w.alloc (.cells #[.slice A1 a c1, .slice (some ⟨g, off, none⟩) b c2] 28)).cell? ⟨g, off + j, none⟩ = some (.int .u8 (x : Int)) := by
      have e := hcell j x (by rw [hx, hj]; exact rowAt_per (by omega) hQ)
      exact (Lib.cell?_alloc_some _ e)
    rw [← hk] at hj
    have hji : (k : Int).tmod (b : Int) = (j : Int) := by rw [hj, hb]; exact tmod_nat _ _
    rw [← ha] at h0 hc1 hP9 hk ⊢
    rw [← hb] at hc2 hQ hQ9 hjb ⊢
    have h0I : ¬ (n : Int) < (a : Int) := by omega
    have hki : (n : Int) - (a : Int) = (k : Int) := by omega
    have hb0 : ¬ (b : Int) = 0 := by omega
    have hjI : (j : Int) < (b : Int) := by omega
    replace hx := Lib.hid hx
    replace hj := Lib.hid hj
    clear hcell1 hcell2 hcell h1 h2 ha hb hk
    go_enter Tryd.func42, Tryd.ntmps42
    go_wp2_with fail
    go_quiet (fail)
    go_wp2_with fail
    go_ret
    exact ⟨rfl, below_drewN hBW.out _⟩

theorem mayI_at {P Q : List Nat} (hQ : 0 < Q.length) (hl : P.length + Q.length ≤ 4096) (h : ∀ j, j < P.length + Q.length → symB (rowAt P Q j) = true) : mayI P Q = true := by
  have e1 : ∀ x, x ∈ P → symB x = true := fun x hx => by
    obtain ⟨j, hj⟩ := List.mem_iff_getElem?.1 hx
    have hl := lt_of_getElem? hj
    have := h j (by omega)
    have e := rowAt_pre (q := Q) hl
    rw [hj] at e
    rw [← Option.some.inj e] at this
    exact this
  have e2 : ∀ x, x ∈ Q → symB x = true := fun x hx => by
    obtain ⟨j, hj⟩ := List.mem_iff_getElem?.1 hx
    have hl := lt_of_getElem? hj
    have := h (P.length + j) (by omega)
    have e := rowAt_per (p := P) (n := P.length + j) (Nat.le_add_right _ _) hQ
    rw [Nat.add_sub_cancel_left, Nat.mod_eq_of_lt hl, hj] at e
    rw [← Option.some.inj e] at this
    exact this
  have hn : Q ≠ [] := fun e => by rw [e] at hQ; simp at hQ
  simp only [mayI, Bool.and_eq_true, List.all_eq_true, decide_eq_true_eq]
  exact ⟨⟨⟨hn, hl⟩, e1⟩, e2⟩
theorem mayI_sym {P Q : List Nat} (h : mayI P Q = true) (j : Nat) : symB (rowAt P Q j) = true := by
  obtain ⟨m1, m2, m3, m4⟩ := mayI_spec h
  rcases rowAt_mem (p := P) (q := Q) (n := j) m1 with h | h
  · exact m3 _ h
  · exact m4 _ h

set_option maxRecDepth 100000 in
set_option maxHeartbeats 1000000 in
/-- filigreeref22.May -/
theorem ritmay_any (a b : Value) (P Q : List Nat) (w : World) (h : Itn w a b P Q) : Calls Tryd.prog 18 #[.agg #[a, b]] w (RetVal (.bool (mayI P Q)) w) := by
  obtain ⟨⟨A1, n1, c1, T1, rfl, h1⟩, ⟨A2, n2, c2, T2, rfl, h2⟩, s1, s2, l1, l2⟩ := h
  obtain ⟨r, hr⟩ : ∃ r, r = mayI P Q := ⟨_, rfl⟩
  rw [← hr]
  have hBW : Below w.heap.size w (w.alloc (.cells #[.slice A1 n1 c1, .slice A2 n2 c2] 28)) := (Below.refl _ w).alloc (Nat.le_refl _) _
  have k0 := Blk.new w 28 #[.slice A1 n1 c1, .slice A2 n2 c2]
  obtain ⟨p, hp⟩ : ∃ p, p = P.length := ⟨_, rfl⟩
  obtain ⟨q, hq⟩ : ∃ q, q = Q.length := ⟨_, rfl⟩
  obtain rfl : n1 = p := by rw [hp]; exact (rd_cells h1).1
  obtain rfl : n2 = q := by rw [hq]; exact (rd_cells h2).1
  have hat := fun (k : Nat) (h0 : 0 < Q.length) (hk : k ≤ 9007199254740992) (hl : P.length + Q.length ≤ 4096) W h1 h2 => ritat_any (T1 := T1) (T2 := T2) A1 A2 n1 c1 n2 c2 k P Q W h1 h2 h0 (by omega) (by omega) hk
  have hlt : 0 < Q.length → ∀ j, rowAt P Q j < 256 := fun h0 j => by
    rcases rowAt_mem (p := P) (q := Q) (n := j) h0 with h | h
    · exact s1 _ h
    · exact s2 _ h
  rw [← hp] at l1
  rw [← hq] at l2
  rw [← hp, ← hq] at hat
  rw [← hq] at hlt
  have hR1 := Lib.hid h1
  have hR2 := Lib.hid h2
  replace hBW := Lib.hid hBW
  replace hat := Lib.hid hat
  replace hr := Lib.hid hr
  replace hp := Lib.hid hp
  replace hq := Lib.hid hq
  replace hlt := Lib.hid hlt
  clear h1 h2 s1 s2
  by_cases b0 : n2 = 0
  · obtain rfl : r = false := by
      rw [hr.out]
      cases hm : mayI P Q
      · rfl
      · have := (mayI_spec hm).1; rw [← hq.out] at this; omega
    subst b0
    replace k0 := Lib.hid k0
    go_enter Tryd.func18, Tryd.ntmps18
    go_wp2_with fail
    go_ret
    exact ⟨rfl, hBW.out⟩
  · have b0I : ((n2 : Int) == 0) = false := by rw [beq_eq_false_iff_ne]; omega
    by_cases hm : 4096 < n1 + n2
    · obtain rfl : r = false := by
        rw [hr.out]
        cases hm : mayI P Q
        · rfl
        · have := (mayI_spec hm).2.1; rw [← hp.out, ← hq.out] at this; omega
      have hmI : (4096 : Int) < (n1 : Int) + (n2 : Int) := by omega
      replace k0 := Lib.hid k0
      go_enter Tryd.func18, Tryd.ntmps18
      go_wp2_with fail
      go_ret
      exact ⟨rfl, hBW.out⟩
    · have hmI : ¬ (4096 : Int) < (n1 : Int) + (n2 : Int) := by omega
      go_enter Tryd.func18, Tryd.ntmps18
      go_wp2_with fail
      go_loopw [3, 4] (fun iv _ wr => ∃ i : Nat, iv = .int .i64 (i : Int) ∧ i ≤ n1 + n2 ∧ (∀ j, j < i → symB (rowAt P Q j) = true) ∧ Blk wr w.heap.size 28 #[.slice A1 n1 c1, .slice A2 n2 c2] ∧ Below w.heap.size w wr) (fun iv _ _ => n1 + n2 - (intOf iv).toNat)
      case atStart => exact ⟨0, rfl, Nat.zero_le _, fun j hj => by omega, k0, hBW.out⟩
      case round =>
        obtain ⟨i, rfl, hi, hlo, jb, hBr⟩ := hrel
        have a0 : wr.cell? ⟨w.heap.size, 0, none⟩ = some (.slice A1 n1 c1) := jb.cell 0
        have a1 : wr.cell? ⟨w.heap.size, 1, none⟩ = some (.slice A2 n2 c2) := jb.cell 1
        replace hlo := Lib.hid hlo
        replace hBr := Lib.hid hBr
        replace jb := Lib.hid jb
        clear k0
        by_cases h0 : i < n1 + n2
        · have h0I : (i : Int) < (n1 : Int) + (n2 : Int) := by omega
          have r1 := Lib.hid (hR1.out.below hBr.out)
          have r2 := Lib.hid (hR2.out.below hBr.out)
          go_wp2_with fail
          refine (hat.out i (by omega) (by omega) (by omega) _ r1.out r2.out).mono ?_
          rintro en w1 ⟨rfl, hb⟩
          have hB1 := Lib.hid (hBr.out.trans (hb.mono hBr.out.size))
          have jb1 := Lib.hid (Blk.below jb.out hb)
          have hx9 := hlt.out (by omega) i
          obtain ⟨x, hx⟩ : ∃ x, x = rowAt P Q i := ⟨_, rfl⟩
          rw [← hx] at hx9 ⊢
          clear hb jb hBr a0 a1 r1 r2
          cases hs : symB x
          · have hx1 : (64 : Int) ≤ (x : Int) ∧ ((x : Int) == 255) = false := by
              simp [symB] at hs
              exact ⟨by omega, by rw [beq_eq_false_iff_ne]; omega⟩
            obtain ⟨hx2, hx3⟩ := hx1
            have hx4 : ((x : Int) != 255) = true := by simp only [bne, hx3]; rfl
            obtain rfl : r = false := by
              rw [hr.out]
              cases hm : mayI P Q
              · rfl
              · have := mayI_sym hm i; rw [← hx, hs] at this; cases this
            replace hx := Lib.hid hx
            clear hs
            go_wp2_with fail
            go_ret
            exact ⟨rfl, hB1.out⟩
          · have hlo2 : Hid (∀ j, j < i + 1 → symB (rowAt P Q j) = true) := Lib.hid (fun j hj => by
              by_cases e : j = i
              · subst e; rw [← hx]; exact hs
              · exact hlo.out j (by omega))
            replace hx := Lib.hid hx
            by_cases hx1 : x < 64
            · have hx2 : ¬ (64 : Int) ≤ (x : Int) := by omega
              clear hs
              go_wp2_with fail
              go_roundw
              case rel => exact ⟨i + 1, by go_num, by omega, hlo2.out, jb1.out, hB1.out⟩
              case measure => simp [intOf]; omega
            · obtain rfl : x = 255 := by simp [symB] at hs; omega
              clear hs
              go_wp2_with fail
              go_roundw
              case rel => exact ⟨i + 1, by go_num, by omega, hlo2.out, jb1.out, hB1.out⟩
              case measure => simp [intOf]; omega
        · obtain rfl : i = n1 + n2 := by omega
          have h0I : ¬ ((n1 + n2 : Nat) : Int) < (n1 : Int) + (n2 : Int) := by omega
          obtain rfl : r = true := by
            rw [hr.out]
            exact mayI_at (by rw [← hq.out]; omega) (by rw [← hp.out, ← hq.out]; omega) (fun j hj => hlo.out j (by rw [hp.out, hq.out]; exact hj))
          go_wp2_with fail
          go_ret
          exact ⟨rfl, hBr.out⟩

set_option maxRecDepth 100000 in
set_option maxHeartbeats 1000000 in
/-- filigreeref22.Rho -/
theorem rrho_any {T1 T2 : TypeId} (A1 A2 : Option Addr) (n1 c1 n2 c2 n : Nat) (P Q : List Nat) (w : World) (h1 : Rd .u8 T1 w (.slice A1 n1 c1) P) (h2 : Rd .u8 T2 w (.slice A2 n2 c2) Q)
    (hQ : 0 < Q.length) (hP9 : P.length + Q.length ≤ 4096) (hn : n ≤ 1000000) :
    Calls Tryd.prog 19 #[.agg #[.slice A1 n1 c1, .slice A2 n2 c2], .int .i64 (n : Int)] w (RetVal (.tuple #[.int .i64 ((rhoN P Q n : Nat) : Int), .bool (decide (0 < rhoN P Q n))]) w) := by
  obtain ⟨r, hr⟩ : ∃ r, r = rhoN P Q n := ⟨_, rfl⟩
  rw [← hr]
  obtain rfl := (rd_cells h1).1
  obtain rfl := (rd_cells h2).1
  obtain ⟨a, ha⟩ : ∃ a, a = P.length := ⟨_, rfl⟩
  obtain ⟨b, hb⟩ : ∃ b, b = Q.length := ⟨_, rfl⟩
  have hat := fun (k : Nat) (hk : k ≤ 9007199254740992) W h1 h2 => ritat_any (T1 := T1) (T2 := T2) A1 A2 P.length c1 Q.length c2 k P Q W h1 h2 hQ (by omega) (by omega) hk
  rw [rhoN, ← ha, ← hb] at hr
  rw [← ha, ← hb] at hat hP9
  rw [← ha] at h1 ⊢
  rw [← hb] at h2 hQ ⊢
  have hBW : Below w.heap.size w (w.alloc (.cells #[.slice A1 a c1, .slice A2 b c2] 28)) := (Below.refl _ w).alloc (Nat.le_refl _) _
  have q1 := h1.alloc (.cells #[.slice A1 a c1, .slice A2 b c2] 28)
  have q2 := h2.alloc (.cells #[.slice A1 a c1, .slice A2 b c2] 28)
  have hK := Blk.new w 28 #[.slice A1 a c1, .slice A2 b c2]
  replace q1 := Lib.hid q1
  replace q2 := Lib.hid q2
  replace hBW := Lib.hid hBW
  replace hK := Lib.hid hK
  replace hr := Lib.hid hr
  replace hat := Lib.hid hat
  clear h1 h2 ha hb
  go_enter Tryd.func19, Tryd.ntmps19
  go_wp2_with fail
  go_loopw [6] (fun kv wr => ∃ i : Nat, kv = .int .i64 ((n + 1 + i : Nat) : Int) ∧ i ≤ a + b ∧ r = rhoF P Q n (a + b - i) i ∧ Rd .u8 T1 wr (.slice A1 a c1) P ∧ Rd .u8 T2 wr (.slice A2 b c2) Q ∧ Blk wr w.heap.size 28 #[.slice A1 a c1, .slice A2 b c2] ∧ Below w.heap.size w wr) (fun kv _ => n + 1 + a + b - (intOf kv).toNat)
  case atStart => exact ⟨0, by first | rfl | simp, Nat.zero_le _, hr.out, q1.out, q2.out, hK.out, hBW.out⟩
  case round =>
    obtain ⟨i, rfl, hi, hri, p1, p2, pK, pB⟩ := hrel
    replace hri := Lib.hid hri
    have a0 : wr.cell? ⟨w.heap.size, 0, none⟩ = some (.slice A1 a c1) := Blk.cell pK 0
    have a1 : wr.cell? ⟨w.heap.size, 1, none⟩ = some (.slice A2 b c2) := Blk.cell pK 1
    obtain ⟨k, hk⟩ : ∃ k, k = n + 1 + i := ⟨_, rfl⟩
    rw [← hk]
    by_cases h0 : i < a + b
    · have h0I : (k : Int) ≤ (n : Int) + (a : Int) + (b : Int) := by omega
      have hk1 : IntKind.i64.wrap ((k : Int) - 1) = ((i + n : Nat) : Int) := by rw [IntKind.wrap_i64]; omega
      have hk2 : IntKind.i64.wrap ((k : Int) - (n : Int)) = ((i + 1 : Nat) : Int) := by rw [IntKind.wrap_i64]; omega
      have hk3 : IntKind.i64.wrap (((i + 1 : Nat) : Int) - 1) = (i : Int) := by rw [IntKind.wrap_i64]; omega
      obtain ⟨x, hx⟩ : ∃ x, x = rowAt P Q (i + n) := ⟨_, rfl⟩
      obtain ⟨y, hy⟩ : ∃ y, y = rowAt P Q i := ⟨_, rfl⟩
      have m0 : ∀ d os, (grow (redrawn wr d) os).cell? ⟨w.heap.size, 0, none⟩ = some (.slice A1 a c1) := cell_regrown (Blk.cell pK 0)
      have m1 : ∀ d os, (grow (redrawn wr d) os).cell? ⟨w.heap.size, 1, none⟩ = some (.slice A2 b c2) := cell_regrown (Blk.cell pK 1)
      have cx : ∀ d os, Calls Tryd.prog 42 #[.agg #[.slice A1 a c1, .slice A2 b c2], .int .i64 (IntKind.i64.wrap ((k : Int) - 1))] (grow (redrawn wr d) os) fun e w'' => e = .returned (.int .u8 (x : Int)) ∧ ∃ p : Regrown, w'' = grow (redrawn wr p.d) p.os :=
        fun d os => Calls.regrown_of (by
          rw [hx, hk1]
          have hb := below_regrown wr d os
          exact hat.out (i + n) (by omega) _ (p1.below hb) (p2.below hb))
      have cy : ∀ d os, Calls Tryd.prog 42 #[.agg #[.slice A1 a c1, .slice A2 b c2], .int .i64 (IntKind.i64.wrap (IntKind.i64.wrap ((k : Int) - (n : Int)) - 1))] (grow (redrawn wr d) os) fun e w'' => e = .returned (.int .u8 (y : Int)) ∧ ∃ p : Regrown, w'' = grow (redrawn wr p.d) p.os :=
        fun d os => Calls.regrown_of (by
          rw [hy, hk2, hk3]
          have hb := below_regrown wr d os
          exact hat.out i (by omega) _ (p1.below hb) (p2.below hb))
      replace hx := Lib.hid hx
      replace hy := Lib.hid hy
      replace hk := Lib.hid hk
      clear hk1 hk2 hk3
      go_upto_region 4 with fail
      clear a0 a1
      refine wp_region_quiet_below (by kernel_rfl) (by kernel_rfl) ?_
      iterate 3 (quiet_step (fail))
      quiet_step (exact cx _ _)
      iterate 5 (quiet_step (fail))
      quiet_step (exact cy _ _)
      iterate 1 (quiet_step (fail))
      refine wpQuiet_nil ?_
      intro q5 hw'
      have hb : Below wr.heap.size wr q5 := by
        obtain ⟨p, rfl⟩ := hw'
        exact below_regrown wr p.d p.os
      clear hw' cx cy m0 m1
      have k1 := Lib.hid (p1.below hb)
      have k2 := Lib.hid (p2.below hb)
      have kK := Lib.hid (Blk.below pK hb)
      have kB := Lib.hid (pB.trans (hb.mono pB.size))
      clear hb p1 p2 pK pB
      have hfu : a + b - i = (a + b - (i + 1)) + 1 := by omega
      by_cases hxy : x = y
      · have hri2 : Hid (r = rhoF P Q n (a + b - (i + 1)) (i + 1)) := Lib.hid (by rw [hri.out, hfu, rhoF, if_neg (by rw [← hx.out, ← hy.out]; simp [hxy])])
        subst hxy
        clear hri
        go_wp2_with fail
        go_roundw
        case rel => exact ⟨i + 1, by rw [hk.out]; go_num, by omega, hri2.out, k1.out, k2.out, kK.out, kB.out⟩
        case measure => have := hk.out; simp [intOf]; omega
      · have hri2 : Hid (r = k) := Lib.hid (by rw [hri.out, hfu, rhoF, if_pos (by rw [← hx.out, ← hy.out]; exact hxy), hk.out]; omega)
        have hxyI : ¬ (x : Int) = (y : Int) := by omega
        have hd : Hid (decide (0 < r) = true) := Lib.hid (decide_eq_true (by rw [hri2.out, hk.out]; omega))
        clear hri
        go_wp2_with fail
        go_ret2
        exact ⟨by rw [hd.out, hri2.out]; rfl, kB.out⟩
    · obtain rfl : i = a + b := by omega
      have hri2 : Hid (r = 0) := Lib.hid (by rw [hri.out, Nat.sub_self]; rfl)
      have h0I : ¬ (k : Int) ≤ (n : Int) + (a : Int) + (b : Int) := by omega
      replace pB := Lib.hid pB
      replace hk := Lib.hid hk
      clear hri p1 p2 pK
      go_wp2_with fail
      go_ret2
      exact ⟨by rw [hri2.out]; rfl, pB.out⟩

theorem adr_start {P Q : List Nat} {m : Nat} (hm : 1 ≤ m) : adr P Q m = adrF P Q m (m + 1 - 1) (rhoN P Q 1) [1] := by
  rw [adr, adrF_step (by omega) (by simp; omega)]
  rfl

set_option maxRecDepth 100000 in
set_option maxHeartbeats 1000000 in
/-- filigreeref22.Address -/
theorem radr_any {T1 T2 : TypeId} (A1 A2 : Option Addr) (n1 c1 n2 c2 m : Nat) (P Q : List Nat) (w : World) (h1 : Rd .u8 T1 w (.slice A1 n1 c1) P) (h2 : Rd .u8 T2 w (.slice A2 n2 c2) Q)
    (hQ : 0 < Q.length) (hP9 : P.length + Q.length ≤ 4096) (hm1 : 1 ≤ m) (hm : m ≤ 4096) (l : List Nat) (al : Bool) (hl : adr P Q m = (l, al)) :
    Calls Tryd.prog 20 #[.agg #[.slice A1 n1 c1, .slice A2 n2 c2], .int .i64 (m : Int)] w (fun e w' => ∃ v, e = .returned (.tuple #[v, .bool al]) ∧ w'.ownsRow w.heap.size 3 1 v l.length (ivs .i64 l) ∧ Below w.heap.size w w') := by
  obtain ⟨i0, hi, hz0, hz1, hz2⟩ := info_parts info_int
  have hBW : Below w.heap.size w ((w.alloc (.cells #[.slice A1 n1 c1, .slice A2 n2 c2] 28)).alloc (.cells #[.int .i64 1] 3)) := ((Below.refl _ w).alloc (Nat.le_refl _) _).alloc (by simp) _
  have k0 := (Blk.new w 28 #[.slice A1 n1 c1, .slice A2 n2 c2]).alloc (.cells #[.int .i64 1] 3)
  have ho1 := own_one (w.alloc (.cells #[.slice A1 n1 c1, .slice A2 n2 c2] 28)) 3 (.int .i64 1) (B := w.heap.size + 1) (by simp)
  rw [show (w.alloc (.cells #[.slice A1 n1 c1, .slice A2 n2 c2] 28)).heap.size = w.heap.size + 1 by simp] at ho1
  rw [adr_start hm1] at hl
  have hrho := fun (n : Nat) (hn : n ≤ 1000000) W h1 h2 => rrho_any (T1 := T1) (T2 := T2) A1 A2 n1 c1 n2 c2 n P Q W h1 h2 hQ hP9 hn
  have hR1 := Lib.hid h1
  have hR2 := Lib.hid h2
  replace hBW := Lib.hid hBW
  replace k0 := Lib.hid k0
  replace ho1 := Lib.hid ho1
  replace hrho := Lib.hid hrho
  replace hl := Lib.hid hl
  replace hP9 := Lib.hid hP9
  clear h1 h2
  go_enter Tryd.func20, Tryd.ntmps20
  go_wp2_with fail
  go_loopw [6, 7, 8, 10] (fun ov _ _ _ wr => ∃ (n : Nat) (acc : List Nat), adrF P Q m (m + 1 - (acc.length + 1)) (rhoN P Q n) (acc ++ [n]) = (l, al) ∧ acc.length < m ∧ n ≤ 9000 ∧ wr.ownsRow (w.heap.size + 1) 3 1 ov (acc.length + 1) (ivs .i64 (acc ++ [n])) ∧ Blk wr w.heap.size 28 #[.slice A1 n1 c1, .slice A2 n2 c2] ∧ Below w.heap.size w wr) (fun ov _ _ _ _ => m + 1 - lenV ov)
  case atStart => exact ⟨1, [], hl.out, by simp; omega, by omega, ho1.out, k0.out, hBW.out⟩
  case round =>
    obtain ⟨n, acc, hrun, hacc, hn9, hown, jb, hBr⟩ := hrel
    obtain ⟨k, hk⟩ : ∃ k, k = acc.length := ⟨_, rfl⟩
    rw [← hk] at hown hacc hrun
    obtain ⟨g, c, rfl⟩ : ∃ g c, u6 = .slice (some ⟨g, 0, none⟩) (k + 1) c := by
      rcases own_forms hown with ⟨e, e2⟩ | ⟨g, c, e⟩
      · omega
      · exact ⟨_, _, e⟩
    have m0 : ∀ d os, (grow (redrawn wr d) os).cell? ⟨w.heap.size, 0, none⟩ = some (.slice A1 n1 c1) := cell_regrown (jb.cell 0)
    have m1 : ∀ d os, (grow (redrawn wr d) os).cell? ⟨w.heap.size, 1, none⟩ = some (.slice A2 n2 c2) := cell_regrown (jb.cell 1)
    have hlast : (acc ++ [n])[k]? = some n := by rw [hk]; simp
    obtain ⟨g', off, e, -, hcl⟩ := (rd_cells (own_rdn hown)).2.2.2 (by simp)
    injection e with e
    injection e with e1 e2
    subst e1 e2
    have m2 : ∀ d os, (grow (redrawn wr d) os).cell? ⟨g, k, none⟩ = some (.int .i64 (n : Int)) := cell_regrown (by have := hcl k n hlast; rwa [Nat.zero_add] at this)
    have hk1 : IntKind.i64.wrap (k : Int) = (k : Int) := by rw [IntKind.wrap_i64]; omega
    have hk3 : (0 : Int) ≤ (k : Int) := by omega
    have hk2 : (k : Int) < (k : Int) + 1 := by omega
    obtain ⟨nn, hnn⟩ : ∃ nn, nn = rhoN P Q n := ⟨_, rfl⟩
    have hn9b : nn ≤ 4096 + n := by rw [hnn]; have := rhoN_le P Q n; have := hP9.out; omega
    rw [← hnn] at hrun
    have cx : ∀ d os, Calls Tryd.prog 19 #[.agg #[.slice A1 n1 c1, .slice A2 n2 c2], .int .i64 (n : Int)] (grow (redrawn wr d) os) fun e w'' => e = .returned (.tuple #[.int .i64 (nn : Int), .bool (decide (0 < nn))]) ∧ ∃ p : Regrown, w'' = grow (redrawn wr p.d) p.os :=
      fun d os => Calls.regrown_of (by
        rw [hnn]
        have hb := below_regrown wr d os
        exact hrho.out n (by omega) _ ((hR1.out.below hBr).below hb) ((hR2.out.below hBr).below hb))
    replace hrun := Lib.hid hrun
    replace hown := Lib.hid hown
    replace hBr := Lib.hid hBr
    replace hk := Lib.hid hk
    replace hnn := Lib.hid hnn
    clear hlast hcl
    go_upto_region 2 with fail
    refine wp_region_quiet_below (by kernel_rfl) (by kernel_rfl) ?_
    iterate 7 (quiet_step (fail))
    quiet_step (exact cx _ _)
    iterate 5 (quiet_step (fail))
    refine wpQuiet_nil ?_
    intro q5 hw'
    have hb : Below wr.heap.size wr q5 := by
      obtain ⟨p, rfl⟩ := hw'
      exact below_regrown wr p.d p.os
    clear hw' cx m0 m1 m2 hk1 hk2 hk3
    have hown5 := Lib.hid (own_below hown.out hb)
    have jb5 := Lib.hid (Blk.below jb hb)
    have hB5 := Lib.hid (hBr.out.trans (hb.mono hBr.out.size))
    clear hb hown jb hBr
    by_cases h0 : nn = 0
    · subst h0
      have hv : Hid (l = acc ++ [n] ∧ al = true) := Lib.hid (by
        have := hrun.out
        rw [adrF_end (by omega)] at this
        exact ⟨(Prod.mk.inj this).1.symm, (Prod.mk.inj this).2.symm⟩)
      go_wp2_with fail
      go_ret2
      refine ⟨_, by rw [hv.out.2]; rfl, ?_, hB5.out⟩
      rw [hv.out.1, List.length_append, ← hk.out]
      exact own_le hown5.out (by omega)
    · have h0d : decide (0 < nn) = true := decide_eq_true (by omega)
      by_cases h1 : 4096 < nn
      · have h1I : (4096 : Int) < (nn : Int) := by omega
        have hv : Hid (l = acc ++ [n] ∧ al = false) := Lib.hid (by
          have := hrun.out
          rw [adrF_stop (by omega) h0 (.inl h1)] at this
          exact ⟨(Prod.mk.inj this).1.symm, (Prod.mk.inj this).2.symm⟩)
        go_wp2_with fail
        go_ret2
        refine ⟨_, by rw [hv.out.2]; rfl, ?_, hB5.out⟩
        rw [hv.out.1, List.length_append, ← hk.out]
        exact own_le hown5.out (by omega)
      · have h1I : ¬ (4096 : Int) < (nn : Int) := by omega
        by_cases h2 : k + 1 = m
        · have hv : Hid (l = acc ++ [n] ∧ al = false) := Lib.hid (by
            have := hrun.out
            rw [adrF_stop (by omega) h0 (.inr (by rw [List.length_append, ← hk.out]; exact h2))] at this
            exact ⟨(Prod.mk.inj this).1.symm, (Prod.mk.inj this).2.symm⟩)
          subst h2
          go_wp2_with fail
          go_ret2
          refine ⟨_, by rw [hv.out.2]; rfl, ?_, hB5.out⟩
          rw [hv.out.1, List.length_append, ← hk.out]
          exact own_le hown5.out (by omega)
        · have h2I : ¬ (k : Int) + 1 = (m : Int) := by omega
          have hnx : Hid (adrF P Q m (m + 1 - (k + 1 + 1)) (rhoN P Q nn) (acc ++ [n] ++ [nn]) = (l, al)) := Lib.hid (by
            have := hrun.out
            rw [show m + 1 - (k + 1) = (m + 1 - (k + 1 + 1)) + 1 by omega, adrF_step h0 (by rw [List.length_append, ← hk.out]; simp only [List.length_cons, List.length_nil]; omega)] at this
            exact this)
          have hkl : Hid ((acc ++ [n]).length = k + 1) := Lib.hid (by rw [List.length_append, ← hk.out]; rfl)
          obtain ⟨wo, rfl⟩ : ∃ wo : World, wo = q5 := ⟨_, rfl⟩
          clear hrun
          go_wp2_with (at_builtin; refine wpList_append_own _ rfl _ _ 36 rfl (w.heap.size + 1) 3 i0 (.int .i64 0) 1 8 Tryd.underlying36 hi hz0 hz1 hz2 rfl (by decide) _ _ _ rfl (hown5.out.alloc _) ⟨wo.heap.size, 0, none⟩ 1 1 [.int .i64 (nn : Int)] rfl rfl ?d1 ?d2 ?d3 ?d4 ?d5 ?_)
          case d2 => rfl
          case d3 => unfold maxLen; omega
          case d4 => omega
          case d5 => have := jb5.out.lt; simp; omega
          intro v' w3 hown' hgrow _
          have hB3 : Below w.heap.size w w3 := (hB5.out.alloc hB5.out.size _).grown hgrow (by have := hB5.out.size; simp; omega) (fun k hk => by have := (hown5.out.lt k hk).1; omega)
          have jb3 : Blk w3 w.heap.size 28 #[.slice A1 n1 c1, .slice A2 n2 c2] := Blk.grown (jb5.out.alloc _) hgrow (fun e => by have := (hown5.out.lt _ e.symm).1; omega)
          have hv' : lenV v' = k + 1 + 1 := by
            rcases own_forms hown' with ⟨e, e2⟩ | ⟨g, c, e⟩
            · rw [e, e2]; rfl
            · rw [e]; rfl
          replace hown' := Lib.hid hown'
          replace hB3 := Lib.hid hB3
          replace jb3 := Lib.hid jb3
          replace hv' := Lib.hid hv'
          clear hgrow hown5 jb5 hB5
          go_wp2_with fail
          go_roundw
          case rel => exact ⟨nn, acc ++ [n], by rw [hkl.out]; exact hnx.out, by rw [hkl.out]; omega, by omega, by rw [hkl.out, ivs_append]; exact hown'.out, jb3.out, hB3.out⟩
          case measure =>
            show m + 1 - lenV v' < m + 1 - lenV (.slice (some ⟨g, 0, none⟩) (k + 1) c)
            rw [hv'.out]
            show m + 1 - (k + 1 + 1) < m + 1 - (k + 1)
            omega
end Go.Proofs.YtbddlbhanpjdnaaDoor
