/- Package itin: Rho. · filigreelaw22.ItinAddresses: the walk. -/
import Derived.Test.YtbddlbhanpjdnaaDoorAdr
namespace Go.Proofs.YtbddlbhanpjdnaaDoor
open Go.RowKit Go.Sort

set_option maxRecDepth 100000 in
set_option maxHeartbeats 1000000 in
/-- itin.Rho -/
theorem iRho_any (a b : Value) (P Q : List Nat) (n : Int) (w : World) (h : Itn w a b P Q) :
    Calls Tryd.prog 17 #[.agg #[a, b], .int .i64 n] w (RetVal (rhoV P Q n) w) := by
  obtain ⟨v, hv⟩ : ∃ v, v = rhoV P Q n := ⟨_, rfl⟩
  rw [← hv]
  obtain ⟨⟨A1, n1, c1, T1, rfl, h1⟩, ⟨A2, n2, c2, T2, rfl, h2⟩, s1, s2, l1, l2⟩ := h
  obtain ⟨r, hr⟩ : ∃ r, r = chkE P Q := ⟨_, rfl⟩
  have hBW : Below w.heap.size w (w.alloc (.cells #[.slice A1 n1 c1, .slice A2 n2 c2] 28)) := (Below.refl _ w).alloc (Nat.le_refl _) _
  have k0 := Blk.new w 28 #[.slice A1 n1 c1, .slice A2 n2 c2]
  have q1 := h1.alloc (.cells #[.slice A1 n1 c1, .slice A2 n2 c2] 28)
  have q2 := h2.alloc (.cells #[.slice A1 n1 c1, .slice A2 n2 c2] 28)
  have hC := fun W h1 h2 => iCheck_any (T1 := T1) (T2 := T2) A1 A2 n1 c1 n2 c2 P Q W h1 h2 s1 s2 l1 l2
  rw [← hr] at hC
  have hrho : mayI P Q = true → ∀ (n : Nat) W, n ≤ 1000000 → Rd .u8 T1 W (.slice A1 n1 c1) P → Rd .u8 T2 W (.slice A2 n2 c2) Q → Calls Tryd.prog 41 #[.agg #[.slice A1 n1 c1, .slice A2 n2 c2], .int .i64 (n : Int)] W (RetVal (.int .i64 ((rhoN P Q n : Nat) : Int)) W) := fun hm n W hn h1 h2 => by
    obtain ⟨m1, m2, -, -⟩ := mayI_spec hm
    exact irho_any (T1 := T1) (T2 := T2) A1 A2 n1 c1 n2 c2 n P Q W h1 h2 m1 m2 hn
  replace hBW := Lib.hid hBW
  replace k0 := Lib.hid k0
  replace q1 := Lib.hid q1
  replace q2 := Lib.hid q2
  replace hC := Lib.hid hC
  replace hrho := Lib.hid hrho
  replace hr := Lib.hid hr
  replace hv := Lib.hid hv
  clear h1 h2 s1 s2 l1 l2
  go_enter Tryd.func17, Tryd.ntmps17
  go_wp2_with fail
  refine (hC.out _ q1.out q2.out).mono ?_
  rintro en v1 ⟨rfl, hb⟩
  have hB1 := Lib.hid (hBW.out.trans (hb.mono (by simp)))
  have j0 := Blk.below k0.out hb
  have p1 := Lib.hid (q1.out.below hb)
  have p2 := Lib.hid (q2.out.below hb)
  have a0 : v1.cell? ⟨w.heap.size, 0, none⟩ = some (.slice A1 n1 c1) := j0.cell 0
  have a1 : v1.cell? ⟨w.heap.size, 1, none⟩ = some (.slice A2 n2 c2) := j0.cell 1
  clear hb hBW k0 q1 q2 hC j0
  rcases rhoE_cases (P := P) (Q := Q) (n := n) with ⟨e1, e2⟩ | ⟨e1, e2, e3⟩ | ⟨e1, e2, e3, e4⟩
  · obtain rfl : r = 220 := by rw [hr.out]; exact mayI_no e2
    have hv2 : Hid (v = .tuple #[.int .i64 0, .bool false, .int .i64 220]) := Lib.hid (by rw [hv.out, rhoV, if_neg (by rw [e1]; decide), e1])
    clear e1 e2 hr hv hrho
    go_wp2_with fail
    go_ret3
    exact ⟨by rw [hv2.out]; rfl, hB1.out⟩
  · obtain rfl : r = 0 := by rw [hr.out]; exact mayI_yes e2
    have hv2 : Hid (v = .tuple #[.int .i64 0, .bool false, .int .i64 2]) := Lib.hid (by rw [hv.out, rhoV, if_neg (by rw [e1]; decide), e1])
    clear e1 e2 hr hv hrho
    by_cases q1 : n < 1
    · clear e3
      go_wp2_with fail
      go_ret3
      exact ⟨by rw [hv2.out]; rfl, hB1.out⟩
    · have q2 : 4096 < n := by omega
      clear e3
      go_wp2_with fail
      go_ret3
      exact ⟨by rw [hv2.out]; rfl, hB1.out⟩
  · obtain rfl : r = 0 := by rw [hr.out]; exact mayI_yes e2
    obtain ⟨m, rfl⟩ : ∃ m : Nat, n = (m : Int) := ⟨n.toNat, by omega⟩
    have hv2 : Hid (v = .tuple #[.int .i64 ((rhoN P Q m : Nat) : Int), .bool (decide (0 < rhoN P Q m)), .int .i64 0]) := Lib.hid (by rw [hv.out, rhoV, if_pos e1, Int.toNat_natCast])
    have hrho2 := Lib.hid (hrho.out e2)
    have q1 : ¬ (m : Int) < 1 := by omega
    have q2 : ¬ 4096 < (m : Int) := by omega
    clear e1 e2 e3 e4 hr hv hrho
    go_wp2_with fail
    refine (hrho2.out m _ (by omega) p1.out p2.out).mono ?_
    rintro en v2 ⟨rfl, hb⟩
    have hB2 := Lib.hid (hB1.out.trans (hb.mono hB1.out.size))
    obtain ⟨k, hk⟩ : ∃ k, k = rhoN P Q m := ⟨_, rfl⟩
    rw [← hk] at hv2 ⊢
    replace hk := Lib.hid hk
    clear hb
    by_cases hk0 : 0 < k
    · have hkI : (0 : Int) < (k : Int) := by omega
      have hkd : Hid (decide (0 < k) = true) := Lib.hid (decide_eq_true hk0)
      go_wp2_with fail
      go_ret3
      exact ⟨by rw [hv2.out, hkd.out]; rfl, hB2.out⟩
    · obtain rfl : k = 0 := by omega
      go_wp2_with fail
      go_ret3
      exact ⟨by rw [hv2.out]; rfl, hB2.out⟩

theorem lives_below (w : World) : Calls Tryd.prog 12 #[] w (fun e w' => e = .returned (.bool true) ∧ Below w.heap.size w w') := lives_any w

theorem adrF_ge (P Q : List Nat) (m : Nat) : ∀ f n acc, acc.length ≤ (adrF P Q m f n acc).1.length
  | 0, _, acc => Nat.le_refl _
  | f + 1, n, acc => by
    unfold adrF
    split
    · exact Nat.le_refl _
    · split
      · exact Nat.le_refl _
      · have := adrF_ge P Q m f (rhoN P Q n) (acc ++ [n])
        rw [List.length_append] at this
        exact Nat.le_trans (Nat.le_add_right _ _) this
theorem adrF_le (P Q : List Nat) (m : Nat) : ∀ f n acc, acc.length ≤ m → (adrF P Q m f n acc).1.length ≤ m
  | 0, _, acc, h => h
  | f + 1, n, acc, h => by
    unfold adrF
    split
    · exact h
    · split
      · exact h
      · rename_i h2
        exact adrF_le P Q m f (rhoN P Q n) (acc ++ [n]) (by rw [List.length_append]; simp only [List.length_cons, List.length_nil]; omega)
theorem adr_le (P Q : List Nat) (m : Nat) : (adr P Q m).1.length ≤ m := adrF_le P Q m _ _ [] (Nat.zero_le _)
theorem adr_len {P Q : List Nat} {m : Nat} (hm : 1 ≤ m) : 1 ≤ (adr P Q m).1.length := by
  rw [adr_start hm]
  exact adrF_ge P Q m _ _ [1]

set_option maxRecDepth 100000 in
set_option maxHeartbeats 2000000 in
/-- filigreelaw22.ItinAddresses -/
theorem itinAddresses_any (a b : Value) (P Q : List Nat) (n most : Int) (w : World) (h : Itn w a b P Q) (_ : (Lit.int .i64 n).wf = true) (_ : (Lit.int .i64 most).wf = true) :
    Calls Tryd.prog 5 #[.agg #[a, b], .int .i64 n, .int .i64 most] w (RetVal (.bool true) w) := by
  have hI0 := h
  obtain ⟨⟨A1, n1, c1, T1, rfl, h1⟩, ⟨A2, n2, c2, T2, rfl, h2⟩, s1, s2, l1, l2⟩ := h
  have hBW : Below w.heap.size w (w.alloc (.cells #[.slice A1 n1 c1, .slice A2 n2 c2] 28)) := (Below.refl _ w).alloc (Nat.le_refl _) _
  have k0 := Blk.new w 28 #[.slice A1 n1 c1, .slice A2 n2 c2]
  have hI := hI0.alloc (.cells #[.slice A1 n1 c1, .slice A2 n2 c2] 28)
  obtain ⟨v, hv⟩ : ∃ v, v = rhoV P Q n := ⟨_, rfl⟩
  obtain ⟨⟨l, al⟩, hl⟩ : ∃ x : List Nat × Bool, adrR P Q most = x := ⟨_, rfl⟩
  obtain ⟨E, hE⟩ : ∃ E, E = rhoE P Q most := ⟨_, rfl⟩
  have hrr : mayI P Q = true → ∀ (k : Nat) W, k ≤ 1000000 → Rd .u8 T1 W (.slice A1 n1 c1) P → Rd .u8 T2 W (.slice A2 n2 c2) Q → Calls Tryd.prog 19 #[.agg #[.slice A1 n1 c1, .slice A2 n2 c2], .int .i64 (k : Int)] W (RetVal (.tuple #[.int .i64 ((rhoN P Q k : Nat) : Int), .bool (decide (0 < rhoN P Q k))]) W) := fun hm k W hk h1 h2 => by
    obtain ⟨m1, m2, -, -⟩ := mayI_spec hm
    exact rrho_any (T1 := T1) (T2 := T2) A1 A2 n1 c1 n2 c2 k P Q W h1 h2 m1 m2 hk
  have hra : mayI P Q = true → ∀ (m : Nat) W, 1 ≤ m → m ≤ 4096 → adr P Q m = (l, al) → Rd .u8 T1 W (.slice A1 n1 c1) P → Rd .u8 T2 W (.slice A2 n2 c2) Q →
      Calls Tryd.prog 20 #[.agg #[.slice A1 n1 c1, .slice A2 n2 c2], .int .i64 (m : Int)] W (fun e w' => ∃ v, e = .returned (.tuple #[v, .bool al]) ∧ w'.ownsRow W.heap.size 3 1 v l.length (ivs .i64 l) ∧ Below W.heap.size W w') := fun hm k W hk hk2 hl h1 h2 => by
    obtain ⟨m1, m2, -, -⟩ := mayI_spec hm
    exact radr_any (T1 := T1) (T2 := T2) A1 A2 n1 c1 n2 c2 k P Q W h1 h2 m1 m2 hk hk2 l al hl
  have hR1 := Lib.hid h1
  have hR2 := Lib.hid h2
  replace hBW := Lib.hid hBW
  replace k0 := Lib.hid k0
  replace hI := Lib.hid hI
  replace hv := Lib.hid hv
  replace hl := Lib.hid hl
  replace hE := Lib.hid hE
  replace hrr := Lib.hid hrr
  replace hra := Lib.hid hra
  clear h1 h2 s1 s2 l1 l2 hI0
  go_enter Tryd.func5, Tryd.ntmps5
  go_wp2_with fail
  refine (iRho_any _ _ P Q n _ hI.out).mono ?_
  rintro en w1 ⟨rfl, hb⟩
  rw [← hv.out]
  have hB1 := Lib.hid (hBW.out.trans (hb.mono (by simp)))
  have j1 := Blk.below k0.out hb
  have hI1 := Lib.hid (hI.out.below hb)
  have a0 : w1.cell? ⟨w.heap.size, 0, none⟩ = some (.slice A1 n1 c1) := j1.cell 0
  have a1 : w1.cell? ⟨w.heap.size, 1, none⟩ = some (.slice A2 n2 c2) := j1.cell 1
  obtain ⟨k, ok, e, rfl⟩ : ∃ (k : Nat) (ok : Bool) (e : Int), v = .tuple #[.int .i64 (k : Int), .bool ok, .int .i64 e] := by
    rw [hv.out, rhoV]
    split
    · exact ⟨_, _, _, rfl⟩
    · exact ⟨0, _, _, rfl⟩
  replace j1 := Lib.hid j1
  clear hb hBW k0 hI
  go_wp2_with fail
  refine (iAddress_any _ _ P Q most _ hI1.out E hE.out l al hl.out).mono ?_
  rintro en w2 ⟨va, rfl, oa, hb⟩
  have hB2 := Lib.hid (hB1.out.trans (hb.mono hB1.out.size))
  have j2 := Blk.below j1.out hb
  have hI2 := Lib.hid (hI1.out.below hb)
  clear a0 a1
  have a0 : w2.cell? ⟨w.heap.size, 0, none⟩ = some (.slice A1 n1 c1) := j2.cell 0
  have a1 : w2.cell? ⟨w.heap.size, 1, none⟩ = some (.slice A2 n2 c2) := j2.cell 1
  obtain ⟨Aa, ca, rfl⟩ : ∃ A c, va = .slice A l.length c := by
    rcases own_forms oa with ⟨e, e2⟩ | ⟨g, c, e⟩
    · exact ⟨none, 0, by rw [e, e2]⟩
    · exact ⟨_, _, e⟩
  obtain ⟨L, hL⟩ : ∃ L, L = l.length := ⟨_, rfl⟩
  rw [← hL] at oa ⊢
  have oa1 : Hid (w2.ownsRow (w.heap.size + 1) 3 1 (.slice Aa L ca) L (ivs .i64 l)) := Lib.hid (own_le oa (by have := j1.out.lt; omega))
  have hga : Hid (∀ g, (Value.slice Aa L ca).ownBlock = some g → g < w2.heap.size) := Lib.hid (fun g hg => (oa.lt g hg).2)
  replace j2 := Lib.hid j2
  replace hL := Lib.hid hL
  clear hb j1 hI1 hB1 oa
  go_wp2_with fail
  refine (iAddress_any _ _ P Q most _ hI2.out E hE.out l al hl.out).mono ?_
  rintro en w3 ⟨vb, rfl, ob, hb⟩
  have hB3 := Lib.hid (hB2.out.trans (hb.mono hB2.out.size))
  have j3 := Blk.below j2.out hb
  have hI3 := Lib.hid (hI2.out.below hb)
  replace oa1 := Lib.hid (own_below oa1.out hb)
  clear a0 a1
  have a0 : w3.cell? ⟨w.heap.size, 0, none⟩ = some (.slice A1 n1 c1) := j3.cell 0
  have a1 : w3.cell? ⟨w.heap.size, 1, none⟩ = some (.slice A2 n2 c2) := j3.cell 1
  have hz2 : Hid (w2.heap.size ≤ w3.heap.size) := Lib.hid hb.size
  rw [← hL.out] at ob
  obtain ⟨Ab, cb, rfl⟩ : ∃ A c, vb = .slice A L c := by
    rcases own_forms ob with ⟨e, e2⟩ | ⟨g, c, e⟩
    · exact ⟨none, 0, by rw [e, e2]⟩
    · exact ⟨_, _, e⟩
  have hgb : Hid (∀ g, (Value.slice Ab L cb).ownBlock = some g → w2.heap.size ≤ g ∧ g < w3.heap.size) := Lib.hid (fun g hg => ob.lt g hg)
  replace j3 := Lib.hid j3
  replace ob := Lib.hid ob
  clear hb j2 hI2 hB2
  go_wp2_with fail
  refine (ritmay_any _ _ P Q _ hI3.out).mono ?_
  rintro en w4 ⟨rfl, hb⟩
  have hB4 := Lib.hid (hB3.out.trans (hb.mono hB3.out.size))
  have j4 := Lib.hid (Blk.below j3.out hb)
  replace oa1 := Lib.hid (own_below oa1.out hb)
  replace ob := Lib.hid (own_below ob.out hb)
  have hz3 : Hid (w3.heap.size ≤ w4.heap.size) := Lib.hid hb.size
  clear hb j3 hI3 hB3 a0 a1
  cases hm : mayI P Q
  · have hv2 : Hid ((k = 0 ∧ ok = false ∧ e = 220) ∧ L = 0 ∧ al = false ∧ E = 220) := Lib.hid (by
      have e1 : rhoE P Q n = 220 := by simp [rhoE, hm]
      have e2 : rhoE P Q most = 220 := by simp [rhoE, hm]
      have h1 := hv.out
      rw [rhoV, if_neg (by rw [e1]; decide), e1] at h1
      have h2 := hl.out
      rw [adrR, if_neg (by rw [e2]; decide)] at h2
      simp at h1
      refine ⟨⟨by omega, h1.2.1, h1.2.2⟩, by rw [hL.out, ← (Prod.mk.inj h2).1]; rfl, (Prod.mk.inj h2).2.symm, by rw [hE.out, e2]⟩)
    obtain ⟨⟨rfl, rfl, rfl⟩, rfl, rfl, rfl⟩ := hv2.out
    clear hv2 hv hl hE hrr hra hm
    go_wp2_with fail
    refine (lives_any _).mono ?_
    rintro en w5 ⟨rfl, hb⟩
    have hB5 := Lib.hid (hB4.out.trans (hb.mono hB4.out.size))
    clear hb
    go_wp2_with fail
    go_ret
    exact ⟨rfl, hB5.out⟩
  · go_upto_region 6 with fail
    go_cut [77] from 72 to 77 (fun c wx => c = .bool (!(decide (1 ≤ n) && decide (n ≤ 4096))) ∧ w4 = wx)
    case first =>
      by_cases q1 : n < 1
      · have e1 : decide (1 ≤ n) = false := decide_eq_false (by omega)
        go_wp2_with fail
        go_meet
        case rel => exact ⟨by rw [e1]; rfl, rfl⟩
      · have e1 : decide (1 ≤ n) = true := decide_eq_true (by omega)
        by_cases q2 : 4096 < n
        · have e2 : decide (n ≤ 4096) = false := decide_eq_false (by omega)
          go_wp2_with fail
          go_meet
          case rel => exact ⟨by rw [e1, e2]; rfl, rfl⟩
        · have e2 : decide (n ≤ 4096) = true := decide_eq_true (by omega)
          go_wp2_with fail
          go_meet
          case rel => exact ⟨by rw [e1, e2]; rfl, rfl⟩
    obtain ⟨rfl, rfl⟩ := hcut
    go_upto_if 77 with fail
    go_cut [16, 17] from 77 to 104 (fun _ _ wx => Below w.heap.size w wx ∧ Blk wx w.heap.size 28 #[.slice A1 n1 c1, .slice A2 n2 c2] ∧ wx.ownsRow (w.heap.size + 1) 3 1 (.slice Aa L ca) L (ivs .i64 l) ∧ wx.ownsRow w2.heap.size 3 1 (.slice Ab L cb) L (ivs .i64 l) ∧ w4.heap.size ≤ wx.heap.size)
    case first =>
      by_cases q : 1 ≤ n ∧ n ≤ 4096
      · have hc : (!(decide (1 ≤ n) && decide (n ≤ 4096))) = false := by simp [q]
        rw [hc]
        obtain ⟨nn, rfl⟩ : ∃ nn : Nat, n = (nn : Int) := ⟨n.toNat, by omega⟩
        have hv2 : Hid (k = rhoN P Q nn ∧ ok = decide (0 < rhoN P Q nn) ∧ e = 0) := Lib.hid (by
          have e1 : rhoE P Q (nn : Int) = 0 := by unfold rhoE; rw [hm]; simp only [if_true]; rw [if_pos q]
          have h1 := hv.out
          rw [rhoV, if_pos e1, Int.toNat_natCast] at h1
          simp at h1
          exact ⟨by omega, h1.2.1, h1.2.2⟩)
        obtain rfl := hv2.out.2.2
        have hC := fun W h1 h2 => hrr.out hm nn W (by omega) h1 h2
        rw [← hv2.out.2.1, ← hv2.out.1] at hC
        have a0 : w4.cell? ⟨w.heap.size, 0, none⟩ = some (.slice A1 n1 c1) := j4.out.cell 0
        have a1 : w4.cell? ⟨w.heap.size, 1, none⟩ = some (.slice A2 n2 c2) := j4.out.cell 1
        replace hC := Lib.hid hC
        clear hc hv hl hE hrr hra hm q hv2
        go_wp2_with fail
        refine (hC.out _ (hR1.out.below hB4.out) (hR2.out.below hB4.out)).mono ?_
        rintro en w5 ⟨rfl, hb⟩
        have hr := Lib.hid (⟨hB4.out.trans (hb.mono hB4.out.size), Blk.below j4.out hb, own_below oa1.out hb, own_below ob.out hb, hb.size⟩ : Below w.heap.size w w5 ∧ Blk w5 w.heap.size 28 #[.slice A1 n1 c1, .slice A2 n2 c2] ∧ w5.ownsRow (w.heap.size + 1) 3 1 (.slice Aa L ca) L (ivs .i64 l) ∧ w5.ownsRow w2.heap.size 3 1 (.slice Ab L cb) L (ivs .i64 l) ∧ w4.heap.size ≤ w5.heap.size)
        clear hb a0 a1
        have hk1 : ((k : Int) != (k : Int)) = false := bne_self_eq_false _
        have hk2 : (ok != ok) = false := bne_self_eq_false _
        go_wp2_with fail
        go_meet
        case rel => exact hr.out
      · have hc : (!(decide (1 ≤ n) && decide (n ≤ 4096))) = true := by
          by_cases h1 : 1 ≤ n
          · have h2 : ¬ n ≤ 4096 := fun h => q ⟨h1, h⟩
            rw [decide_eq_false h2]; simp
          · rw [decide_eq_false h1]; simp
        rw [hc]
        have hv2 : Hid (k = 0 ∧ ok = false ∧ e = 2) := Lib.hid (by
          have e1 : rhoE P Q n = 2 := by unfold rhoE; rw [hm]; simp only [if_true]; rw [if_neg q]
          have h1 := hv.out
          rw [rhoV, if_neg (by rw [e1]; decide), e1] at h1
          simp at h1
          exact ⟨by omega, h1.2.1, h1.2.2⟩)
        obtain ⟨rfl, rfl, rfl⟩ := hv2.out
        have hr := Lib.hid (⟨hB4.out, j4.out, oa1.out, ob.out, Nat.le_refl _⟩ : Below w.heap.size w w4 ∧ Blk w4 w.heap.size 28 #[.slice A1 n1 c1, .slice A2 n2 c2] ∧ w4.ownsRow (w.heap.size + 1) 3 1 (.slice Aa L ca) L (ivs .i64 l) ∧ w4.ownsRow w2.heap.size 3 1 (.slice Ab L cb) L (ivs .i64 l) ∧ w4.heap.size ≤ w4.heap.size)
        clear hc hv hl hE hrr hra hm q hv2
        go_wp2_with fail
        go_meet
        case rel => exact hr.out
    clear oa1 ob hB4 j4
    obtain ⟨hB4, j4, oa1, ob, hz4⟩ := hcut
    replace hB4 := Lib.hid hB4
    replace j4 := Lib.hid j4
    replace oa1 := Lib.hid oa1
    replace ob := Lib.hid ob
    replace hz4 := Lib.hid hz4
    rcases rhoE_cases (P := P) (Q := Q) (n := most) with ⟨e1, e2⟩ | ⟨e1, e2, e3⟩ | ⟨e1, e2, e3, e4⟩
    · rw [hm] at e2; cases e2
    · have hv2 : Hid (L = 0 ∧ al = false ∧ E = 2) := Lib.hid (by
        have h2 := hl.out
        rw [adrR, if_neg (by rw [e1]; decide)] at h2
        exact ⟨by rw [hL.out, ← (Prod.mk.inj h2).1]; rfl, (Prod.mk.inj h2).2.symm, by rw [hE.out, e1]⟩)
      obtain ⟨rfl, rfl, rfl⟩ := hv2.out
      clear hv2 hv hl hE hrr hra hm e1 e2
      by_cases q1 : most < 1
      · clear e3
        go_wp2_with fail
        refine (lives_any _).mono ?_
        rintro en w5 ⟨rfl, hb⟩
        have hB5 := Lib.hid (hB4.out.trans (hb.mono hB4.out.size))
        clear hb
        go_wp2_with fail
        go_ret
        exact ⟨rfl, hB5.out⟩
      · have q2 : 4096 < most := by omega
        clear e3
        go_wp2_with fail
        refine (lives_any _).mono ?_
        rintro en w5 ⟨rfl, hb⟩
        have hB5 := Lib.hid (hB4.out.trans (hb.mono hB4.out.size))
        clear hb
        go_wp2_with fail
        go_ret
        exact ⟨rfl, hB5.out⟩
    · obtain ⟨m, rfl⟩ : ∃ m : Nat, most = (m : Int) := ⟨most.toNat, by omega⟩
      obtain rfl : E = 0 := by rw [hE.out]; exact e1
      have hadr : adr P Q m = (l, al) := by have := hl.out; rwa [adrR, if_pos e1, Int.toNat_natCast] at this
      have hC := fun W h1 h2 => hra.out hm m W (by omega) (by omega) hadr h1 h2
      rw [← hL.out] at hC
      have q1 : ¬ (m : Int) < 1 := by omega
      have q2 : ¬ 4096 < (m : Int) := by omega
      have hL1 : Hid (1 ≤ L) := Lib.hid (by
        have := adr_len (P := P) (Q := Q) (m := m) (by omega)
        rw [hadr] at this
        rw [hL.out]; exact this)
      have hLm : L ≤ 4096 := by
        have := adr_le P Q m
        rw [hadr, ← hL.out] at this
        omega
      have a0 : wc.cell? ⟨w.heap.size, 0, none⟩ = some (.slice A1 n1 c1) := j4.out.cell 0
      have a1 : wc.cell? ⟨w.heap.size, 1, none⟩ = some (.slice A2 n2 c2) := j4.out.cell 1
      replace hC := Lib.hid hC
      clear hv hl hE hrr hra hm e1 e2 e3 e4 hadr
      go_wp2_with fail
      refine (hC.out _ (hR1.out.below hB4.out) (hR2.out.below hB4.out)).mono ?_
      rintro en w5 ⟨vc, rfl, oc, hb⟩
      have hB5 := Lib.hid (hB4.out.trans (hb.mono hB4.out.size))
      replace oa1 := Lib.hid (own_below oa1.out hb)
      replace ob := Lib.hid (own_below ob.out hb)
      have hz5 := hb.size
      obtain ⟨gc, cc, rfl⟩ : ∃ g c, vc = .slice (some ⟨g, 0, none⟩) L c := by
        rcases own_forms oc with ⟨e, e2⟩ | ⟨g, c, e⟩
        · have := hL1.out; omega
        · exact ⟨_, _, e⟩
      obtain ⟨ga, rfl⟩ : ∃ g, Aa = some ⟨g, 0, none⟩ := by
        rcases own_forms oa1.out with ⟨e, e2⟩ | ⟨g, c, e⟩
        · have := hL1.out; omega
        · injection e with e _ _; exact ⟨_, e⟩
      obtain ⟨gb, rfl⟩ : ∃ g, Ab = some ⟨g, 0, none⟩ := by
        rcases own_forms ob.out with ⟨e, e2⟩ | ⟨g, c, e⟩
        · have := hL1.out; omega
        · injection e with e _ _; exact ⟨_, e⟩
      have hga2 : Hid (ga < w2.heap.size ∧ w.heap.size < ga) := Lib.hid ⟨hga.out _ rfl, (oa1.out.lt _ rfl).1⟩
      have oc2 : Hid (w5.ownsRow w2.heap.size 3 1 (.slice (some ⟨gc, 0, none⟩) L cc) L (ivs .i64 l)) := Lib.hid (own_le oc (by have := hz2.out; have := hz3.out; have := hz4.out; omega))
      have hal : (al != al) = false := bne_self_eq_false _
      have hLL : ((L : Int) != (L : Int)) = false := bne_self_eq_false _
      clear hb hB4 j4 oc a0 a1 hz5 hC hga hgb
      go_wp2_with fail
      have hkd := own_kindD oa1.out (g := ga) rfl
      obtain ⟨cur0, hcur0, -⟩ := hkd
      have hrd1 := (rd_cells (own_rdn oa1.out)).2.2.2 (fun e => by have := hL1.out; rw [hL.out, e] at this; simp at this)
      obtain ⟨g', off, e, -, hca⟩ := hrd1
      injection e with e
      injection e with e1 e2
      subst e1 e2
      have hcur1 : ∀ (j x : Nat), 0 ≤ j → l[j]? = some x → cur0[j]? = some (.int .i64 (x : Int)) := fun j x _ hx => by
        have := hca j x hx
        rw [Nat.zero_add, cell_of_row w5 ga j cur0 _ _ hcur0] at this
        exact this
      replace hcur0 := Lib.hid hcur0
      replace hcur1 := Lib.hid hcur1
      clear hca
      go_loopw [20] (fun iv wr => ∃ (i : Nat) (cur : Array Value), iv = .int .i64 (i : Int) ∧ i ≤ L ∧ wr.heap[ga]? = some (.cells cur 3 (0, 0)) ∧ (∀ (j x : Nat), i ≤ j → l[j]? = some x → cur[j]? = some (.int .i64 (x : Int))) ∧ wr.ownsRow w2.heap.size 3 1 (.slice (some ⟨gb, 0, none⟩) L cb) L (ivs .i64 l) ∧ wr.ownsRow w2.heap.size 3 1 (.slice (some ⟨gc, 0, none⟩) L cc) L (ivs .i64 l) ∧ Below w.heap.size w wr) (fun iv _ => L - (intOf iv).toNat)
      case atStart => exact ⟨0, cur0, rfl, Nat.zero_le _, hcur0.out, hcur1.out, ob.out, oc2.out, hB5.out⟩
      case round =>
        clear hcur0 hcur1 oa1 ob oc2 hB5
        obtain ⟨i, cur, rfl, hi, hcur, hcx, ob, oc, hBr⟩ := hrel
        by_cases h0 : i < L
        · have h0I : (i : Int) < (L : Int) := by omega
          obtain ⟨x, hx⟩ : ∃ x, l[i]? = some x := ⟨_, List.getElem?_eq_getElem (by rw [← hL.out]; exact h0)⟩
          have d0 : wr.cell? ⟨ga, i, none⟩ = some (.int .i64 (x : Int)) := by rw [cell_of_row wr ga i cur _ _ hcur]; exact hcx i x (Nat.le_refl _) hx
          obtain ⟨g', off, e, -, hcc⟩ := (rd_cells (own_rdn oc)).2.2.2 (fun e => by have := hL1.out; rw [hL.out, e] at this; simp at this)
          injection e with e
          injection e with e1 e2
          subst e1 e2
          have d1 : wr.cell? ⟨gc, i, none⟩ = some (.int .i64 (x : Int)) := by have := hcc i x hx; rwa [Nat.zero_add] at this
          have hxx : ((x : Int) != (x : Int)) = false := bne_self_eq_false _
          have hga3 := hga2.out
          have hcur2 : ∀ nq, ((wr.drewN nq).setCell ⟨ga, i, none⟩ (.int .i64 (-1))).heap[ga]? = some (.cells (cur.setIfInBounds i (.int .i64 (-1))) 3 (0, 0)) := fun nq => Blk.set_ (show Blk (wr.drewN nq) ga 3 cur from hcur) i _
          have hcx2 : ∀ (j x : Nat), i + 1 ≤ j → l[j]? = some x → (cur.setIfInBounds i (.int .i64 (-1)))[j]? = some (.int .i64 (x : Int)) := fun j x hj hx => by
            rw [Array.getElem?_setIfInBounds_ne (by omega)]
            exact hcx j x (by omega) hx
          have f0 : ∀ nq, (wr.drewN nq).frozen? ⟨ga, i, none⟩ = false := fun nq => Blk.frozen (show Blk (wr.drewN nq) ga 3 cur from hcur) i
          have hob2 : ∀ nq, ((wr.drewN nq).setCell ⟨ga, i, none⟩ (.int .i64 (-1))).ownsRow w2.heap.size 3 1 (.slice (some ⟨gb, 0, none⟩) L cb) L (ivs .i64 l) := fun nq => ownsRow_setCell_below (own_drewN ob nq) (by show ga < _; omega) _
          have hoc2 : ∀ nq, ((wr.drewN nq).setCell ⟨ga, i, none⟩ (.int .i64 (-1))).ownsRow w2.heap.size 3 1 (.slice (some ⟨gc, 0, none⟩) L cc) L (ivs .i64 l) := fun nq => ownsRow_setCell_below (own_drewN oc nq) (by show ga < _; omega) _
          have hBr2 : ∀ nq, Below w.heap.size w ((wr.drewN nq).setCell ⟨ga, i, none⟩ (.int .i64 (-1))) := fun nq => (below_drewN hBr nq).setCell (p := ⟨ga, i, none⟩) (by show _ ≤ ga; omega) _
          replace hcur2 := Lib.hid hcur2
          replace hcx2 := Lib.hid hcx2
          replace hob2 := Lib.hid hob2
          replace hoc2 := Lib.hid hoc2
          replace hBr2 := Lib.hid hBr2
          replace f0 := Lib.hid f0
          replace hx := Lib.hid hx
          clear hcur hcx ob oc hBr hcc hga3
          go_wp2_with fail
          go_quiet (fail)
          have e0 := f0.out nq
          have e3 : (wr.drewN nq).cell? ⟨ga, i, none⟩ = some (.int .i64 (x : Int)) := d0
          go_wp2_with fail
          go_roundw
          case rel => exact ⟨i + 1, _, by go_num, by omega, hcur2.out nq, hcx2.out, hob2.out nq, hoc2.out nq, hBr2.out nq⟩
          case measure => simp [intOf]; omega
        · obtain rfl : i = L := by omega
          have h0I : ¬ (i : Int) < (i : Int) := by omega
          replace ob := Lib.hid ob
          replace oc := Lib.hid oc
          replace hBr := Lib.hid hBr
          clear hcur hcx
          go_wp2_with fail
          go_loopw [21] (fun iv wq => ∃ (j nd : Nat), iv = .int .i64 (j : Int) ∧ j ≤ i ∧ wq = wr.drewN nd) (fun iv _ => i - (intOf iv).toNat)
          case atStart => exact ⟨0, 0, rfl, Nat.zero_le _, rfl⟩
          case round =>
            obtain ⟨j, nd, rfl, hj, rfl⟩ := hrel
            by_cases h1 : j < i
            · have h1I : (j : Int) < (i : Int) := by omega
              obtain ⟨x, hx⟩ : ∃ x, l[j]? = some x := ⟨_, List.getElem?_eq_getElem (by rw [← hL.out]; exact h1)⟩
              obtain ⟨g', off, e, -, hcb⟩ := (rd_cells (own_rdn ob.out)).2.2.2 (fun e => by have := hL1.out; rw [hL.out, e] at this; simp at this)
              injection e with e
              injection e with e1 e2
              subst e1 e2
              obtain ⟨g', off, e, -, hcc⟩ := (rd_cells (own_rdn oc.out)).2.2.2 (fun e => by have := hL1.out; rw [hL.out, e] at this; simp at this)
              injection e with e
              injection e with e1 e2
              subst e1 e2
              have d0 : wr.cell? ⟨gb, j, none⟩ = some (.int .i64 (x : Int)) := by have := hcb j x hx; rwa [Nat.zero_add] at this
              have d1 : wr.cell? ⟨gc, j, none⟩ = some (.int .i64 (x : Int)) := by have := hcc j x hx; rwa [Nat.zero_add] at this
              have hxx : ((x : Int) != (x : Int)) = false := bne_self_eq_false _
              replace hx := Lib.hid hx
              clear hcb hcc
              go_wp2_with fail
              go_quiet (fail)
              go_wp2_with fail
              go_roundw
              case rel => exact ⟨j + 1, nd + nq, by go_num, by omega, by first | rfl | rw [World.drewN_drewN]⟩
              case measure => simp [intOf]; omega
            · obtain rfl : j = i := by omega
              have h1I : ¬ (j : Int) < (j : Int) := by omega
              have hB9 := Lib.hid (below_drewN hBr.out nd)
              clear hBr
              go_wp2_with fail
              refine (lives_any _).mono ?_
              rintro en w9 ⟨rfl, hb⟩
              have hB5 := Lib.hid (hB9.out.trans (hb.mono hB9.out.size))
              clear hb
              go_wp2_with fail
              go_ret
              exact ⟨rfl, hB5.out⟩
end Go.Proofs.YtbddlbhanpjdnaaDoor
