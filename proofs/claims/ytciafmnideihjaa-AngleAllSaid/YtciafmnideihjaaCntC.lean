/- Counts of angles: angle.All. -/
import Derived.Test.YtciafmnideihjaaCntB
import Derived.Test.YtciafmnideihjaaBackP
import Derived.Deep.CutBlock
namespace Go.Proofs.Ytciafmnideihjaa
open Go.RowKit Go.Sort

/-- The angles of the period n among the first k. -/
def allP (d n k : Nat) : List (Nat × Nat) := ((List.range k).map fun j => rd j (d ^ n - 1)).filter fun p => decide ((kindN p.2 d).2 = n)
def allL (d n : Nat) : List (Nat × Nat) := allP d n (d ^ n - 1)
theorem allP_yes {d n k : Nat} (h : (kindN (rd k (d ^ n - 1)).2 d).2 = n) : allP d n (k + 1) = allP d n k ++ [rd k (d ^ n - 1)] := by
  unfold allP
  rw [List.range_succ, List.map_append, List.filter_append]
  simp [h]
theorem allP_no {d n k : Nat} (h : (kindN (rd k (d ^ n - 1)).2 d).2 ≠ n) : allP d n (k + 1) = allP d n k := by
  unfold allP
  rw [List.range_succ, List.map_append, List.filter_append]
  simp [h]
theorem allP_len (d n k : Nat) : (allP d n k).length ≤ k := by
  unfold allP
  refine Nat.le_trans (List.length_filter_le _ _) ?_
  simp
def allE (d n : Int) : Int := if mayN d n then if cntN d.toNat n.toNat ≤ 4096 then 0 else 211 else 2
def allR (d n : Int) : List (Nat × Nat) := if mayN d n && decide (cntN d.toNat n.toNat ≤ 4096) then allL d.toNat n.toNat else []

set_option maxRecDepth 100000 in
set_option maxHeartbeats 2000000 in
/-- angle.All -/
theorem All_any (d n : Int) (w : World) :
    Calls Try.prog 42 #[.int .i64 d, .int .i64 n] w (RetRow 24 3 (allE d n) (allR d n).length (ratC (allR d n)) w) := by
  obtain ⟨i0, hi, hz0, hz1, hz2⟩ := info_parts info_ratio
  obtain ⟨E, hE⟩ : ∃ E, E = allE d n := ⟨_, rfl⟩
  obtain ⟨R, hR⟩ : ∃ R, R = allR d n := ⟨_, rfl⟩
  rw [← hE, ← hR]
  cases hr : roundB d
  · have hEv : E = 2 := by rw [hE]; simp [allE, mayN, hr]
    have hRv : R = [] := by rw [hR]; simp [allR, mayN, hr]
    subst hEv hRv
    replace hr := Lib.hid hr
    clear hE hR
    go_enter Try.func42, Try.ntmps42
    go_wp2_with fail
    refine (aturns_any d _).mono ?_
    rintro e v2 ⟨rfl, rfl⟩
    rw [hr.out]
    go_wp2_with fail
    go_ret2
    exact ⟨_, rfl, World.ownsRow_nil _ _ _ _, Below.refl _ _⟩
  by_cases hn0 : n < 1
  · have h1 : ¬ 1 ≤ n := by omega
    have hEv : E = 2 := by rw [hE]; simp [allE, mayN, hr, h1]
    have hRv : R = [] := by rw [hR]; simp [allR, mayN, hr, h1]
    subst hEv hRv
    replace hr := Lib.hid hr
    clear hE hR
    go_enter Try.func42, Try.ntmps42
    go_wp2_with fail
    refine (aturns_any d _).mono ?_
    rintro e v2 ⟨rfl, rfl⟩
    rw [hr.out]
    go_wp2_with fail
    go_ret2
    exact ⟨_, rfl, World.ownsRow_nil _ _ _ _, Below.refl _ _⟩
  by_cases hn1 : 1024 < n
  · have h1 : ¬ n ≤ 1024 := by omega
    have hEv : E = 2 := by rw [hE]; simp [allE, mayN, hr, h1]
    have hRv : R = [] := by rw [hR]; simp [allR, mayN, hr, h1]
    subst hEv hRv
    replace hr := Lib.hid hr
    clear hE hR
    go_enter Try.func42, Try.ntmps42
    go_wp2_with fail
    refine (aturns_any d _).mono ?_
    rintro e v2 ⟨rfl, rfl⟩
    rw [hr.out]
    go_wp2_with fail
    go_ret2
    exact ⟨_, rfl, World.ownsRow_nil _ _ _ _, Below.refl _ _⟩
  have hd := roundB_iff.1 hr
  obtain ⟨dn, rfl⟩ := Int.eq_ofNat_of_zero_le (show 0 ≤ d by omega)
  obtain ⟨nn, rfl⟩ := Int.eq_ofNat_of_zero_le (show 0 ≤ n by omega)
  have hd2 : 2 ≤ dn := by omega
  have hd64 : dn ≤ 64 := by omega
  have hn1' : 1 ≤ nn := by omega
  have hn2 : nn ≤ 1024 := by omega
  have hmay : mayN (dn : Int) (nn : Int) = true := by
    have h1 : (1 : Int) ≤ (nn : Int) := by omega
    have h2 : (nn : Int) ≤ 1024 := by omega
    simp only [mayN, hr, h1, h2, decide_true, Bool.and_self]
  obtain ⟨C, hC⟩ : ∃ C, C = cntN dn nn := ⟨_, rfl⟩
  have hc := Lib.hid (cntN_eq (d := dn) (n := nn) hd2 hn1' hn2)
  rw [← hC] at hc
  have hE2 : E = if C ≤ 4096 then 0 else 211 := by rw [hE, hC]; simp only [allE, hmay, if_true, Int.toNat_natCast]
  have hR2 : R = if C ≤ 4096 then allL dn nn else [] := by rw [hR, hC]; simp only [allR, hmay, Bool.true_and, decide_eq_true_eq, Int.toNat_natCast]
  have hlit : C ≤ 4096 → dn ^ nn < 2147483648 := fun h => cnt_little hd2 hn1' hn2 (by rw [hc.out]; omega)
  replace hr := Lib.hid hr
  clear hE hR hmay hC hd
  by_cases hC4 : C ≤ 4096
  rotate_left
  · rw [if_neg hC4] at hE2 hR2
    subst hE2 hR2
    have hcm : Hid (cmpI C 4096 = 1) := Lib.hid (by unfold cmpI; rw [if_neg (by omega), if_pos (by omega)])
    clear hlit
    go_enter Try.func42, Try.ntmps42
    go_wp2_with fail
    refine (aturns_any (dn : Int) _).mono ?_
    rintro e v2 ⟨rfl, rfl⟩
    rw [hr.out]
    go_wp2_with fail
    refine (count_any dn nn _ hd2 hd64 hn1' hn2).mono ?_
    rintro e w1 ⟨p, rfl, hp, hbig, hb⟩
    rw [hc.out] at hbig
    replace hbig := Lib.hid hbig
    replace hb := Lib.hid hb
    clear hp
    go_wp2_with fail
    refine (newInt_any 4096 _ (by omega)).mono ?_
    rintro e w2 ⟨p2, rfl, hp2, hbig2, hb2⟩
    have hbig' := Lib.hid (hbig.out.below hb2)
    have hB := Lib.hid (hb.out.trans (hb2.mono hb.out.size))
    replace hbig2 := Lib.hid hbig2
    clear hb hb2 hp2 hbig
    go_wp2_with fail
    refine (cmpBig_any p 0 p2 0 C 4096 _ hbig'.out hbig2.out).mono ?_
    rintro e w3 ⟨rfl, nd, rfl⟩
    rw [hcm.out]
    replace hB := Lib.hid (below_drewN hB.out nd)
    clear hbig' hbig2
    go_wp2_with fail
    go_ret2
    exact ⟨_, rfl, World.ownsRow_nil _ _ _ _, hB.out⟩
  rw [if_pos hC4] at hE2 hR2
  subst hE2
  replace hR2 := Lib.hid hR2
  have hcm : Hid (cmpI C 4096 = 0 ∨ cmpI C 4096 = -1) := Lib.hid (by
    unfold cmpI
    by_cases h : C < 4096
    · rw [if_pos h]; exact .inr rfl
    · rw [if_neg h, if_neg (by omega)]; exact .inl rfl)
  obtain ⟨Y, hY⟩ : ∃ Y, Y = dn ^ nn := ⟨_, rfl⟩
  have hYs := hlit hC4
  rw [← hY] at hYs
  have hY2 : 2 ≤ Y := by
    rw [hY]
    have := Nat.pow_le_pow_right (show 0 < dn by omega) hn1'
    rw [Nat.pow_one] at this
    omega
  have hpw : Hid (∀ k, k ≤ nn → dn ^ k ≤ Y) := Lib.hid (fun k hk => by rw [hY]; exact Nat.pow_le_pow_right (by omega) hk)
  replace hY := Lib.hid hY
  obtain ⟨den, hden⟩ : ∃ den, den = Y - 1 := ⟨_, rfl⟩
  have hdi : (Y : Int) - 1 = (den : Int) := by omega
  have hds : den < 2147483648 := by omega
  have hd1 : 1 ≤ den := by omega
  have hrdE : Hid (∀ k, rd k (dn ^ nn - 1) = (k / Nat.gcd k den, den / Nat.gcd k den)) := Lib.hid (fun k => by rw [← hY.out, ← hden]; rfl)
  have hRl : Hid (R = allP dn nn den) := Lib.hid (by rw [hR2.out, hden, hY.out]; rfl)
  have wd : IntKind.u64.wrap (dn : Int) = (dn : Int) := by rw [IntKind.wrap_u64]; omega
  clear hlit hC4 hden hR2
  go_enter Try.func42, Try.ntmps42
  go_wp2_with fail
  refine (aturns_any (dn : Int) _).mono ?_
  rintro e v2 ⟨rfl, rfl⟩
  rw [hr.out]
  go_wp2_with fail
  refine (count_any dn nn _ hd2 hd64 hn1' hn2).mono ?_
  rintro e w1 ⟨p, rfl, hp, hbig, hb⟩
  rw [hc.out] at hbig
  replace hbig := Lib.hid hbig
  replace hb := Lib.hid hb
  clear hp hc
  go_wp2_with fail
  refine (newInt_any 4096 _ (by omega)).mono ?_
  rintro e w2 ⟨p2, rfl, hp2, hbig2, hb2⟩
  have hbig' := Lib.hid (hbig.out.below hb2)
  have hB := Lib.hid (hb.out.trans (hb2.mono hb.out.size))
  replace hbig2 := Lib.hid hbig2
  clear hb hb2 hp2 hbig
  go_wp2_with fail
  refine (cmpBig_any p 0 p2 0 C 4096 _ hbig'.out hbig2.out).mono ?_
  rintro e w3 ⟨rfl, nd, rfl⟩
  replace hB := Lib.hid (below_drewN hB.out nd)
  clear hbig' hbig2
  obtain ⟨W, hW⟩ : ∃ W, W = w2.drewN nd := ⟨_, rfl⟩
  rw [← hW] at hB ⊢
  clear hW
  obtain ⟨cm, hcme⟩ : ∃ cm, cm = cmpI C 4096 := ⟨_, rfl⟩
  have hcm0 : ¬ 0 < cm := by rcases hcm.out with h | h <;> rw [hcme, h] <;> decide
  rw [← hcme]
  clear hcme hcm
  go_wp2_with fail
  go_loop [6, 30] (fun x i => ∃ k X : Nat, i = .int .i64 (k : Int) ∧ x = .int .u64 (X : Int) ∧ k ≤ nn ∧ X = dn ^ k) (fun _ i => nn - (intOf i).toNat)
  case atStart => exact ⟨0, 1, rfl, rfl, Nat.zero_le _, by simp⟩
  case round =>
    obtain ⟨k, X, rfl, rfl, hk, hX⟩ := hrel
    have hXs : X ≤ Y := by rw [hX]; exact hpw.out k hk
    by_cases h0 : k < nn
    · obtain ⟨Z, hZ⟩ : ∃ Z, Z = X * dn := ⟨_, rfl⟩
      have hZi : (X : Int) * (dn : Int) = (Z : Int) := by rw [hZ]; push_cast; rfl
      have hZ2 : Z = dn ^ (k + 1) := by rw [hZ, hX, Nat.pow_succ]
      have hZs : Z ≤ Y := by rw [hZ2]; exact hpw.out _ h0
      have h0I : (k : Int) < (nn : Int) := by omega
      replace hZ2 := Lib.hid hZ2
      clear hX hZ
      go_wp2_with fail
      go_round
      case rel => exact ⟨k + 1, Z, by go_num, by first | rfl | go_num, by omega, hZ2.out⟩
      case measure => simp [intOf]; omega
    · obtain rfl : k = nn := by omega
      have h0I : ¬ (k : Int) < (k : Int) := by omega
      have hXY : X = Y := by rw [hX, hY.out]
      subst hXY
      clear hX h0 wd
      have wd : IntKind.u64.wrap (dn : Int) = (dn : Int) := by rw [IntKind.wrap_u64]; omega
      go_wp2_with fail
      go_loopw [7, 40] (fun v kk wr => ∃ j : Nat, kk = .int .u64 (j : Int) ∧ j ≤ den ∧ wr.ownsRow w.heap.size 24 3 v (allP dn k j).length (ratC (allP dn k j)) ∧ Below w.heap.size w wr) (fun _ kk _ => den - (intOf kk).toNat)
      case atStart => exact ⟨0, rfl, Nat.zero_le _, World.ownsRow_nil _ _ _ _, hB.out⟩
      case round =>
        obtain ⟨j, rfl, hj, hown, hB⟩ := hrel
        replace hown := Lib.hid hown
        replace hB := Lib.hid hB
        by_cases hj0 : j < den
        · have hjI : (j : Int) < (den : Int) := by omega
          obtain ⟨N, hN⟩ : ∃ N, N = j / Nat.gcd j den := ⟨_, rfl⟩
          obtain ⟨D, hD⟩ : ∃ D, D = den / Nat.gcd j den := ⟨_, rfl⟩
          have hrd : rd j (dn ^ k - 1) = (N, D) := by rw [hrdE.out, hN, hD]
          have hf := rd_facts hd1 hj0
          have hrd2 : rd j den = (N, D) := by rw [hN, hD]; rfl
          rw [hrd2] at hf
          obtain ⟨f1, f2, f3⟩ := hf
          simp only at f1 f2 f3
          obtain ⟨A, hA⟩ : ∃ A, A = (kindN D dn).1 := ⟨_, rfl⟩
          obtain ⟨B, hBk⟩ : ∃ B, B = (kindN D dn).2 := ⟨_, rfl⟩
          have hkk : Hid (kindN D dn = (A, B)) := Lib.hid (by rw [hA, hBk])
          have hyes : B = k → allP dn k (j + 1) = allP dn k j ++ [(N, D)] := fun h => by rw [allP_yes (by rw [hrd, ← hBk]; exact h), hrd]
          have hno : B ≠ k → allP dn k (j + 1) = allP dn k j := fun h => allP_no (by rw [hrd, ← hBk]; exact h)
          have hlen := allP_len dn k j
          have b1 : Hid (j < 18446744073709551616) := Lib.hid (by omega)
          have b2 : Hid (den < 18446744073709551616) := Lib.hid (by omega)
          have b3 : Hid (N < 18446744073709551616) := Lib.hid (by omega)
          have b4 : Hid (D < 18446744073709551616) := Lib.hid (by omega)
          have b5 : Hid (0 < D) := Lib.hid (by omega)
          have b6 : Hid (D < 4294967296) := Lib.hid (by omega)
          replace hN := Lib.hid hN
          replace hD := Lib.hid hD
          replace hyes := Lib.hid hyes
          replace hno := Lib.hid hno
          clear hrd hrd2 f1 f2 f3 hA hBk
          obtain ⟨wo, rfl⟩ : ∃ wo : World, wo = wr := ⟨_, rfl⟩
          go_wp2_with fail
          refine (lowest_any j den N D _ b1.out b2.out (by omega) hN hD).mono ?_
          rintro e v1 ⟨rfl, hb⟩
          have hown1 := (own_below hown.out hb).alloc (.cells #[.int .u64 (N : Int), .int .u64 (D : Int)] 91)
          have hq := Blk.new v1 91 #[.int .u64 (N : Int), .int .u64 (D : Int)]
          have hB1 := hB.out.trans (hb.mono hB.out.size)
          replace hB1 := hB1.alloc hB1.size (.cells #[.int .u64 (N : Int), .int .u64 (D : Int)] 91)
          clear hb hown hB
          go_upto_region 16 with fail
          generalize hv2 : v1.alloc (.cells #[.int .u64 (N : Int), .int .u64 (D : Int)] 91) = v2 at hown1 hq hB1 ⊢
          generalize hg : v1.heap.size = g at *
          have d0 : v2.cell? ⟨g, 0, none⟩ = some (.int .u64 (N : Int)) := hq.cell 0
          have d1 : v2.cell? ⟨g, 1, none⟩ = some (.int .u64 (D : Int)) := hq.cell 1
          clear hv2 hg
          replace hown1 := Lib.hid hown1
          replace hq := Lib.hid hq
          replace hB1 := Lib.hid hB1
          go_wp2_with fail
          refine (kind_any D dn A B _ b5.out b6.out (by omega) hkk).mono ?_
          rintro e v3 ⟨rfl, hb⟩
          have hown2 := Lib.hid (own_below hown1.out hb)
          have hB2 := Lib.hid (hB1.out.trans (hb.mono hB1.out.size))
          replace hq := Lib.hid (Blk.below hq.out hb)
          clear hb d0 d1 hown1 hB1
          have d0 : v3.cell? ⟨g, 0, none⟩ = some (.int .u64 (N : Int)) := hq.out.cell 0
          have d1 : v3.cell? ⟨g, 1, none⟩ = some (.int .u64 (D : Int)) := hq.out.cell 1
          by_cases hBk : B = k
          · have hnx := hyes.out hBk
            have hl2 : Hid ((allP dn k (j + 1)).length = (allP dn k j).length + 1) := Lib.hid (by rw [hnx]; simp)
            have htk : Hid (ratC (allP dn k (j + 1)) = ratC (allP dn k j) ++ [.bool false, .string (natS N), .string (natS D)]) := Lib.hid (by rw [hnx, ratC_snoc])
            subst hBk
            clear hyes hno hnx
            go_wp2_with fail
            refine (ratioOf_any N D _ b3.out b4.out).mono ?_
            rintro e v4 ⟨rfl, hb⟩
            have hown3 := Lib.hid (own_below hown2.out hb)
            have hB3 := Lib.hid (hB2.out.trans (hb.mono hB2.out.size))
            clear hb d0 d1 hown2 hB2 hq
            simp only [ratV]
            go_wp2_with (at_builtin; refine wpList_append_own _ rfl _ _ 50 rfl w.heap.size 24 i0 (.agg #[.bool false, .string ⟨#[]⟩, .string ⟨#[]⟩]) 3 40 Try.underlying50 hi hz0 hz1 hz2 rfl (by decide) _ _ _ rfl (hown3.out.alloc _) ⟨v4.heap.size, 0, none⟩ 1 1 [.bool false, .string (natS N), .string (natS D)] rfl rfl ?d1 ?d2 ?d3 ?d4 ?d5 ?_)
            case d1 =>
              intro j u hj
              match j, hj with
              | 0, hj => simp at hj; subst hj; simp [Addr.add]
              | 1, hj => simp at hj; subst hj; simp [Addr.add]
              | 2, hj => simp at hj; subst hj; simp [Addr.add]
            case d2 => intro u hu; simp at hu; rcases hu with rfl | rfl | rfl <;> rfl
            case d3 => unfold maxLen; omega
            case d4 => omega
            case d5 => have := hB3.out.size; simp; omega
            intro v' w3 hown' hgrow _
            have hB4 : Below w.heap.size w w3 := (hB3.out.alloc hB3.out.size _).grown hgrow (by have := hB3.out.size; simp; omega) (fun k hk => by have := (hown3.out.lt k hk).1; omega)
            rw [← htk.out, ← hl2.out] at hown'
            replace hown' := Lib.hid hown'
            replace hB4 := Lib.hid hB4
            clear hgrow hown3 hB3 htk hl2
            go_wp2_with fail
            go_roundw
            case rel => exact ⟨j + 1, by go_num, by omega, hown'.out, hB4.out⟩
            case measure => simp [intOf]; omega
          · have hnx := hno.out hBk
            have hown3 := hown2.out
            rw [← hnx] at hown3
            replace hown3 := Lib.hid hown3
            have hBI : ((B : Int) == (k : Int)) = false := by simp; omega
            clear hyes hno hnx hq hown2
            go_wp2_with fail
            go_roundw
            case rel => exact ⟨j + 1, by go_num, by omega, hown3.out, hB2.out⟩
            case measure => simp [intOf]; omega
        · obtain rfl : j = den := by omega
          have hjI : ¬ (j : Int) < (j : Int) := by omega
          have hown2 := hown.out
          rw [← hRl.out] at hown2
          replace hown2 := Lib.hid hown2
          clear hown
          go_wp2_with fail
          go_ret2
          exact ⟨_, rfl, hown2.out, hB.out⟩
end Go.Proofs.Ytciafmnideihjaa
