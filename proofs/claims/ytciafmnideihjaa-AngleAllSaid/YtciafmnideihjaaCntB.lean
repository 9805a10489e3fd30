/- Counts of angles: angle.count, angle.Count. -/
import Derived.Test.YtciafmnideihjaaCntA
namespace Go.Proofs.Ytciafmnideihjaa
open Go.RowKit Go.Sort

/-- The partial sums. -/
def cntP (d n j : Nat) : Int := dsum n (fun k => ((d : Int) ^ k - 1) * moe (n / k)) j
theorem cntP_all (d n : Nat) : cntP d n n = cntZ d n := rfl
theorem cntP_yes {d n j : Nat} (h : n % (j + 1) = 0) : cntP d n (j + 1) = cntP d n j + ((d : Int) ^ (j + 1) - 1) * moe (n / (j + 1)) := by
  unfold cntP dsum
  rw [rsum, if_pos h]
theorem cntP_no {d n j : Nat} (h : n % (j + 1) ≠ 0) : cntP d n (j + 1) = cntP d n j := by
  unfold cntP dsum
  rw [rsum, if_neg h, Int.add_zero]
theorem mul_moe {X : Int} (hX : 0 ≤ X) (n : Nat) : -X ≤ X * moe n ∧ X * moe n ≤ X := by
  rcases moe_cases n with h | h | h <;> rw [h]
  · rw [Int.mul_zero]; omega
  · rw [Int.mul_one]; omega
  · rw [Int.mul_neg, Int.mul_one]; omega
theorem cntP_abs {d n : Nat} (hd : 2 ≤ d) : ∀ j, -(rsum (fun m => (d : Int) ^ m - 1) j) ≤ cntP d n j ∧ cntP d n j ≤ rsum (fun m => (d : Int) ^ m - 1) j
  | 0 => ⟨Int.le_refl _, Int.le_refl _⟩
  | j + 1 => by
    have ih := cntP_abs (n := n) hd j
    have h4 := one_le_dpow (k := j + 1) hd
    have h0 : 0 ≤ (d : Int) ^ (j + 1) - 1 := by rw [pow_cast]; omega
    rw [rsum]
    by_cases h : n % (j + 1) = 0
    · rw [cntP_yes h]
      have := mul_moe h0 (n / (j + 1))
      omega
    · rw [cntP_no h]
      omega
theorem cntP_size {d n : Nat} (hd : 2 ≤ d) (j : Nat) : (cntP d n j).natAbs ≤ d ^ (j + 1) := by
  have h1 := cntP_abs (n := n) hd j
  have h2 := geo_less hd j
  rw [pow_cast] at h2
  omega
theorem dg_pow {d j z : Nat} (hd : d ≤ 64) (h : z ≤ d ^ j) : (dg z).length ≤ j + 1 := by
  refine dg_of_256 ?_
  have h1 : d ^ j ≤ 256 ^ j := Nat.pow_le_pow_left (by omega) _
  have h2 : 0 < 256 ^ j := Nat.pow_pos (by omega)
  rw [Nat.pow_succ]
  omega

set_option maxRecDepth 100000 in
set_option maxHeartbeats 1000000 in
/-- angle.count -/
theorem count_any (d n : Nat) (w : World) (hd2 : 2 ≤ d) (hd : d ≤ 64) (hn1 : 1 ≤ n) (hn : n ≤ 1024) :
    Calls Try.prog 64 #[.int .i64 (d : Int), .int .i64 (n : Int)] w (RetNew (cntZ d n) w) := by
  have kn := Lib.hid (Big.new w)
  have hB0 : Hid (Below w.heap.size w (w.alloc (.cells #[.bool false, .slice none 0 0] 120))) := Lib.hid ((Below.refl _ w).alloc (Nat.le_refl _) _)
  go_enter Try.func64, Try.ntmps64
  go_wp2_with fail
  go_loopw [6] (fun i wr => ∃ K : Nat, i = .int .i64 (K : Int) ∧ 1 ≤ K ∧ K ≤ n + 1 ∧ Big wr w.heap.size 0 (cntP d n (K - 1)) ∧ Below w.heap.size w wr) (fun i _ => n + 1 - (intOf i).toNat)
  case atStart => exact ⟨1, rfl, Nat.le_refl _, by omega, kn.out, hB0.out⟩
  case round =>
    obtain ⟨K, rfl, hK1, hK2, hs, hB⟩ := hrel
    replace hs := Lib.hid hs
    replace hB := Lib.hid hB
    clear kn hB0
    by_cases h0 : K ≤ n
    · have h0I : (K : Int) ≤ (n : Int) := by omega
      obtain ⟨R, hR⟩ : ∃ R, R = n % K := ⟨_, rfl⟩
      have hRi : (n : Int) % (K : Int) = (R : Int) := by rw [hR]; rfl
      have hRi' : (n : Int).tmod (K : Int) = (R : Int) := by rw [hR]; exact tmod_nat n K
      have hKz : ¬ (K : Int) = 0 := by omega
      by_cases hR0 : R = 0
      · subst hR0
        obtain ⟨q, hq⟩ : ∃ q, q = n / K := ⟨_, rfl⟩
        have hqi : (n : Int) / (K : Int) = (q : Int) := by rw [hq]; rfl
        have hqi' : (n : Int).tdiv (K : Int) = (q : Int) := by rw [hq]; exact tdiv_nat n K
        have hq0 : 0 < q := by rw [hq]; exact Nat.div_pos h0 hK1
        have hqn : q ≤ n := by rw [hq]; exact Nat.div_le_self _ _
        obtain ⟨m, hm⟩ : ∃ m, m = moe q := ⟨_, rfl⟩
        have hmc : m = 0 ∨ m = 1 ∨ m = -1 := by rw [hm]; exact moe_cases q
        obtain ⟨E, hE⟩ : ∃ E, E = d ^ K := ⟨_, rfl⟩
        have hE1 : 1 ≤ E := by rw [hE]; exact one_le_dpow hd2
        have hnext : Hid (cntP d n (K - 1) + ((E : Int) - ((1 : Nat) : Int)) * m = cntP d n K) := Lib.hid (by
          obtain ⟨j, rfl⟩ : ∃ j, K = j + 1 := ⟨K - 1, by omega⟩
          rw [cntP_yes hR.symm, pow_cast, ← hE, ← hq, ← hm]
          rfl)
        have z1 : Hid ((dg (d ^ K)).length ≤ 1073741823) := Lib.hid (by have := dg_pow (j := K) hd (Nat.le_refl _); omega)
        have hX0 : (0 : Int) ≤ (E : Int) - ((1 : Nat) : Int) := by omega
        have hmm := mul_moe hX0 q
        rw [← hm] at hmm
        obtain ⟨X, hX⟩ : ∃ X, X = (E : Int) - ((1 : Nat) : Int) := ⟨_, rfl⟩
        rw [← hX] at hnext hmm hX0
        have z2 : Hid ((dg (E : Int).natAbs).length ≤ 1073741823) := Lib.hid (by have := dg_pow (z := E) (j := K) hd (by omega); rw [Int.natAbs_natCast]; omega)
        have z3 : Hid ((dg ((1 : Nat) : Int).natAbs).length ≤ 1073741823) := Lib.hid (by have := dg_pow (d := 1) (z := 1) (j := 0) (by omega) (by omega); rw [Int.natAbs_natCast]; omega)
        have z4 : Hid ((dg X.natAbs).length ≤ 1073741823) := Lib.hid (by have := dg_pow (z := X.natAbs) (j := K) hd (by omega); omega)
        have z5 : Hid ((dg m.natAbs).length ≤ 1073741823) := Lib.hid (by have := dg_pow (d := 1) (z := m.natAbs) (j := 0) (by omega) (by omega); omega)
        have z6 : Hid ((dg (X * m).natAbs).length ≤ 1073741823) := Lib.hid (by have := dg_pow (z := (X * m).natAbs) (j := K) hd (by omega); omega)
        have z7 : Hid ((dg (cntP d n (K - 1)).natAbs).length ≤ 1073741823) := Lib.hid (by have := dg_pow (j := K - 1 + 1) hd (cntP_size (n := n) hd2 (K - 1)); omega)
        obtain ⟨S, hS⟩ : ∃ S, S = cntP d n (K - 1) := ⟨_, rfl⟩
        rw [← hS] at hs hnext z7
        replace hm := Lib.hid hm
        replace hE := Lib.hid hE
        replace hX := Lib.hid hX
        replace hmc := Lib.hid hmc
        have hlt := hs.out.slot.lt
        have hne : Hid (w.heap.size ≠ wr.heap.size) := Lib.hid (by omega)
        have kA := Lib.hid (Big.new wr)
        have hs1 := Lib.hid (hs.out.alloc (.cells #[.bool false, .slice none 0 0] 120))
        have hB1 := Lib.hid (hB.out.alloc hB.out.size (.cells #[.bool false, .slice none 0 0] 120))
        obtain ⟨a, ha⟩ : ∃ a, a = wr.heap.size := ⟨_, rfl⟩
        have hsz : Hid (w.heap.size ≤ wr.heap.size) := Lib.hid hB.out.size
        clear hR hq hS hmm hX0 hs hB hlt
        go_wp2_with fail
        refine (newInt_any d _ (by omega)).mono ?_
        rintro e w1 ⟨pd, rfl, hpd, hbd, hb⟩
        have kA1 := Lib.hid (kA.out.below hb)
        have hs2 := Lib.hid (hs1.out.below hb)
        have hB2 := Lib.hid (hB1.out.trans (hb.mono hB1.out.size))
        have npd : Hid (pd ≠ wr.heap.size) := Lib.hid (by simp at hpd; omega)
        replace hbd := Lib.hid hbd
        clear hb hpd kA hs1 hB1
        go_wp2_with fail
        refine (newInt_any K _ (by omega)).mono ?_
        rintro e w2 ⟨pk, rfl, hpk, hbk, hb⟩
        have kA2 := Lib.hid (kA1.out.below hb)
        have hs3 := Lib.hid (hs2.out.below hb)
        have hbd2 := Lib.hid (hbd.out.below hb)
        have hB3 := Lib.hid (hB2.out.trans (hb.mono hB2.out.size))
        replace hbk := Lib.hid hbk
        clear hb hpk kA1 hs2 hB2 hbd
        go_wp2_with fail
        refine (expBig_any wr.heap.size 0 pd 0 pk 0 d K _ kA2.out.slot hbd2.out hbk.out (by omega) (by omega) z1.out _).mono ?_
        rintro e w3 ⟨rfl, kA3, hg⟩
        rw [← hE.out] at kA3
        have hs4 := Lib.hid (hs3.out.grown kA2.out.slot hg hne.out)
        have hB4 := Lib.hid (below_gb hB3.out hg hsz.out hB3.out.size)
        replace kA3 := Lib.hid kA3
        clear hg kA2 hs3 hB3 hbd2 hbk
        go_wp2_with fail
        refine (newInt_any 1 _ (by omega)).mono ?_
        rintro e w4 ⟨p1, rfl, hp1, hb1, hb⟩
        have kA4 := Lib.hid (kA3.out.below hb)
        have hs5 := Lib.hid (hs4.out.below hb)
        have hB5 := Lib.hid (hB4.out.trans (hb.mono hB4.out.size))
        replace hb1 := Lib.hid hb1
        clear hb hp1 kA3 hs4 hB4
        go_wp2_with fail
        refine (subBig_any wr.heap.size 0 wr.heap.size 0 p1 0 (E : Int) ((1 : Nat) : Int) _ kA4.out.slot kA4.out hb1.out z2.out z3.out).mono ?_
        rintro e w5 ⟨rfl, kA5, hg⟩
        rw [← hX.out] at kA5
        have hs6 := Lib.hid (hs5.out.grown kA4.out.slot hg hne.out)
        have hB6 := Lib.hid (below_gb hB5.out hg hsz.out hB5.out.size)
        replace kA5 := Lib.hid kA5
        clear hg kA4 hs5 hB5 hb1
        go_wp2_with fail
        refine (moebius_any q _ hq0 (by omega)).mono ?_
        rintro e w6 ⟨rfl, hb⟩
        rw [← hm.out]
        have kA6 := Lib.hid (kA5.out.below hb)
        have hs7 := Lib.hid (hs6.out.below hb)
        have hB7 := Lib.hid (hB6.out.trans (hb.mono hB6.out.size))
        clear hb kA5 hs6 hB6
        go_wp2_with fail
        refine (newIntS_any m _ hmc.out).mono ?_
        rintro e w7 ⟨pm, rfl, hpm, hbm, hb⟩
        have kA7 := Lib.hid (kA6.out.below hb)
        have hs8 := Lib.hid (hs7.out.below hb)
        have hB8 := Lib.hid (hB7.out.trans (hb.mono hB7.out.size))
        replace hbm := Lib.hid hbm
        clear hb hpm kA6 hs7 hB7
        go_wp2_with fail
        refine (mulBig_any wr.heap.size 0 wr.heap.size 0 pm 0 X m _ kA7.out.slot kA7.out hbm.out z4.out z5.out).mono ?_
        rintro e w8 ⟨rfl, kA8, hg⟩
        have hs9 := Lib.hid (hs8.out.grown kA7.out.slot hg hne.out)
        have hB9 := Lib.hid (below_gb hB8.out hg hsz.out hB8.out.size)
        replace kA8 := Lib.hid kA8
        clear hg kA7 hs8 hB8 hbm
        go_wp2_with fail
        refine (addBig_any w.heap.size 0 w.heap.size 0 wr.heap.size 0 S (X * m) _ hs9.out.slot hs9.out kA8.out z7.out z6.out).mono ?_
        rintro e w9 ⟨rfl, hs10, hg⟩
        rw [hnext.out] at hs10
        have hB10 := Lib.hid (below_gb hB9.out hg (Nat.le_refl _) hB9.out.size)
        replace hs10 := Lib.hid hs10
        clear hg hs9 hB9 kA8 hqi hqi'
        go_wp2_with fail
        go_roundw
        case rel => exact ⟨K + 1, by go_num, by omega, by omega, hs10.out, hB10.out⟩
        case measure => simp [intOf]; omega
      · have hRb : ((R : Int) == 0) = false := by simp; omega
        have hs2 : Hid (Big wr w.heap.size 0 (cntP d n K)) := Lib.hid (by
          obtain ⟨j, rfl⟩ : ∃ j, K = j + 1 := ⟨K - 1, by omega⟩
          rw [cntP_no (by omega)]
          exact hs.out)
        clear hR hs
        go_wp2_with fail
        go_roundw
        case rel => exact ⟨K + 1, by go_num, by omega, by omega, hs2.out, hB.out⟩
        case measure => simp [intOf]; omega
    · have h0I : ¬ (K : Int) ≤ (n : Int) := by omega
      have hs2 : Hid (Big wr w.heap.size 0 (cntZ d n)) := Lib.hid (by
        have := hs.out
        rw [show K - 1 = n by omega] at this
        exact this)
      clear hs
      go_wp2_with fail
      go_ret
      exact ⟨w.heap.size, rfl, Nat.le_refl _, hs2.out, hB.out⟩

/-- The number that Count tells. -/
def cntN (d n : Nat) : Nat := (cntZ d n).toNat
theorem cntN_eq {d n : Nat} (hd : 2 ≤ d) (h1 : 1 ≤ n) (h2 : n ≤ 1024) : cntZ d n = (cntN d n : Int) := by
  have := (cnt_bounds hd n h1 h2).1
  unfold cntN
  omega
theorem cntN_le {d n : Nat} (hd : 2 ≤ d) (h1 : 1 ≤ n) (h2 : n ≤ 1024) : cntN d n < d ^ n := by
  have := (cnt_bounds hd n h1 h2).2
  have h3 := one_le_dpow (k := n) hd
  rw [pow_cast] at this
  unfold cntN
  omega
/-- May the two numbers be? -/
def mayN (d n : Int) : Bool := roundB d && (decide (1 ≤ n) && decide (n ≤ 1024))
def CountV (d n : Int) : Value := if mayN d n then .tuple #[.string (natS (cntN d.toNat n.toNat)), .int .i64 0] else .tuple #[.string ⟨#[]⟩, .int .i64 2]

set_option maxRecDepth 100000 in
set_option maxHeartbeats 1000000 in
/-- angle.Count -/
theorem Count_any (d n : Int) (w : World) :
    Calls Try.prog 41 #[.int .i64 d, .int .i64 n] w (RetVal (CountV d n) w) := by
  obtain ⟨V, hV⟩ : ∃ V, V = CountV d n := ⟨_, rfl⟩
  rw [← hV]
  cases hr : roundB d
  · have hVe : Hid (V = .tuple #[.string ⟨#[]⟩, .int .i64 2]) := Lib.hid (by rw [hV]; simp [CountV, mayN, hr])
    replace hr := Lib.hid hr
    clear hV
    go_enter Try.func41, Try.ntmps41
    go_wp2_with fail
    refine (aturns_any d _).mono ?_
    rintro e v2 ⟨rfl, rfl⟩
    rw [hr.out]
    go_wp2_with fail
    go_ret2
    exact ⟨by rw [hVe.out]; rfl, Below.refl _ _⟩
  by_cases hn0 : n < 1
  · have hVe : Hid (V = .tuple #[.string ⟨#[]⟩, .int .i64 2]) := Lib.hid (by
      have : ¬ 1 ≤ n := by omega
      rw [hV]; simp [CountV, mayN, hr, this])
    replace hr := Lib.hid hr
    clear hV
    go_enter Try.func41, Try.ntmps41
    go_wp2_with fail
    refine (aturns_any d _).mono ?_
    rintro e v2 ⟨rfl, rfl⟩
    rw [hr.out]
    go_wp2_with fail
    go_ret2
    exact ⟨by rw [hVe.out]; rfl, Below.refl _ _⟩
  by_cases hn1 : 1024 < n
  · have hVe : Hid (V = .tuple #[.string ⟨#[]⟩, .int .i64 2]) := Lib.hid (by
      have : ¬ n ≤ 1024 := by omega
      rw [hV]; simp [CountV, mayN, hr, this])
    replace hr := Lib.hid hr
    clear hV
    go_enter Try.func41, Try.ntmps41
    go_wp2_with fail
    refine (aturns_any d _).mono ?_
    rintro e v2 ⟨rfl, rfl⟩
    rw [hr.out]
    go_wp2_with fail
    go_ret2
    exact ⟨by rw [hVe.out]; rfl, Below.refl _ _⟩
  have hd := roundB_iff.1 hr
  obtain ⟨dn, rfl⟩ := Int.eq_ofNat_of_zero_le (show 0 ≤ d by omega)
  obtain ⟨nn, rfl⟩ := Int.eq_ofNat_of_zero_le (show 0 ≤ n by omega)
  obtain ⟨N, hN⟩ : ∃ N, N = cntN dn nn := ⟨_, rfl⟩
  have hVe : Hid (V = .tuple #[.string (natS N), .int .i64 0]) := Lib.hid (by
    have h1 : (1 : Int) ≤ (nn : Int) := by omega
    have h2 : (nn : Int) ≤ 1024 := by omega
    rw [hV]; simp only [CountV, mayN, hr, h1, h2, decide_true, Bool.and_self, if_true, Int.toNat_natCast, hN])
  have hc := Lib.hid (cntN_eq (d := dn) (n := nn) (by omega) (by omega) (by omega))
  rw [← hN] at hc
  have hdg : Hid ((dg N).length ≤ 1073741) := Lib.hid (by
    have h1 := cntN_le (d := dn) (n := nn) (by omega) (by omega) (by omega)
    rw [← hN] at h1
    have h2 := dg_pow (d := dn) (z := N) (j := nn) (by omega) (by omega)
    omega)
  have hS : Hid (natS N = ⟨((natL N).map UInt8.ofNat).toArray⟩) := Lib.hid rfl
  have e1 : 2 ≤ dn := by omega
  have e2 : dn ≤ 64 := by omega
  replace hr := Lib.hid hr
  clear hV hN hd
  go_enter Try.func41, Try.ntmps41
  go_wp2_with fail
  refine (aturns_any (dn : Int) _).mono ?_
  rintro e v2 ⟨rfl, rfl⟩
  rw [hr.out]
  go_wp2_with fail
  refine (count_any dn nn _ e1 e2 (by omega) (by omega)).mono ?_
  rintro e w1 ⟨p, rfl, hp, hbig, hb⟩
  rw [hc.out] at hbig
  replace hbig := Lib.hid hbig
  replace hb := Lib.hid hb
  clear hp
  go_wp2_with fail
  refine (bytesBig_any p 0 N _ hbig.out hdg.out).mono ?_
  rintro e w2 ⟨g, rfl, hA, hg, hb2⟩
  have hB := Lib.hid (hb.out.trans (hb2.mono hb.out.size))
  have hcv := conv_str w2 g (natL N) (natL N).length hA natL_lt 22 Try.underlying22
  rw [← hS.out] at hcv
  clear hb hb2 hA hbig hg
  generalize (natL N).length = LN at hcv ⊢
  go_wp2_with fail
  go_ret2
  exact ⟨by rw [hVe.out]; rfl, hB.out⟩
end Go.Proofs.Ytciafmnideihjaa
