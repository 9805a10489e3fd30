/- Package angle: number, Digits; filigreelaw21.bytes. · Package angle: Digits; filigreelaw21.bytes. -/
import Derived.Test.YtciafmnideihjaaWideI
import Derived.Test.YtciafmnideihjaaBackP
namespace Go.Proofs.Ytciafmnideihjaa
open Go.RowKit Go.Sort

/-- What digits to a base say. -/
def numL (d : Nat) (l : List Nat) : Nat := l.foldl (fun a x => a * d + x) 0
theorem numL_snoc (d : Nat) (l : List Nat) (x : Nat) : numL d (l ++ [x]) = numL d l * d + x := by simp [numL]
theorem numL_take {d : Nat} {l : List Nat} {k x : Nat} (h : l[k]? = some x) : numL d (l.take (k + 1)) = numL d (l.take k) * d + x := by
  have hlt := lt_of_getElem? h
  have e : l[k] = x := by rw [List.getElem?_eq_getElem hlt] at h; exact Option.some.inj h
  rw [List.take_succ_eq_append_getElem hlt, e, numL_snoc]
theorem numL_lt {d : Nat} (hd : d ≤ 256) : ∀ (l : List Nat), (∀ x, x ∈ l → x < 256) → numL d l < 256 ^ l.length := by
  intro l
  induction l using snocInd with
  | nil => intro _; simp [numL]
  | snoc l x ih =>
    intro h
    rw [numL_snoc, List.length_append, show l.length + [x].length = l.length + 1 by simp, Nat.pow_succ]
    have h1 := ih fun y hy => h y (by simp [hy])
    have h2 := h x (by simp)
    have h3 : numL d l * d ≤ numL d l * 256 := Nat.mul_le_mul_left _ hd
    have h4 : (numL d l + 1) * 256 ≤ 256 ^ l.length * 256 := Nat.mul_le_mul_right _ h1
    omega
theorem dg_of_256 {n k : Nat} (h : n < 256 ^ k) : (dg n).length ≤ k :=
  dg_len_le_of_lt (Nat.lt_of_lt_of_le h (Nat.pow_le_pow_left (by omega) k))

set_option maxRecDepth 100000 in
set_option maxHeartbeats 1000000 in
/-- angle.number -/
theorem number_any (d : Nat) (v : Value) (l : List Nat) (w : World) (hd : d ≤ 64) (hv : Rd .u8 5 w v l) (hs : ∀ x, x ∈ l → x < 256) (hlen : l.length ≤ 100000) :
    Calls Try.prog 74 #[.int .i64 (d : Int), v] w (RetNew ((numL d l : Nat) : Int) w) := by
  obtain ⟨A, c, rfl, h1, h2, h3⟩ := id hv
  obtain ⟨L, hL⟩ : ∃ L, L = l.length := ⟨_, rfl⟩
  rw [← hL] at h1 hlen ⊢
  have kn := Big.new w
  have hB0 : Below w.heap.size w (w.alloc (.cells #[.bool false, .slice none 0 0] 120)) := (Below.refl _ w).alloc (Nat.le_refl _) _
  replace hv := Lib.hid hv
  replace hs := Lib.hid hs
  replace hL := Lib.hid hL
  replace kn := Lib.hid kn
  replace hB0 := Lib.hid hB0
  clear h3
  go_enter Try.func74, Try.ntmps74
  go_wp2_with fail
  refine (newInt_any d _ (by omega)).mono ?_
  rintro e w1 ⟨pb, rfl, hpb, hbig, hb⟩
  have kn1 := Lib.hid (kn.out.below hb)
  have hB1 := Lib.hid (hB0.out.trans (hb.mono hB0.out.size))
  have hpn : Hid (pb ≠ w.heap.size) := Lib.hid (by simp at hpb; omega)
  have hpb' : Hid (w.heap.size ≤ pb) := Lib.hid (by simp at hpb; omega)
  replace hbig := Lib.hid hbig
  clear hb hpb kn hB0
  go_wp2_with fail
  go_loopw [14] (fun i wr => ∃ k : Nat, i = .int .i64 (k : Int) ∧ k ≤ L ∧ Big wr w.heap.size 0 ((numL d (l.take k) : Nat) : Int) ∧ Big wr pb 0 (d : Int) ∧ Below w.heap.size w wr) (fun i _ => L - (intOf i).toNat)
  case atStart => exact ⟨0, rfl, Nat.zero_le _, kn1.out, hbig.out, hB1.out⟩
  case round =>
    obtain ⟨k, rfl, hk, hn, hbg, hB⟩ := hrel
    replace hn := Lib.hid hn
    replace hbg := Lib.hid hbg
    by_cases h0 : k < L
    · have h0I : (k : Int) < (L : Int) := by omega
      obtain ⟨x, hx⟩ : ∃ x, l[k]? = some x := ⟨_, List.getElem?_eq_getElem (by rw [← hL.out]; exact h0)⟩
      have hxs : x < 256 := hs.out x (List.mem_of_getElem? hx)
      obtain ⟨ga, oa, ca, La, ea, -, -, hAa, hLa⟩ := hv.out.open_ (fun e => by have := hL.out; rw [e] at this; simp at this; omega)
      injection ea with ea1 _ ea2
      subst ea1 ea2
      have hcx : wr.cell? ⟨ga, oa + k, none⟩ = some (.int .u8 (x : Int)) := (hB.cell (p := ⟨ga, oa + k, none⟩) hAa.lt).trans (hAa.cell (hLa _ _ hx))
      obtain ⟨V, hV⟩ : ∃ V, V = numL d (l.take k) := ⟨_, rfl⟩
      have hVs := numL_lt (d := d) (by omega) (l.take k) (fun y hy => hs.out y (List.mem_of_mem_take hy))
      rw [← hV] at hVs
      have hVd : Hid ((dg V).length ≤ 1073741823) := Lib.hid (by
        have h1 := dg_of_256 hVs
        rw [List.length_take] at h1
        omega)
      have hVd2 : Hid ((dg (V * d)).length ≤ 1073741823) := Lib.hid (by
        have h2 : V * d < 256 ^ ((l.take k).length + 1) := by
          rw [Nat.pow_succ]
          have h3 : V * d ≤ V * 256 := Nat.mul_le_mul_left _ (by omega)
          have h4 : (V + 1) * 256 ≤ 256 ^ (l.take k).length * 256 := Nat.mul_le_mul_right _ hVs
          omega
        have h1 := dg_of_256 h2
        rw [List.length_take] at h1
        omega)
      have hdd : Hid ((dg d).length ≤ 1073741823) := Lib.hid (by have := dg_of_256 (n := d) (k := 1) (by omega); omega)
      have hxd : Hid ((dg x).length ≤ 1073741823) := Lib.hid (by have := dg_of_256 (n := x) (k := 1) (by omega); omega)
      have hnext : Hid (numL d (l.take (k + 1)) = V * d + x) := Lib.hid (by rw [numL_take hx, hV])
      rw [← hV] at hn
      replace hB := Lib.hid hB
      clear hVs hx hV
      go_wp2_with fail
      refine (mulBig_any w.heap.size 0 w.heap.size 0 pb 0 (V : Int) (d : Int) _ hn.out.slot hn.out hbg.out (by rw [Int.natAbs_natCast]; exact hVd.out) (by rw [Int.natAbs_natCast]; exact hdd.out)).mono ?_
      rintro e w2 ⟨rfl, hn2, hg⟩
      have hbg2 := Lib.hid (hbg.out.grown hn.out.slot hg hpn.out)
      have hB2 := Lib.hid (below_gb hB.out hg (Nat.le_refl _) hB.out.size)
      rw [← Int.natCast_mul] at hn2
      replace hn2 := Lib.hid hn2
      clear hg hcx
      go_wp2_with fail
      refine (newInt_any x _ (by omega)).mono ?_
      rintro e w3 ⟨px, rfl, hpx, hbx, hb⟩
      have hn3 := Lib.hid (hn2.out.below hb)
      have hbg3 := Lib.hid (hbg2.out.below hb)
      have hB3 := Lib.hid (hB2.out.trans (hb.mono hB2.out.size))
      replace hbx := Lib.hid hbx
      clear hb hpx
      go_wp2_with fail
      refine (addBig_any w.heap.size 0 w.heap.size 0 px 0 ((V * d : Nat) : Int) (x : Int) _ hn3.out.slot hn3.out hbx.out (by rw [Int.natAbs_natCast]; exact hVd2.out) (by rw [Int.natAbs_natCast]; exact hxd.out)).mono ?_
      rintro e w4 ⟨rfl, hn4, hg⟩
      have hbg4 := Lib.hid (hbg3.out.grown hn3.out.slot hg hpn.out)
      have hB4 := Lib.hid (below_gb hB3.out hg (Nat.le_refl _) hB3.out.size)
      rw [← Int.natCast_add, ← hnext.out] at hn4
      replace hn4 := Lib.hid hn4
      clear hg
      go_wp2_with fail
      go_roundw
      case rel => exact ⟨k + 1, by go_num, by omega, hn4.out, hbg4.out, hB4.out⟩
      case measure => simp [intOf]; omega
    · obtain rfl : k = L := by omega
      rw [hL.out, List.take_length] at hn
      have h0I : ¬ (k : Int) < (k : Int) := by omega
      replace hB := Lib.hid hB
      go_wp2_with fail
      go_ret
      exact ⟨w.heap.size, rfl, Nat.le_refl _, hn.out, hB.out⟩
end Go.Proofs.Ytciafmnideihjaa

namespace Go.Proofs.Ytciafmnideihjaa
open Go.RowKit Go.Sort

/-- The first n digits. -/
def digN (x y d i : Nat) : Nat := turnX x y d i * d / y
def digL (x y d n : Nat) : List Nat := (List.range n).map (digN x y d)
theorem digL_len (x y d n : Nat) : (digL x y d n).length = n := by simp [digL]
theorem digL_get {x y d n k : Nat} (h : k < n) : (digL x y d n)[k]? = some (digN x y d k) := by simp [digL, h]
theorem digL_succ (x y d n : Nat) : digL x y d (n + 1) = digL x y d n ++ [digN x y d n] := by simp [digL, List.range_succ]
theorem digN_lt {x y d i : Nat} (hy : 0 < y) (hd : 0 < d) : digN x y d i < d := by
  unfold digN
  rw [Nat.div_lt_iff_lt_mul hy, Nat.mul_comm d]
  exact Nat.mul_lt_mul_of_pos_right (Nat.mod_lt _ hy) hd
theorem digL_lt {x y d n : Nat} (hy : 0 < y) (hd : 0 < d) : ∀ z, z ∈ digL x y d n → z < d := by
  intro z hz
  obtain ⟨i, -, rfl⟩ := List.mem_map.1 hz
  exact digN_lt hy hd
/-- A digit off the lowest terms. -/
theorem digN_rd {x y d i N D : Nat} (hy : 0 < y) (h : (N, D) = rd (turnX x y d i) y) : N * d / D = digN x y d i := by
  unfold rd at h
  injection h with h1 h2
  obtain ⟨g, hg⟩ : ∃ g, g = Nat.gcd (turnX x y d i) y := ⟨_, rfl⟩
  have hg0 : 0 < g := by rw [hg]; exact Nat.gcd_pos_of_pos_right _ hy
  rw [← hg] at h1 h2
  have e1 : g * N = turnX x y d i := by rw [h1]; exact Nat.mul_div_cancel' (by rw [hg]; exact Nat.gcd_dvd_left _ _)
  have e2 : g * D = y := by rw [h2]; exact Nat.mul_div_cancel' (by rw [hg]; exact Nat.gcd_dvd_right _ _)
  unfold digN
  rw [← e1]
  conv => rhs; rw [← e2]
  rw [Nat.mul_assoc, Nat.mul_div_mul_left _ _ hg0]

/-- What Digits tells: an error's number and the digits. -/
def digsE (neg : Bool) (num den : ByteArray) (d n : Int) : Int :=
  if okA neg num den then if roundB d && decide (0 ≤ n) then if n ≤ 1024 then 0 else 4 else 2 else 210
def digsR (neg : Bool) (num den : ByteArray) (d n : Int) : List Nat :=
  if okA neg num den && roundB d && decide (0 ≤ n) && decide (n ≤ 1024) then digL (be (sl num)) (be (sl den)) d.toNat n.toNat else []

set_option maxRecDepth 100000 in
set_option maxHeartbeats 2000000 in
/-- angle.Digits -/
theorem digits_any (neg : Bool) (num den : ByteArray) (d n : Int) (w : World) (z1 : num.size ≤ 9223372036854775807) (z2 : den.size ≤ 9223372036854775807) :
    Calls Try.prog 45 #[.agg #[.bool neg, .string num, .string den], .int .i64 d, .int .i64 n] w (RetRow 5 1 (digsE neg num den d n) (digsR neg num den d n).length (ivs .u8 (digsR neg num den d n)) w) := by
  obtain ⟨i0, hi, hz0, hz1, hz2⟩ := info_parts info_u8
  obtain ⟨x, y, hs1, hq1⟩ := smallV_form neg num den
  obtain ⟨E, hE⟩ : ∃ E, E = digsE neg num den d n := ⟨_, rfl⟩
  obtain ⟨R, hR⟩ : ∃ R, R = digsR neg num den d n := ⟨_, rfl⟩
  rw [← hE, ← hR]
  have hBW : Below w.heap.size w (w.alloc (.cells #[.bool neg, .string num, .string den] 24)) := (Below.refl _ w).alloc (Nat.le_refl _) _
  replace hE := Lib.hid hE
  replace hR := Lib.hid hR
  replace hBW := Lib.hid hBW
  replace hs1 := Lib.hid hs1
  replace hq1 := Lib.hid hq1
  go_enter Try.func45, Try.ntmps45
  go_wp2_with fail
  refine (small_any neg num den _ z1 z2).mono ?_
  rintro e v1 ⟨rfl, hb⟩
  rw [hs1.out]
  have kp := Blk.new v1 91 #[.int .u64 (x : Int), .int .u64 (y : Int)]
  have hB1 := hBW.out.trans (hb.mono hBW.out.size)
  have hgs : w.heap.size ≤ v1.heap.size := hB1.size
  replace hB1 := hB1.alloc hB1.size (.cells #[.int .u64 (x : Int), .int .u64 (y : Int)] 91)
  clear hb hBW
  go_upto_region 2 with fail
  generalize hv1 : v1.alloc (.cells #[.int .u64 (x : Int), .int .u64 (y : Int)] 91) = u at kp hB1 ⊢
  generalize hgp : v1.heap.size = gp at *
  replace kp := Lib.hid kp
  replace hB1 := Lib.hid hB1
  clear hv1 hgp
  cases hok : okA neg num den
  · have hEv : E = 210 := by rw [hE.out]; simp [digsE, hok]
    have hRv : R = [] := by rw [hR.out]; simp [digsR, hok]
    subst hEv hRv
    clear hE hR hq1 hok
    go_wp2_with fail
    go_ret2
    exact ⟨_, rfl, World.ownsRow_nil _ _ _ _, hB1.out⟩
  cases hr : roundB d
  · have hEv : E = 2 := by rw [hE.out]; simp [digsE, hok, hr]
    have hRv : R = [] := by rw [hR.out]; simp [digsR, hok, hr]
    subst hEv hRv
    replace hr := Lib.hid hr
    clear hE hR hq1 hok
    go_wp2_with fail
    refine (aturns_any d _).mono ?_
    rintro e v2 ⟨rfl, rfl⟩
    rw [hr.out]
    go_wp2_with fail
    go_ret2
    exact ⟨_, rfl, World.ownsRow_nil _ _ _ _, hB1.out⟩
  by_cases hn0 : n < 0
  · have hEv : E = 2 := by
      have : ¬ 0 ≤ n := by omega
      rw [hE.out]; simp [digsE, hok, hr, this]
    have hRv : R = [] := by
      have : ¬ 0 ≤ n := by omega
      rw [hR.out]; simp [digsR, hok, hr, this]
    subst hEv hRv
    replace hr := Lib.hid hr
    clear hE hR hq1 hok
    go_wp2_with fail
    refine (aturns_any d _).mono ?_
    rintro e v2 ⟨rfl, rfl⟩
    rw [hr.out]
    go_wp2_with fail
    go_ret2
    exact ⟨_, rfl, World.ownsRow_nil _ _ _ _, hB1.out⟩
  by_cases hn1 : 1024 < n
  · have hEv : E = 4 := by
      have h1 : 0 ≤ n := by omega
      have h2 : ¬ n ≤ 1024 := by omega
      rw [hE.out]; simp [digsE, hok, hr, h1, h2]
    have hRv : R = [] := by
      have h2 : ¬ n ≤ 1024 := by omega
      rw [hR.out]; simp [digsR, hok, hr, h2]
    subst hEv hRv
    replace hr := Lib.hid hr
    clear hE hR hq1 hok
    go_wp2_with fail
    refine (aturns_any d _).mono ?_
    rintro e v2 ⟨rfl, rfl⟩
    rw [hr.out]
    go_wp2_with fail
    go_ret2
    exact ⟨_, rfl, World.ownsRow_nil _ _ _ _, hB1.out⟩
  obtain ⟨ex, ey, k1, l⟩ := hq1.out hok
  have hd := roundB_iff.1 hr
  obtain ⟨dn, rfl⟩ := Int.eq_ofNat_of_zero_le (show 0 ≤ d by omega)
  obtain ⟨nn, rfl⟩ := Int.eq_ofNat_of_zero_le (show 0 ≤ n by omega)
  have hgc : Nat.gcd x y = 1 := by rw [ex, ey]; exact (okA_spec hok).2.2.2.1
  have hEv : E = 0 := by
    have h1 : (0 : Int) ≤ (nn : Int) := by omega
    have h2 : (nn : Int) ≤ 1024 := by omega
    rw [hE.out]; simp only [digsE, hok, hr, h1, h2, decide_true, Bool.and_self, if_true]
  have hRv : R = digL x y dn nn := by
    have h1 : (0 : Int) ≤ (nn : Int) := by omega
    have h2 : (nn : Int) ≤ 1024 := by omega
    rw [hR.out, ex, ey]; simp only [digsR, hok, hr, h1, h2, decide_true, Bool.and_self, if_true, Int.toNat_natCast]
  have hns : nn ≤ 1024 := by omega
  subst hEv
  replace hR := Lib.hid hRv
  have hdI : (2 : Int) ≤ (dn : Int) := hd.1
  have hdI2 : (dn : Int) ≤ 64 := hd.2
  have y0 : 0 < y := by omega
  have wd : IntKind.u64.wrap (dn : Int) = (dn : Int) := by rw [IntKind.wrap_u64]; omega
  replace hr := Lib.hid hr
  have hstart : Hid ((x, y) = rd (turnX x y dn 0) y) := Lib.hid (by
    rw [turnX_eq, Nat.pow_zero, Nat.mul_one, Nat.mod_eq_of_lt k1, rd_self hgc])
  clear hRv hok ex ey hd hq1 hs1 hE
  go_wp2_with fail
  refine (aturns_any (dn : Int) _).mono ?_
  rintro e v2 ⟨rfl, rfl⟩
  rw [hr.out]
  go_wp2_with fail
  go_loopw [10, 31] (fun v kk wr => ∃ (k N D : Nat), kk = .int .i64 (k : Int) ∧ k ≤ nn ∧ (N, D) = rd (turnX x y dn k) y ∧ wr.ownsRow (gp + 1) 5 1 v k (ivs .u8 (digL x y dn k)) ∧ Blk wr gp 91 #[.int .u64 (N : Int), .int .u64 (D : Int)] ∧ Below w.heap.size w wr) (fun _ kk _ => nn - (intOf kk).toNat)
  case atStart => exact ⟨0, x, y, rfl, Nat.zero_le _, hstart.out, World.ownsRow_nil _ _ _ _, kp.out, hB1.out⟩
  case round =>
    obtain ⟨k, N, D, rfl, hk, hND, hown, hp, hB⟩ := hrel
    replace hown := Lib.hid hown
    replace hB := Lib.hid hB
    by_cases h0 : k < nn
    · have h0I : (k : Int) < (nn : Int) := by omega
      have hf := rd_facts y0 (show turnX x y dn k < y from Nat.mod_lt _ y0)
      rw [← hND] at hf
      obtain ⟨f1, f2, f3⟩ := hf
      simp only at f2 f3
      have c0 : wr.cell? ⟨gp, 0, none⟩ = some (.int .u64 (N : Int)) := hp.cell 0
      have c1 : wr.cell? ⟨gp, 1, none⟩ = some (.int .u64 (D : Int)) := hp.cell 1
      obtain ⟨P, hP⟩ : ∃ P, P = N * dn := ⟨_, rfl⟩
      have hPs : P ≤ 2147483647 * 64 := by rw [hP]; exact Nat.mul_le_mul (by omega) (by omega)
      have hPi : (N : Int) * (dn : Int) = (P : Int) := by rw [hP]; push_cast; rfl
      obtain ⟨G, hG⟩ : ∃ G, G = P / D := ⟨_, rfl⟩
      have hGi : (P : Int) / (D : Int) = (G : Int) := by rw [hG]; rfl
      have hGd : G = digN x y dn k := by rw [hG, hP]; exact digN_rd y0 hND
      have hGs : G < 64 := by rw [hGd]; have := digN_lt (x := x) (i := k) y0 (show 0 < dn by omega); omega
      have hGm : (G : Int) % 256 = (G : Int) := by omega
      have hD0 : ¬ (D : Int) = 0 := by omega
      have hDp : (0 : Int) < (D : Int) := by omega
      obtain ⟨T, hT⟩ : ∃ T, T = turnX N D dn 1 := ⟨_, rfl⟩
      obtain ⟨N2, hN2⟩ : ∃ a, a = T / Nat.gcd T D := ⟨_, rfl⟩
      obtain ⟨D2, hD2⟩ : ∃ a, a = D / Nat.gcd T D := ⟨_, rfl⟩
      have hTe : Hid (T = N * dn % D) := Lib.hid (by rw [hT, turnX_eq, Nat.pow_one])
      have hnext : Hid ((N2, D2) = rd (turnX x y dn (k + 1)) y) := Lib.hid (by
        rw [← turn_turn y0 hND, ← hT, hN2, hD2]; rfl)
      have hdg : Hid (ivs .u8 (digL x y dn (k + 1)) = ivs .u8 (digL x y dn k) ++ [.int .u8 (G : Int)]) := Lib.hid (by
        rw [digL_succ, ivs_append, hGd]; rfl)
      have b1 : Hid (N < 4294967296) := Lib.hid (by omega)
      have b2 : Hid (D < 4294967296) := Lib.hid (by omega)
      have b3 : Hid (0 < D) := Lib.hid (by omega)
      replace hN2 := Lib.hid hN2
      replace hD2 := Lib.hid hD2
      replace hp := Lib.hid hp
      have wP : IntKind.u64.wrap (P : Int) = (P : Int) := by rw [IntKind.wrap_u64]; omega
      obtain ⟨wo, rfl⟩ : ∃ wo : World, wo = wr := ⟨_, rfl⟩
      clear hND f1 f2 f3 hP hG hGd hT
      go_wp2_with (at_builtin; refine wpList_append_own _ rfl _ _ 81 rfl (gp + 1) 5 i0 (.int .u8 0) 1 1 Try.underlying81 hi hz0 hz1 hz2 rfl (by decide) _ _ _ rfl (hown.out.alloc _) ⟨wo.heap.size, 0, none⟩ 1 1 [.int .u8 (G : Int)] rfl rfl ?d1 ?d2 ?d3 ?d4 ?d5 ?_)
      case d1 =>
        intro j u hj
        match j, hj with
        | 0, hj => simp at hj; subst hj; simp [Addr.add]
      case d2 => intro u hu; simp at hu; rw [hu]; rfl
      case d3 => unfold maxLen; omega
      case d4 => omega
      case d5 => have := hp.out.lt; simp; omega
      intro v' w3 hown' hgrow _
      have hB3 : Below w.heap.size w w3 := (hB.out.alloc hB.out.size _).grown hgrow (by have := hB.out.size; simp; omega) (fun k hk => by have := (hown.out.lt k hk).1; omega)
      have hp3 : Blk w3 gp 91 #[.int .u64 (N : Int), .int .u64 (D : Int)] := Blk.grown (hp.out.alloc _) hgrow (fun e => by have := (hown.out.lt _ e.symm).1; omega)
      rw [← hdg.out] at hown'
      have e0 : w3.cell? ⟨gp, 0, none⟩ = some (.int .u64 (N : Int)) := hp3.cell 0
      have e1 : w3.cell? ⟨gp, 1, none⟩ = some (.int .u64 (D : Int)) := hp3.cell 1
      replace hown' := Lib.hid hown'
      replace hp3 := Lib.hid hp3
      replace hB3 := Lib.hid hB3
      clear hgrow hown hp hB c0 c1 hdg
      go_wp2_with fail
      refine (turn_any N D dn T N2 D2 _ b3.out b1.out b2.out (by omega) hTe hN2 hD2).mono ?_
      rintro e w4 ⟨rfl, hb⟩
      have hown4 := own_below hown'.out hb
      have hp4 := Blk.below hp3.out hb
      have hB4 := hB3.out.trans (hb.mono hB3.out.size)
      have f0 := hp4.frozen 0
      have f1 := hp4.frozen 1
      have e0 : w4.cell? ⟨gp, 0, none⟩ = some (.int .u64 (N : Int)) := hp4.cell 0
      have e1 : w4.cell? ⟨gp, 1, none⟩ = some (.int .u64 (D : Int)) := hp4.cell 1
      have hp5 : Blk ((w4.setCell ⟨gp, 0, none⟩ (.int .u64 (N2 : Int))).setCell ⟨gp, 1, none⟩ (.int .u64 (D2 : Int))) gp 91 #[.int .u64 (N2 : Int), .int .u64 (D2 : Int)] := (hp4.set_ 0 _).set_ 1 _
      have hown5 : ((w4.setCell ⟨gp, 0, none⟩ (.int .u64 (N2 : Int))).setCell ⟨gp, 1, none⟩ (.int .u64 (D2 : Int))).ownsRow (gp + 1) 5 1 v' (k + 1) (ivs .u8 (digL x y dn (k + 1))) := ownsRow_setCell_below (ownsRow_setCell_below hown4 (by simp) _) (by simp) _
      have hB5 : Below w.heap.size w ((w4.setCell ⟨gp, 0, none⟩ (.int .u64 (N2 : Int))).setCell ⟨gp, 1, none⟩ (.int .u64 (D2 : Int))) := (hB4.setCell (p := ⟨gp, 0, none⟩) hgs _).setCell (p := ⟨gp, 1, none⟩) hgs _
      replace hown5 := Lib.hid hown5
      replace hp5 := Lib.hid hp5
      replace hB5 := Lib.hid hB5
      clear hb hown' hp3 hB3 hown4 hp4 hB4
      go_wp2_with fail
      go_roundw
      case rel => exact ⟨k + 1, N2, D2, by go_num, by omega, hnext.out, hown5.out, hp5.out, hB5.out⟩
      case measure => simp [intOf]; omega
    · obtain rfl : k = nn := by omega
      have h0I : ¬ (k : Int) < (k : Int) := by omega
      clear hND hp
      go_wp2_with fail
      go_ret2
      exact ⟨_, rfl, by rw [hR.out, digL_len]; exact own_le hown.out (by omega), hB.out⟩

set_option maxRecDepth 100000 in
set_option maxHeartbeats 1000000 in
/-- filigreelaw21.bytes, of two lists that are one. -/
theorem bytes_any {T1 T2 : TypeId} (v1 v2 : Value) (l : List Nat) (w : World) (h1 : Rd .u8 T1 w v1 l) (h2 : Rd .u8 T2 w v2 l) (hlen : l.length ≤ 1125899906842624) :
    Calls Try.prog 46 #[v1, v2] w fun e w' => e = .returned (.bool true) ∧ Dr w w' := by
  obtain ⟨A, c, rfl, a1, a2, a3⟩ := id h1
  obtain ⟨A', c', rfl, a1', a2', a3'⟩ := id h2
  obtain ⟨L, hL⟩ : ∃ L, L = l.length := ⟨_, rfl⟩
  rw [← hL] at a1 a1' hlen ⊢
  replace h1 := Lib.hid h1
  replace h2 := Lib.hid h2
  replace hL := Lib.hid hL
  clear a3 a3'
  go_enter Try.func46, Try.ntmps46
  go_wp2_with fail
  go_loopw [5] (fun i wr => ∃ k : Nat, i = .int .i64 (k : Int) ∧ k ≤ L ∧ Dr w wr) (fun i _ => L - (intOf i).toNat)
  case atStart => exact ⟨0, rfl, Nat.zero_le _, Dr.refl _⟩
  case round =>
    obtain ⟨k, rfl, hk, nd, rfl⟩ := hrel
    by_cases h0 : k < L
    · have h0I : (k : Int) < (L : Int) := by omega
      obtain ⟨x, hx⟩ : ∃ x, l[k]? = some x := ⟨_, List.getElem?_eq_getElem (by rw [← hL.out]; exact h0)⟩
      obtain ⟨ga, oa, ca, La, ea, -, -, hAa, hLa⟩ := h1.out.open_ (fun e => by have := hL.out; rw [e] at this; simp at this; omega)
      injection ea with ea1 _ ea2
      subst ea1 ea2
      obtain ⟨gb, ob, cb, Lb, eb, -, -, hAb, hLb⟩ := h2.out.open_ (fun e => by have := hL.out; rw [e] at this; simp at this; omega)
      injection eb with eb1 _ eb2
      subst eb1 eb2
      have hcx : w.cell? ⟨ga, oa + k, none⟩ = some (.int .u8 (x : Int)) := hAa.cell (hLa _ _ hx)
      have hcy : w.cell? ⟨gb, ob + k, none⟩ = some (.int .u8 (x : Int)) := hAb.cell (hLb _ _ hx)
      clear hx
      go_wp2_with fail
      go_quiet (fail)
      go_wp2_with fail
      go_roundw
      case rel => exact ⟨k + 1, by go_num, by omega, ⟨_, rfl⟩⟩
      case measure => simp [intOf]; omega
    · obtain rfl : k = L := by omega
      have h0I : ¬ (k : Int) < (k : Int) := by omega
      go_wp2_with fail
      go_ret
      exact ⟨rfl, ⟨_, rfl⟩⟩
end Go.Proofs.Ytciafmnideihjaa
