/- The document's answer: filigreeref02.Pow; filigreeref21.Kind, Count. -/
import Derived.Test.YtciafmnideihjaaR02B
import Derived.Test.YtciafmnideihjaaCntP
namespace Go.Proofs.Ytciafmnideihjaa
open Go.RowKit Go.Sort

theorem natS_one : natS 1 = ⟨#[1]⟩ := by decide +kernel
theorem natS_inj {a b : Nat} (h : natS a = natS b) : a = b := by rw [← be_natS a, h, be_natS]
theorem natS_eq {a b : Nat} (h : (natS a).toList = (natS b).toList) : a = b := natS_inj (ba_eqB h)
theorem nb_pow {d j z : Nat} (hd : d ≤ 64) (h : z ≤ d ^ j) : (nb z).length ≤ j + 1 := by
  refine nb_small ?_
  have h1 : d ^ j ≤ 256 ^ j := Nat.pow_le_pow_left (by omega) _
  have h2 : 0 < 256 ^ j := Nat.pow_pos (by omega)
  rw [Nat.pow_succ]
  omega
theorem half_step (n q : Nat) : n / 2 ^ q = 2 * (n / 2 ^ (q + 1)) + n / 2 ^ q % 2 := by
  rw [Nat.pow_succ, ← Nat.div_div_eq_div_mul]
  omega

set_option maxRecDepth 100000 in
set_option maxHeartbeats 2000000 in
/-- filigreeref02.Pow, of what is not too long. -/
theorem rpow_any (a n : Nat) (w : World) (ha : 2 ≤ a) (hn : n ≤ 131072) (hs : (nb (a ^ n)).length ≤ 8000) :
    Calls Try.prog 69 #[.string (natS a), .int .i64 (n : Int)] w (RetVal (.tuple #[.string (natS (a ^ n)), .int .i64 0]) w) := by
  obtain ⟨r, hr⟩ : ∃ r, r = natS (a ^ n) := ⟨_, rfl⟩
  rw [← hr]
  by_cases h0 : n = 0
  · subst h0
    have hre : Hid (r = ⟨#[1]⟩) := Lib.hid (by rw [hr, Nat.pow_zero, natS_one])
    clear hr
    go_enter Try.func69, Try.ntmps69
    go_wp2_with fail
    go_ret2
    exact ⟨by rw [hre.out]; rfl, Below.refl _ _⟩
  have hnI : ((n : Int) == 0) = false := by simp; omega
  have hnI2 : ¬ (131072 : Int) < (n : Int) := by omega
  have hne1 : ¬ (natS a).toList = (⟨#[1]⟩ : ByteArray).toList := fun h => by
    rw [← natS_one] at h
    have := natS_eq h
    omega
  have hne0 : ¬ (natS a).toList = (⟨#[]⟩ : ByteArray).toList := fun h => by
    have := natS_eq (a := a) (b := 0) h
    omega
  rw [show (⟨#[1]⟩ : ByteArray).toList = [1] by decide +kernel] at hne1
  rw [show (⟨#[]⟩ : ByteArray).toList = [] by decide +kernel] at hne0
  replace hne1 : ((natS a).toList == [1]) = false := by simpa using hne1
  replace hne0 : (natS a).toList.isEmpty = false := by simpa using hne0
  have hle : ∀ k, k ≤ n → (nb (a ^ k)).length ≤ 8000 := fun k hk => Nat.le_trans (nb_len_mono (Nat.pow_le_pow_right (by omega) hk)) hs
  have hsq : ∀ k W, 2 * k ≤ n → Calls Try.prog 81 #[.string (natS (a ^ k)), .string (natS (a ^ k))] W (RetVal (.tuple #[.string (natS (a ^ (2 * k))), .int .i64 0]) W) := fun k W hk => by
    have e : a ^ k * a ^ k = a ^ (2 * k) := by rw [← Nat.pow_add]; congr 1; omega
    have h := rmul_any (a ^ k) (a ^ k) W (by have := hle k (by omega); omega) (by rw [e]; have := hle _ hk; omega)
    rwa [e] at h
  have hmu : ∀ k W, k + 1 ≤ n → Calls Try.prog 81 #[.string (natS (a ^ k)), .string (natS a)] W (RetVal (.tuple #[.string (natS (a ^ (k + 1))), .int .i64 0]) W) := fun k W hk => by
    have e : a ^ k * a = a ^ (k + 1) := (Nat.pow_succ a k).symm
    have h1 := hle 1 (by omega)
    rw [Nat.pow_one] at h1
    have h := rmul_any (a ^ k) a W (by have := hle k (by omega); omega) (by rw [e]; have := hle _ hk; omega)
    rwa [e] at h
  obtain ⟨s, hsa⟩ : ∃ s, s = natS a := ⟨_, rfl⟩
  rw [← hsa] at hne1 hne0 hmu
  rw [← hsa]
  obtain ⟨F, hF⟩ : ∃ F : Nat → ByteArray, F = fun k => natS (a ^ k) := ⟨_, rfl⟩
  have hFv : ∀ k, natS (a ^ k) = F k := fun k => by rw [hF]
  simp only [hFv] at hsq hmu hr
  have hF0 : Hid (F 0 = ⟨#[1]⟩) := Lib.hid (by rw [hF]; show natS (a ^ 0) = _; rw [Nat.pow_zero, natS_one])
  replace hsq := Lib.hid hsq
  replace hmu := Lib.hid hmu
  replace hr := Lib.hid hr
  clear hFv hF hle hs hsa
  go_enter Try.func69, Try.ntmps69
  go_wp2_with fail
  go_loopw [6, 7] (fun o iv wr => ∃ (m : Nat) (z : Int), iv = .int .i64 z ∧ z = (m : Int) - 1 ∧ m ≤ 18 ∧ o = .string (F (n / 2 ^ m)) ∧ Below w.heap.size w wr) (fun _ iv _ => (intOf iv + 1).toNat)
  case atStart => exact ⟨18, 17, rfl, by omega, Nat.le_refl _, by rw [Nat.div_eq_of_lt (by omega), hF0.out], Below.refl _ _⟩
  case round =>
    obtain ⟨m, z, rfl, hz, hm, rfl, hB⟩ := hrel
    replace hB := Lib.hid hB
    rcases m with _ | q
    · obtain rfl : z = -1 := by omega
      clear hz
      have hfin : Hid (F (n / 2 ^ 0) = r) := Lib.hid (by rw [hr.out, Nat.pow_zero, Nat.div_one])
      go_wp2_with fail
      go_ret2
      exact ⟨by rw [← hfin.out]; rfl, hB.out⟩
    · obtain rfl : z = (q : Int) := by omega
      have hqI : (0 : Int) ≤ (q : Int) := by omega
      have hq17 : q ≤ 17 := by omega
      obtain ⟨H, hH⟩ : ∃ H, H = n / 2 ^ (q + 1) := ⟨_, rfl⟩
      obtain ⟨t, ht⟩ : ∃ t, t = n / 2 ^ q := ⟨_, rfl⟩
      have hti : (n : Int) / 2 ^ q = (t : Int) := by rw [ht]; push_cast; rfl
      have hst := half_step n q
      rw [← hH, ← ht] at hst
      have htn : t ≤ n := by rw [ht]; exact Nat.div_le_self _ _
      have hand := and_one_i64 t (by omega)
      rw [← hH]
      have htq := Lib.hid ht
      clear hz ht hH
      go_wp2_with fail
      refine (hsq.out H _ (by omega)).mono ?_
      rintro e w1 ⟨rfl, hb⟩
      have hB1 := Lib.hid (hB.out.trans (hb.mono hB.out.size))
      clear hb hB
      rcases Nat.mod_two_eq_zero_or_one t with hpar | hpar
      · rw [hpar] at hand
        have hand : bits .and .i64 (t : Int) 1 = 0 := hand
        have hn2 : Hid (F (2 * H) = F (n / 2 ^ q)) := Lib.hid (by rw [← htq.out]; congr 1; omega)
        clear hpar hst
        go_wp2_with fail
        go_roundw
        case rel => exact ⟨q, (q : Int) - 1, by first | rfl | go_num, rfl, by omega, by rw [← hn2.out], hB1.out⟩
        case measure => simp [intOf]
      · rw [hpar] at hand
        have hand : bits .and .i64 (t : Int) 1 = 1 := hand
        have hn2 : Hid (F (2 * H + 1) = F (n / 2 ^ q)) := Lib.hid (by rw [← htq.out]; congr 1; omega)
        have hle1 : 2 * H + 1 ≤ n := by omega
        clear hpar hst
        go_wp2_with fail
        refine (hmu.out (2 * H) _ hle1).mono ?_
        rintro e w2 ⟨rfl, hb⟩
        have hB2 := Lib.hid (hB1.out.trans (hb.mono hB1.out.size))
        clear hb hB1
        go_wp2_with fail
        go_roundw
        case rel => exact ⟨q, (q : Int) - 1, by first | rfl | go_num, rfl, by omega, by rw [← hn2.out], hB2.out⟩
        case measure => simp [intOf]

theorem one_mod {m d k : Nat} (hm : 0 < m) (hd : 1 ≤ d) : d ^ k % m = 1 % m ↔ One m d k := by
  rcases Nat.lt_or_ge 1 m with h | h
  · rw [Nat.mod_eq_of_lt h]
    exact one_iff h hd
  · obtain rfl : m = 1 := by omega
    simp [One, Nat.mod_one]

set_option maxRecDepth 100000 in
set_option maxHeartbeats 2000000 in
/-- filigreeref21.Kind -/
theorem rkind_any (x y d A B : Nat) (w : World) (h0 : 0 < y) (hy : y < 4294967296) (hd2 : 2 ≤ d) (hd : d ≤ 64) (hk : Hid (kindN y d = (A, B))) :
    Calls Try.prog 22 #[.agg #[.int .u64 (x : Int), .int .u64 (y : Int)], .int .i64 (d : Int)] w (RetVal (.tuple #[.int .i64 (A : Int), .int .i64 (B : Int)]) w) := by
  have kp := Blk.new w 34 #[.int .u64 (x : Int), .int .u64 (y : Int)]
  have hBW : Below w.heap.size w (w.alloc (.cells #[.int .u64 (x : Int), .int .u64 (y : Int)] 34)) := (Below.refl _ w).alloc (Nat.le_refl _) _
  have c1 : (w.alloc (.cells #[.int .u64 (x : Int), .int .u64 (y : Int)] 34)).cell? ⟨w.heap.size, 1, none⟩ = some (.int .u64 (y : Int)) := kp.cell 1
  have wd : IntKind.u64.wrap (d : Int) = (d : Int) := by rw [IntKind.wrap_u64]; omega
  clear kp
  go_enter Try.func22, Try.ntmps22
  go_wp2_with fail
  generalize w.alloc (.cells #[.int .u64 (x : Int), .int .u64 (y : Int)] 34) = w0 at hBW c1 ⊢
  replace hBW := Lib.hid hBW
  clear c1
  go_loopg [4, 6] y (fun f c x wr => ∃ m t : Nat, x = .int .u64 (m : Int) ∧ c = .int .i64 (t : Int) ∧ 0 < m ∧ m ≤ f ∧ t + m ≤ y ∧ kindF f m d t = (A, B) ∧ Below w.heap.size w wr)
  case atStart => exact ⟨y, 0, rfl, rfl, h0, Nat.le_refl _, by omega, hk.out, hBW.out⟩
  case round =>
    obtain ⟨m, t, rfl, rfl, hm0, hmf, htm, hkf, hB⟩ := hrel
    replace hB := Lib.hid hB
    obtain ⟨g, hg⟩ : ∃ g, g = Nat.gcd m d := ⟨_, rfl⟩
    have hg0 : 0 < g := by rw [hg]; exact Nat.gcd_pos_of_pos_left _ hm0
    have hgm : g ≤ m := by rw [hg]; exact Nat.gcd_le_left _ hm0
    have hgs : Hid (∀ W, Calls Try.prog 54 #[.int .u64 (m : Int), .int .u64 (d : Int)] W (RetW g W)) := Lib.hid (fun W => by
      rw [hg]; exact rgcd_any m d W (by omega) (by omega))
    by_cases h1 : g = 1
    · rw [kindF_end (by rw [← hg]; exact h1)] at hkf
      injection hkf with e1 e2
      subst e1
      have hgI : ¬ (1 : Int) < (g : Int) := by omega
      have hord := ordG_order (n := m) (d := d) hm0 (by omega) (Nat.Coprime.symm (show Nat.Coprime m d by unfold Nat.Coprime; rw [← hg, h1]))
      have hle := (ordG_le (n := m) (d := d) hm0).2
      have hpos := (ordG_le (n := m) (d := d) hm0).1
      rw [e2] at hord hle hpos
      obtain ⟨x0, hx0⟩ : ∃ x0, x0 = d % m := ⟨_, rfl⟩
      have hx0i : (d : Int) % (m : Int) = (x0 : Int) := by rw [hx0]; rfl
      have hx0i' : (d : Int).tmod (m : Int) = (x0 : Int) := by rw [hx0]; exact tmod_nat d m
      obtain ⟨o, ho⟩ : ∃ o, o = 1 % m := ⟨_, rfl⟩
      have hoi : (1 : Int) % (m : Int) = (o : Int) := by rw [ho]; rfl
      have hoi' : (1 : Int).tmod (m : Int) = (o : Int) := by rw [ho]; exact tmod_nat 1 m
      have hxs : x0 < m := by rw [hx0]; exact Nat.mod_lt _ hm0
      have hos : o < m := by rw [ho]; exact Nat.mod_lt _ hm0
      have hmz : ¬ (m : Int) = 0 := by omega
      have hstart : Hid (x0 = d ^ 1 % m) := Lib.hid (by rw [hx0, Nat.pow_one])
      have hone : Hid (∀ k, d ^ k % m = o ↔ One m d k) := Lib.hid (fun k => by rw [ho]; exact one_mod hm0 (by omega))
      replace hord := Lib.hid hord
      clear hg h1 e2 hx0 ho
      go_wp2_with fail
      refine (hgs.out _).mono ?_
      rintro e w1 ⟨rfl, nd, rfl⟩
      replace hB := Lib.hid (below_drewN hB.out nd)
      go_wp2_with fail
      go_loopw [5, 7] (fun p xx wx => ∃ k X : Nat, p = .int .i64 (k : Int) ∧ xx = .int .u64 (X : Int) ∧ 1 ≤ k ∧ k ≤ B ∧ X < m ∧ X = d ^ k % m ∧ Below w.heap.size w wx) (fun p _ _ => B - (intOf p).toNat)
      case atStart => exact ⟨1, x0, rfl, rfl, Nat.le_refl _, hpos, hxs, hstart.out, hB.out⟩
      case round =>
        obtain ⟨k, X, rfl, rfl, hk1, hkB, hXm, hX, hBx⟩ := hrel
        replace hBx := Lib.hid hBx
        by_cases hxo : X = o
        · have hkB2 : k = B := by
            have h2 := (hone.out k).1 (by rw [← hX]; exact hxo)
            have h3 := hord.out.2 k h2
            have h4 := Nat.le_of_dvd (by omega) h3
            omega
          have hxI : ((X : Int) == (o : Int)) = true := by simp; omega
          subst hkB2
          clear hX hxo
          go_wp2_with fail
          go_ret2
          exact ⟨rfl, hBx.out⟩
        · have hkB2 : k < B := by
            rcases Nat.lt_or_ge k B with h | h
            · exact h
            · exfalso
              have e : k = B := by omega
              subst e
              exact hxo (by rw [hX]; exact (hone.out k).2 hord.out.1)
          have hxI : ((X : Int) == (o : Int)) = false := by simp; omega
          obtain ⟨P, hP⟩ : ∃ P, P = X * d := ⟨_, rfl⟩
          have hPs : P ≤ 4294967296 * 64 := by rw [hP]; exact Nat.mul_le_mul (by omega) hd
          have hPi : (X : Int) * (d : Int) = (P : Int) := by rw [hP]; push_cast; rfl
          obtain ⟨Z, hZ⟩ : ∃ Z, Z = P % m := ⟨_, rfl⟩
          have hZi : (P : Int) % (m : Int) = (Z : Int) := by rw [hZ]; rfl
          have hZi' : (P : Int).tmod (m : Int) = (Z : Int) := by rw [hZ]; exact tmod_nat P m
          have hZm : Z < m := by rw [hZ]; exact Nat.mod_lt _ hm0
          have hZv : Hid (Z = d ^ (k + 1) % m) := Lib.hid (by rw [hZ, hP, hX, Nat.pow_succ, Nat.mod_mul_mod])
          clear hX hP hZ hxo
          go_wp2_with fail
          go_roundw
          case rel => exact ⟨k + 1, Z, by go_num, by first | rfl | go_num, by omega, by omega, hZm, hZv.out, hBx.out⟩
          case measure => simp [intOf]; omega
    · obtain ⟨f', hf'⟩ : ∃ f', gk = f' + 1 := ⟨gk - 1, by omega⟩
      obtain ⟨q, hq⟩ : ∃ q, q = m / g := ⟨_, rfl⟩
      have hqi : (m : Int) / (g : Int) = (q : Int) := by rw [hq]; rfl
      have hq1 : q < m := by rw [hq]; exact Nat.div_lt_self hm0 (by omega)
      have hq0 : 0 < q := by rw [hq]; exact Nat.div_pos hgm hg0
      rw [hf', kindF_go (by rw [← hg]; exact h1), ← hg, ← hq] at hkf
      have hgI : (1 : Int) < (g : Int) := by omega
      have hgz : ¬ (g : Int) = 0 := by omega
      replace hkf := Lib.hid hkf
      have hqf : q ≤ f' := by omega
      replace hf' := Lib.hid hf'
      clear h1 hq hg
      go_wp2_with fail
      refine (hgs.out _).mono ?_
      rintro e w1 ⟨rfl, nd, rfl⟩
      replace hB := Lib.hid (below_drewN hB.out nd)
      obtain ⟨wn, hwn⟩ : ∃ wn, wn = wr.drewN nd := ⟨_, rfl⟩
      rw [← hwn] at hB ⊢
      clear hwn
      go_wp2_with fail
      refine (hgs.out _).mono ?_
      rintro e w1 ⟨rfl, nd, rfl⟩
      replace hB := Lib.hid (below_drewN hB.out nd)
      go_wp2_with fail
      go_roundg f'
      case measure => have := hf'.out; omega
      case rel => exact ⟨q, t + 1, rfl, by go_num, hq0, hqf, by omega, hkf.out, hB.out⟩

theorem sumN_last {d n : Nat} (hd : 2 ≤ d) (h1 : 1 ≤ n) (h2 : n ≤ 1024) : d ^ n - 1 - sumN d n (n - 1) = cntN d n := by
  have h := sumN_all hd h1 h2
  obtain ⟨m, rfl⟩ : ∃ m, n = m + 1 := ⟨n - 1, by omega⟩
  rw [sumN, Nat.mod_self, if_pos rfl] at h
  rw [show m + 1 - 1 = m by omega]
  omega

set_option maxRecDepth 100000 in
set_option maxHeartbeats 2000000 in
/-- filigreeref21.Count -/
theorem rcount_any (d : Nat) (hd2 : 2 ≤ d) (hd : d ≤ 64) : ∀ (n : Nat) (w : World), 1 ≤ n → n ≤ 1024 →
    Calls Try.prog 44 #[.int .i64 (d : Int), .int .i64 (n : Int)] w (RetVal (.string (natS (cntN d n))) w) := by
  intro n
  induction n using Nat.strongRecOn with
  | ind n ih =>
    intro w hn1 hn2
    obtain ⟨Y, hY⟩ : ∃ Y, Y = d ^ n := ⟨_, rfl⟩
    have hYb : (nb Y).length ≤ 1025 := by have := nb_pow (z := Y) (j := n) hd (by omega); omega
    have hY1 : 1 ≤ Y := by rw [hY]; exact one_le_dpow hd2
    have hpow := rpow_any d n
    rw [← hY] at hpow
    have hpow2 : ∀ W, Calls Try.prog 69 #[.string (natS d), .int .i64 (n : Int)] W (RetVal (.tuple #[.string (natS Y), .int .i64 0]) W) := fun W => hpow W hd2 (by omega) (by omega)
    have hof := rnum_any d w (by omega)
    have hsub : ∀ b z W, b ≤ z → z ≤ Y → Calls Try.prog 70 #[.string (natS z), .string (natS b)] W (RetVal (.tuple #[.string (natS (z - b)), .int .i64 0]) W) := fun b z W h1 h2 => rsub_any z b W h1 (by have := nb_len_mono h2; omega)
    have hsub1 : ∀ W, Calls Try.prog 70 #[.string (natS Y), .string ⟨#[1]⟩] W (RetVal (.tuple #[.string (natS (Y - 1)), .int .i64 0]) W) := fun W => by
      rw [← natS_one]; exact hsub 1 Y W hY1 (Nat.le_refl _)
    have hlast : Hid (Y - 1 - sumN d n (n - 1) = cntN d n) := Lib.hid (by rw [hY]; exact sumN_last hd2 hn1 hn2)
    have hsle : Hid (∀ j, j ≤ n → sumN d n j ≤ Y - 1) := Lib.hid (fun j hj => by rw [hY]; exact sumN_le hd2 hn1 hn2 hj)
    have wd : IntKind.u64.wrap (d : Int) = (d : Int) := by rw [IntKind.wrap_u64]; omega
    obtain ⟨F, hF⟩ : ∃ F : Nat → ByteArray, F = natS := ⟨_, rfl⟩
    rw [← hF] at hpow2 hof hsub hsub1
    rw [← hF] at ih
    rw [← hF]
    replace hof := Lib.hid hof
    replace hpow2 := Lib.hid hpow2
    replace hsub := Lib.hid hsub
    replace hsub1 := Lib.hid hsub1
    replace ih := Lib.hid ih
    clear hpow hY hF hYb
    go_enter Try.func44, Try.ntmps44
    go_wp2_with fail
    refine hof.out.mono ?_
    rintro e w1 ⟨rfl, hb⟩
    have hB := Lib.hid hb
    clear hb hof
    go_wp2_with fail
    refine (hpow2.out _).mono ?_
    rintro e w2 ⟨rfl, hb⟩
    replace hB := Lib.hid (hB.out.trans (hb.mono hB.out.size))
    clear hb hpow2
    go_wp2_with fail
    refine (hsub1.out _).mono ?_
    rintro e w3 ⟨rfl, hb⟩
    replace hB := Lib.hid (hB.out.trans (hb.mono hB.out.size))
    clear hb hsub1
    go_wp2_with fail
    go_loopw [5, 7] (fun a k wr => ∃ K : Nat, k = .int .i64 (K : Int) ∧ 1 ≤ K ∧ K ≤ n ∧ a = .string (F (Y - 1 - sumN d n (K - 1))) ∧ Below w.heap.size w wr) (fun _ k _ => n - (intOf k).toNat)
    case atStart => exact ⟨1, rfl, Nat.le_refl _, hn1, rfl, hB.out⟩
    case round =>
      clear hB
      obtain ⟨K, rfl, hK1, hK2, rfl, hB⟩ := hrel
      replace hB := Lib.hid hB
      obtain ⟨Z, hZ⟩ : ∃ Z, Z = Y - 1 - sumN d n (K - 1) := ⟨_, rfl⟩
      rw [← hZ]
      by_cases h0 : K < n
      · have h0I : (K : Int) < (n : Int) := by omega
        obtain ⟨R, hR⟩ : ∃ R, R = n % K := ⟨_, rfl⟩
        have hRi : (n : Int) % (K : Int) = (R : Int) := by rw [hR]; rfl
        have hRi' : (n : Int).tmod (K : Int) = (R : Int) := by rw [hR]; exact tmod_nat n K
        have hKz : ¬ (K : Int) = 0 := by omega
        by_cases hR0 : R = 0
        · subst hR0
          obtain ⟨N, hN⟩ : ∃ N, N = cntN d K := ⟨_, rfl⟩
          have hs2 : sumN d n K = sumN d n (K - 1) + N := by
            obtain ⟨j, rfl⟩ : ∃ j, K = j + 1 := ⟨K - 1, by omega⟩
            rw [sumN, ← hR, if_pos rfl, hN]
            rfl
          have hs3 := hsle.out K (by omega)
          have hnx : Hid (F (Z - N) = F (Y - 1 - sumN d n (K + 1 - 1))) := Lib.hid (by
            rw [show K + 1 - 1 = K by omega, hs2, hZ]
            congr 1
            omega)
          have hcall := ih.out K h0
          rw [← hN] at hcall
          have hNZ : N ≤ Z := by omega
          have hZY : Z ≤ Y := by omega
          replace hcall := Lib.hid hcall
          clear hR hs2 hs3 hN hZ
          go_wp2_with fail
          refine (hcall.out _ hK1 (by omega)).mono ?_
          rintro e w4 ⟨rfl, hb⟩
          replace hB := Lib.hid (hB.out.trans (hb.mono hB.out.size))
          clear hb
          go_wp2_with fail
          refine (hsub.out N Z _ hNZ hZY).mono ?_
          rintro e w5 ⟨rfl, hb⟩
          replace hB := Lib.hid (hB.out.trans (hb.mono hB.out.size))
          clear hb
          go_wp2_with fail
          go_roundw
          case rel => exact ⟨K + 1, by go_num, by omega, by omega, by rw [hnx.out], hB.out⟩
          case measure => simp [intOf]; omega
        · have hRb : ((R : Int) == 0) = false := by simp; omega
          have hnx : Hid (F Z = F (Y - 1 - sumN d n (K + 1 - 1))) := Lib.hid (by
            obtain ⟨j, rfl⟩ : ∃ j, K = j + 1 := ⟨K - 1, by omega⟩
            rw [hZ, show j + 1 + 1 - 1 = j + 1 by omega, sumN, ← hR, if_neg hR0]
            rfl)
          clear hR hZ
          go_wp2_with fail
          go_roundw
          case rel => exact ⟨K + 1, by go_num, by omega, by omega, by rw [hnx.out], hB.out⟩
          case measure => simp [intOf]; omega
      · have hKn : K = n := by omega
        have h0I : ¬ (K : Int) < (n : Int) := by omega
        have hfin : Hid (F Z = F (cntN d n)) := Lib.hid (by rw [hZ, hKn, hlast.out])
        clear hZ
        go_wp2_with fail
        go_ret
        exact ⟨by rw [← hfin.out]; rfl, hB.out⟩
end Go.Proofs.Ytciafmnideihjaa
