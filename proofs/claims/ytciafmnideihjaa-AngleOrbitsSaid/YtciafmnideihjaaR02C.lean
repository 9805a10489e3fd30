/- The document's answer: filigreeref02.Pow; filigreeref21.Kind, Count. · The document's answer: filigreeref21.All; AngleAll: the walk. -/
import Derived.Test.YtciafmnideihjaaR02A
import Derived.Test.YtciafmnideihjaaCntP
import Derived.Deep.CutBlock
namespace Go.Proofs.Ytciafmnideihjaa
open Go.RowKit Go.Sort

theorem natS_one : natS 1 = ⟨#[1]⟩ := by decide +kernel
theorem natS_inj {a b : Nat} (h : natS a = natS b) : a = b := by rw [← be_natS a, h, be_natS]
theorem natS_eq {a b : Nat} (h : (natS a).toList = (natS b).toList) : a = b := natS_inj (ba_eqB h)
theorem nb_pow {d j z : Nat} (hd : d ≤ 64) (h : z ≤ d ^ j) : (nb z).length ≤ j + 1 := by
  refine nb_small ?_
  have h1 : d ^ j ≤ 256 ^ j := Nat.pow_le_pow_left (by omega) _
  have h2 : 0 < 256 ^ j := Nat.pow_pos (by omega)
  rw [Nat.pow_succ]
  omega
theorem half_step (n q : Nat) : n / 2 ^ q = 2 * (n / 2 ^ (q + 1)) + n / 2 ^ q % 2 := by
  rw [Nat.pow_succ, ← Nat.div_div_eq_div_mul]
  omega

set_option maxRecDepth 100000 in
set_option maxHeartbeats 2000000 in
/-- filigreeref02.Pow, of what is not too long. -/
theorem rpow_any (a n : Nat) (w : World) (ha : 2 ≤ a) (hn : n ≤ 131072) (hs : (nb (a ^ n)).length ≤ 8000) :
    Calls Try.prog 69 #[.string (natS a), .int .i64 (n : Int)] w (RetVal (.tuple #[.string (natS (a ^ n)), .int .i64 0]) w) := by
  obtain ⟨r, hr⟩ : ∃ r, r = natS (a ^ n) := ⟨_, rfl⟩
  rw [← hr]
  by_cases h0 : n = 0
  · subst h0
    have hre : Hid (r = ⟨#[1]⟩) := Lib.hid (by rw [hr, Nat.pow_zero, natS_one])
    clear hr
    go_enter Try.func69, Try.ntmps69
    go_wp2_with fail
    go_ret2
    exact ⟨by rw [hre.out]; rfl, Below.refl _ _⟩
  have hnI : ((n : Int) == 0) = false := by simp; omega
  have hnI2 : ¬ (131072 : Int) < (n : Int) := by omega
  have hne1 : ¬ (natS a).toList = (⟨#[1]⟩ : ByteArray).toList := fun h => by
    rw [← natS_one] at h
    have := natS_eq h
    omega
  have hne0 : ¬ (natS a).toList = (⟨#[]⟩ : ByteArray).toList := fun h => by
    have := natS_eq (a := a) (b := 0) h
    omega
  rw [show (⟨#[1]⟩ : ByteArray).toList = [1] by decide +kernel] at hne1
  rw [show (⟨#[]⟩ : ByteArray).toList = [] by decide +kernel] at hne0
  replace hne1 : ((natS a).toList == [1]) = false := by simpa using hne1
  replace hne0 : (natS a).toList.isEmpty = false := by simpa using hne0
  have hle : ∀ k, k ≤ n → (nb (a ^ k)).length ≤ 8000 := fun k hk => Nat.le_trans (nb_len_mono (Nat.pow_le_pow_right (by omega) hk)) hs
  have hsq : ∀ k W, 2 * k ≤ n → Calls Try.prog 81 #[.string (natS (a ^ k)), .string (natS (a ^ k))] W (RetVal (.tuple #[.string (natS (a ^ (2 * k))), .int .i64 0]) W) := fun k W hk => by
    have e : a ^ k * a ^ k = a ^ (2 * k) := by rw [← Nat.pow_add]; congr 1; omega
    have h := rmul_any (a ^ k) (a ^ k) W (by have := hle k (by omega); omega) (by rw [e]; have := hle _ hk; omega)
    rwa [e] at h
  have hmu : ∀ k W, k + 1 ≤ n → Calls Try.prog 81 #[.string (natS (a ^ k)), .string (natS a)] W (RetVal (.tuple #[.string (natS (a ^ (k + 1))), .int .i64 0]) W) := fun k W hk => by
    have e : a ^ k * a = a ^ (k + 1) := (Nat.pow_succ a k).symm
    have h1 := hle 1 (by omega)
    rw [Nat.pow_one] at h1
    have h := rmul_any (a ^ k) a W (by have := hle k (by omega); omega) (by rw [e]; have := hle _ hk; omega)
    rwa [e] at h
  obtain ⟨s, hsa⟩ : ∃ s, s = natS a := ⟨_, rfl⟩
  rw [← hsa] at hne1 hne0 hmu
  rw [← hsa]
  obtain ⟨F, hF⟩ : ∃ F : Nat → ByteArray, F = fun k => natS (a ^ k) := ⟨_, rfl⟩
  have hFv : ∀ k, natS (a ^ k) = F k := fun k => by rw [hF]
  simp only [hFv] at hsq hmu hr
  have hF0 : Hid (F 0 = ⟨#[1]⟩) := Lib.hid (by rw [hF]; show natS (a ^ 0) = _; rw [Nat.pow_zero, natS_one])
  replace hsq := Lib.hid hsq
  replace hmu := Lib.hid hmu
  replace hr := Lib.hid hr
  clear hFv hF hle hs hsa
  go_enter Try.func69, Try.ntmps69
  go_wp2_with fail
  go_loopw [6, 7] (fun o iv wr => ∃ (m : Nat) (z : Int), iv = .int .i64 z ∧ z = (m : Int) - 1 ∧ m ≤ 18 ∧ o = .string (F (n / 2 ^ m)) ∧ Below w.heap.size w wr) (fun _ iv _ => (intOf iv + 1).toNat)
  case atStart => exact ⟨18, 17, rfl, by omega, Nat.le_refl _, by rw [Nat.div_eq_of_lt (by omega), hF0.out], Below.refl _ _⟩
  case round =>
    obtain ⟨m, z, rfl, hz, hm, rfl, hB⟩ := hrel
    replace hB := Lib.hid hB
    rcases m with _ | q
    · obtain rfl : z = -1 := by omega
      clear hz
      have hfin : Hid (F (n / 2 ^ 0) = r) := Lib.hid (by rw [hr.out, Nat.pow_zero, Nat.div_one])
      go_wp2_with fail
      go_ret2
      exact ⟨by rw [← hfin.out]; rfl, hB.out⟩
    · obtain rfl : z = (q : Int) := by omega
      have hqI : (0 : Int) ≤ (q : Int) := by omega
      have hq17 : q ≤ 17 := by omega
      obtain ⟨H, hH⟩ : ∃ H, H = n / 2 ^ (q + 1) := ⟨_, rfl⟩
      obtain ⟨t, ht⟩ : ∃ t, t = n / 2 ^ q := ⟨_, rfl⟩
      have hti : (n : Int) / 2 ^ q = (t : Int) := by rw [ht]; push_cast; rfl
      have hst := half_step n q
      rw [← hH, ← ht] at hst
      have htn : t ≤ n := by rw [ht]; exact Nat.div_le_self _ _
      have hand := and_one_i64 t (by omega)
      rw [← hH]
      have htq := Lib.hid ht
      clear hz ht hH
      go_wp2_with fail
      refine (hsq.out H _ (by omega)).mono ?_
      rintro e w1 ⟨rfl, hb⟩
      have hB1 := Lib.hid (hB.out.trans (hb.mono hB.out.size))
      clear hb hB
      rcases Nat.mod_two_eq_zero_or_one t with hpar | hpar
      · rw [hpar] at hand
        have hand : bits .and .i64 (t : Int) 1 = 0 := hand
        have hn2 : Hid (F (2 * H) = F (n / 2 ^ q)) := Lib.hid (by rw [← htq.out]; congr 1; omega)
        clear hpar hst
        go_wp2_with fail
        go_roundw
        case rel => exact ⟨q, (q : Int) - 1, by first | rfl | go_num, rfl, by omega, by rw [← hn2.out], hB1.out⟩
        case measure => simp [intOf]
      · rw [hpar] at hand
        have hand : bits .and .i64 (t : Int) 1 = 1 := hand
        have hn2 : Hid (F (2 * H + 1) = F (n / 2 ^ q)) := Lib.hid (by rw [← htq.out]; congr 1; omega)
        have hle1 : 2 * H + 1 ≤ n := by omega
        clear hpar hst
        go_wp2_with fail
        refine (hmu.out (2 * H) _ hle1).mono ?_
        rintro e w2 ⟨rfl, hb⟩
        have hB2 := Lib.hid (hB1.out.trans (hb.mono hB1.out.size))
        clear hb hB1
        go_wp2_with fail
        go_roundw
        case rel => exact ⟨q, (q : Int) - 1, by first | rfl | go_num, rfl, by omega, by rw [← hn2.out], hB2.out⟩
        case measure => simp [intOf]

theorem one_mod {m d k : Nat} (hm : 0 < m) (hd : 1 ≤ d) : d ^ k % m = 1 % m ↔ One m d k := by
  rcases Nat.lt_or_ge 1 m with h | h
  · rw [Nat.mod_eq_of_lt h]
    exact one_iff h hd
  · obtain rfl : m = 1 := by omega
    simp [One, Nat.mod_one]

set_option maxRecDepth 100000 in
set_option maxHeartbeats 2000000 in
/-- filigreeref21.Kind -/
theorem rkind_any (x y d A B : Nat) (w : World) (h0 : 0 < y) (hy : y < 4294967296) (hd2 : 2 ≤ d) (hd : d ≤ 64) (hk : Hid (kindN y d = (A, B))) :
    Calls Try.prog 22 #[.agg #[.int .u64 (x : Int), .int .u64 (y : Int)], .int .i64 (d : Int)] w (RetVal (.tuple #[.int .i64 (A : Int), .int .i64 (B : Int)]) w) := by
  have kp := Blk.new w 34 #[.int .u64 (x : Int), .int .u64 (y : Int)]
  have hBW : Below w.heap.size w (w.alloc (.cells #[.int .u64 (x : Int), .int .u64 (y : Int)] 34)) := (Below.refl _ w).alloc (Nat.le_refl _) _
  have c1 : (w.alloc (.cells #[.int .u64 (x : Int), .int .u64 (y : Int)] 34)).cell? ⟨w.heap.size, 1, none⟩ = some (.int .u64 (y : Int)) := kp.cell 1
  have wd : IntKind.u64.wrap (d : Int) = (d : Int) := by rw [IntKind.wrap_u64]; omega
  clear kp
  go_enter Try.func22, Try.ntmps22
  go_wp2_with fail
  generalize w.alloc (.cells #[.int .u64 (x : Int), .int .u64 (y : Int)] 34) = w0 at hBW c1 ⊢
  replace hBW := Lib.hid hBW
  clear c1
  go_loopg [4, 6] y (fun f c x wr => ∃ m t : Nat, x = .int .u64 (m : Int) ∧ c = .int .i64 (t : Int) ∧ 0 < m ∧ m ≤ f ∧ t + m ≤ y ∧ kindF f m d t = (A, B) ∧ Below w.heap.size w wr)
  case atStart => exact ⟨y, 0, rfl, rfl, h0, Nat.le_refl _, by omega, hk.out, hBW.out⟩
  case round =>
    obtain ⟨m, t, rfl, rfl, hm0, hmf, htm, hkf, hB⟩ := hrel
    replace hB := Lib.hid hB
    obtain ⟨g, hg⟩ : ∃ g, g = Nat.gcd m d := ⟨_, rfl⟩
    have hg0 : 0 < g := by rw [hg]; exact Nat.gcd_pos_of_pos_left _ hm0
    have hgm : g ≤ m := by rw [hg]; exact Nat.gcd_le_left _ hm0
    have hgs : Hid (∀ W, Calls Try.prog 54 #[.int .u64 (m : Int), .int .u64 (d : Int)] W (RetW g W)) := Lib.hid (fun W => by
      rw [hg]; exact rgcd_any m d W (by omega) (by omega))
    by_cases h1 : g = 1
    · rw [kindF_end (by rw [← hg]; exact h1)] at hkf
      injection hkf with e1 e2
      subst e1
      have hgI : ¬ (1 : Int) < (g : Int) := by omega
      have hord := ordG_order (n := m) (d := d) hm0 (by omega) (Nat.Coprime.symm (show Nat.Coprime m d by unfold Nat.Coprime; rw [← hg, h1]))
      have hle := (ordG_le (n := m) (d := d) hm0).2
      have hpos := (ordG_le (n := m) (d := d) hm0).1
      rw [e2] at hord hle hpos
      obtain ⟨x0, hx0⟩ : ∃ x0, x0 = d % m := ⟨_, rfl⟩
      have hx0i : (d : Int) % (m : Int) = (x0 : Int) := by rw [hx0]; rfl
      have hx0i' : (d : Int).tmod (m : Int) = (x0 : Int) := by rw [hx0]; exact tmod_nat d m
      obtain ⟨o, ho⟩ : ∃ o, o = 1 % m := ⟨_, rfl⟩
      have hoi : (1 : Int) % (m : Int) = (o : Int) := by rw [ho]; rfl
      have hoi' : (1 : Int).tmod (m : Int) = (o : Int) := by rw [ho]; exact tmod_nat 1 m
      have hxs : x0 < m := by rw [hx0]; exact Nat.mod_lt _ hm0
      have hos : o < m := by rw [ho]; exact Nat.mod_lt _ hm0
      have hmz : ¬ (m : Int) = 0 := by omega
      have hstart : Hid (x0 = d ^ 1 % m) := Lib.hid (by rw [hx0, Nat.pow_one])
      have hone : Hid (∀ k, d ^ k % m = o ↔ One m d k) := Lib.hid (fun k => by rw [ho]; exact one_mod hm0 (by omega))
      replace hord := Lib.hid hord
      clear hg h1 e2 hx0 ho
      go_wp2_with fail
      refine (hgs.out _).mono ?_
      rintro e w1 ⟨rfl, nd, rfl⟩
      replace hB := Lib.hid (below_drewN hB.out nd)
      go_wp2_with fail
      go_loopw [5, 7] (fun p xx wx => ∃ k X : Nat, p = .int .i64 (k : Int) ∧ xx = .int .u64 (X : Int) ∧ 1 ≤ k ∧ k ≤ B ∧ X < m ∧ X = d ^ k % m ∧ Below w.heap.size w wx) (fun p _ _ => B - (intOf p).toNat)
      case atStart => exact ⟨1, x0, rfl, rfl, Nat.le_refl _, hpos, hxs, hstart.out, hB.out⟩
      case round =>
        obtain ⟨k, X, rfl, rfl, hk1, hkB, hXm, hX, hBx⟩ := hrel
        replace hBx := Lib.hid hBx
        by_cases hxo : X = o
        · have hkB2 : k = B := by
            have h2 := (hone.out k).1 (by rw [← hX]; exact hxo)
            have h3 := hord.out.2 k h2
            have h4 := Nat.le_of_dvd (by omega) h3
            omega
          have hxI : ((X : Int) == (o : Int)) = true := by simp; omega
          subst hkB2
          clear hX hxo
          go_wp2_with fail
          go_ret2
          exact ⟨rfl, hBx.out⟩
        · have hkB2 : k < B := by
            rcases Nat.lt_or_ge k B with h | h
            · exact h
            · exfalso
              have e : k = B := by omega
              subst e
              exact hxo (by rw [hX]; exact (hone.out k).2 hord.out.1)
          have hxI : ((X : Int) == (o : Int)) = false := by simp; omega
          obtain ⟨P, hP⟩ : ∃ P, P = X * d := ⟨_, rfl⟩
          have hPs : P ≤ 4294967296 * 64 := by rw [hP]; exact Nat.mul_le_mul (by omega) hd
          have hPi : (X : Int) * (d : Int) = (P : Int) := by rw [hP]; push_cast; rfl
          obtain ⟨Z, hZ⟩ : ∃ Z, Z = P % m := ⟨_, rfl⟩
          have hZi : (P : Int) % (m : Int) = (Z : Int) := by rw [hZ]; rfl
          have hZi' : (P : Int).tmod (m : Int) = (Z : Int) := by rw [hZ]; exact tmod_nat P m
          have hZm : Z < m := by rw [hZ]; exact Nat.mod_lt _ hm0
          have hZv : Hid (Z = d ^ (k + 1) % m) := Lib.hid (by rw [hZ, hP, hX, Nat.pow_succ, Nat.mod_mul_mod])
          clear hX hP hZ hxo
          go_wp2_with fail
          go_roundw
          case rel => exact ⟨k + 1, Z, by go_num, by first | rfl | go_num, by omega, by omega, hZm, hZv.out, hBx.out⟩
          case measure => simp [intOf]; omega
    · obtain ⟨f', hf'⟩ : ∃ f', gk = f' + 1 := ⟨gk - 1, by omega⟩
      obtain ⟨q, hq⟩ : ∃ q, q = m / g := ⟨_, rfl⟩
      have hqi : (m : Int) / (g : Int) = (q : Int) := by rw [hq]; rfl
      have hq1 : q < m := by rw [hq]; exact Nat.div_lt_self hm0 (by omega)
      have hq0 : 0 < q := by rw [hq]; exact Nat.div_pos hgm hg0
      rw [hf', kindF_go (by rw [← hg]; exact h1), ← hg, ← hq] at hkf
      have hgI : (1 : Int) < (g : Int) := by omega
      have hgz : ¬ (g : Int) = 0 := by omega
      replace hkf := Lib.hid hkf
      have hqf : q ≤ f' := by omega
      replace hf' := Lib.hid hf'
      clear h1 hq hg
      go_wp2_with fail
      refine (hgs.out _).mono ?_
      rintro e w1 ⟨rfl, nd, rfl⟩
      replace hB := Lib.hid (below_drewN hB.out nd)
      obtain ⟨wn, hwn⟩ : ∃ wn, wn = wr.drewN nd := ⟨_, rfl⟩
      rw [← hwn] at hB ⊢
      clear hwn
      go_wp2_with fail
      refine (hgs.out _).mono ?_
      rintro e w1 ⟨rfl, nd, rfl⟩
      replace hB := Lib.hid (below_drewN hB.out nd)
      go_wp2_with fail
      go_roundg f'
      case measure => have := hf'.out; omega
      case rel => exact ⟨q, t + 1, rfl, by go_num, hq0, hqf, by omega, hkf.out, hB.out⟩

theorem sumN_last {d n : Nat} (hd : 2 ≤ d) (h1 : 1 ≤ n) (h2 : n ≤ 1024) : d ^ n - 1 - sumN d n (n - 1) = cntN d n := by
  have h := sumN_all hd h1 h2
  obtain ⟨m, rfl⟩ : ∃ m, n = m + 1 := ⟨n - 1, by omega⟩
  rw [sumN, Nat.mod_self, if_pos rfl] at h
  rw [show m + 1 - 1 = m by omega]
  omega

set_option maxRecDepth 100000 in
set_option maxHeartbeats 2000000 in
/-- filigreeref21.Count -/
theorem rcount_any (d : Nat) (hd2 : 2 ≤ d) (hd : d ≤ 64) : ∀ (n : Nat) (w : World), 1 ≤ n → n ≤ 1024 →
    Calls Try.prog 44 #[.int .i64 (d : Int), .int .i64 (n : Int)] w (RetVal (.string (natS (cntN d n))) w) := by
  intro n
  induction n using Nat.strongRecOn with
  | ind n ih =>
    intro w hn1 hn2
    obtain ⟨Y, hY⟩ : ∃ Y, Y = d ^ n := ⟨_, rfl⟩
    have hYb : (nb Y).length ≤ 1025 := by have := nb_pow (z := Y) (j := n) hd (by omega); omega
    have hY1 : 1 ≤ Y := by rw [hY]; exact one_le_dpow hd2
    have hpow := rpow_any d n
    rw [← hY] at hpow
    have hpow2 : ∀ W, Calls Try.prog 69 #[.string (natS d), .int .i64 (n : Int)] W (RetVal (.tuple #[.string (natS Y), .int .i64 0]) W) := fun W => hpow W hd2 (by omega) (by omega)
    have hof := rnum_any d w (by omega)
    have hsub : ∀ b z W, b ≤ z → z ≤ Y → Calls Try.prog 70 #[.string (natS z), .string (natS b)] W (RetVal (.tuple #[.string (natS (z - b)), .int .i64 0]) W) := fun b z W h1 h2 => rsub_any z b W h1 (by have := nb_len_mono h2; omega)
    have hsub1 : ∀ W, Calls Try.prog 70 #[.string (natS Y), .string ⟨#[1]⟩] W (RetVal (.tuple #[.string (natS (Y - 1)), .int .i64 0]) W) := fun W => by
      rw [← natS_one]; exact hsub 1 Y W hY1 (Nat.le_refl _)
    have hlast : Hid (Y - 1 - sumN d n (n - 1) = cntN d n) := Lib.hid (by rw [hY]; exact sumN_last hd2 hn1 hn2)
    have hsle : Hid (∀ j, j ≤ n → sumN d n j ≤ Y - 1) := Lib.hid (fun j hj => by rw [hY]; exact sumN_le hd2 hn1 hn2 hj)
    have wd : IntKind.u64.wrap (d : Int) = (d : Int) := by rw [IntKind.wrap_u64]; omega
    obtain ⟨F, hF⟩ : ∃ F : Nat → ByteArray, F = natS := ⟨_, rfl⟩
    rw [← hF] at hpow2 hof hsub hsub1
    rw [← hF] at ih
    rw [← hF]
    replace hof := Lib.hid hof
    replace hpow2 := Lib.hid hpow2
    replace hsub := Lib.hid hsub
    replace hsub1 := Lib.hid hsub1
    replace ih := Lib.hid ih
    clear hpow hY hF hYb
    go_enter Try.func44, Try.ntmps44
    go_wp2_with fail
    refine hof.out.mono ?_
    rintro e w1 ⟨rfl, hb⟩
    have hB := Lib.hid hb
    clear hb hof
    go_wp2_with fail
    refine (hpow2.out _).mono ?_
    rintro e w2 ⟨rfl, hb⟩
    replace hB := Lib.hid (hB.out.trans (hb.mono hB.out.size))
    clear hb hpow2
    go_wp2_with fail
    refine (hsub1.out _).mono ?_
    rintro e w3 ⟨rfl, hb⟩
    replace hB := Lib.hid (hB.out.trans (hb.mono hB.out.size))
    clear hb hsub1
    go_wp2_with fail
    go_loopw [5, 7] (fun a k wr => ∃ K : Nat, k = .int .i64 (K : Int) ∧ 1 ≤ K ∧ K ≤ n ∧ a = .string (F (Y - 1 - sumN d n (K - 1))) ∧ Below w.heap.size w wr) (fun _ k _ => n - (intOf k).toNat)
    case atStart => exact ⟨1, rfl, Nat.le_refl _, hn1, rfl, hB.out⟩
    case round =>
      clear hB
      obtain ⟨K, rfl, hK1, hK2, rfl, hB⟩ := hrel
      replace hB := Lib.hid hB
      obtain ⟨Z, hZ⟩ : ∃ Z, Z = Y - 1 - sumN d n (K - 1) := ⟨_, rfl⟩
      rw [← hZ]
      by_cases h0 : K < n
      · have h0I : (K : Int) < (n : Int) := by omega
        obtain ⟨R, hR⟩ : ∃ R, R = n % K := ⟨_, rfl⟩
        have hRi : (n : Int) % (K : Int) = (R : Int) := by rw [hR]; rfl
        have hRi' : (n : Int).tmod (K : Int) = (R : Int) := by rw [hR]; exact tmod_nat n K
        have hKz : ¬ (K : Int) = 0 := by omega
        by_cases hR0 : R = 0
        · subst hR0
          obtain ⟨N, hN⟩ : ∃ N, N = cntN d K := ⟨_, rfl⟩
          have hs2 : sumN d n K = sumN d n (K - 1) + N := by
            obtain ⟨j, rfl⟩ : ∃ j, K = j + 1 := ⟨K - 1, by omega⟩
            rw [sumN, ← hR, if_pos rfl, hN]
            rfl
          have hs3 := hsle.out K (by omega)
          have hnx : Hid (F (Z - N) = F (Y - 1 - sumN d n (K + 1 - 1))) := Lib.hid (by
            rw [show K + 1 - 1 = K by omega, hs2, hZ]
            congr 1
            omega)
          have hcall := ih.out K h0
          rw [← hN] at hcall
          have hNZ : N ≤ Z := by omega
          have hZY : Z ≤ Y := by omega
          replace hcall := Lib.hid hcall
          clear hR hs2 hs3 hN hZ
          go_wp2_with fail
          refine (hcall.out _ hK1 (by omega)).mono ?_
          rintro e w4 ⟨rfl, hb⟩
          replace hB := Lib.hid (hB.out.trans (hb.mono hB.out.size))
          clear hb
          go_wp2_with fail
          refine (hsub.out N Z _ hNZ hZY).mono ?_
          rintro e w5 ⟨rfl, hb⟩
          replace hB := Lib.hid (hB.out.trans (hb.mono hB.out.size))
          clear hb
          go_wp2_with fail
          go_roundw
          case rel => exact ⟨K + 1, by go_num, by omega, by omega, by rw [hnx.out], hB.out⟩
          case measure => simp [intOf]; omega
        · have hRb : ((R : Int) == 0) = false := by simp; omega
          have hnx : Hid (F Z = F (Y - 1 - sumN d n (K + 1 - 1))) := Lib.hid (by
            obtain ⟨j, rfl⟩ : ∃ j, K = j + 1 := ⟨K - 1, by omega⟩
            rw [hZ, show j + 1 + 1 - 1 = j + 1 by omega, sumN, ← hR, if_neg hR0]
            rfl)
          clear hR hZ
          go_wp2_with fail
          go_roundw
          case rel => exact ⟨K + 1, by go_num, by omega, by omega, by rw [hnx.out], hB.out⟩
          case measure => simp [intOf]; omega
      · have hKn : K = n := by omega
        have h0I : ¬ (K : Int) < (n : Int) := by omega
        have hfin : Hid (F Z = F (cntN d n)) := Lib.hid (by rw [hZ, hKn, hlast.out])
        clear hZ
        go_wp2_with fail
        go_ret
        exact ⟨by rw [← hfin.out]; rfl, hB.out⟩
end Go.Proofs.Ytciafmnideihjaa

namespace Go.Proofs.Ytciafmnideihjaa
open Go.RowKit Go.Sort

theorem own_kindD {w : World} {B : Nat} {T : TypeId} {size : Nat} {v : Value} {n : Nat} {xs : List Value} (h : w.ownsRow B T size v n xs) {g : Nat} (hg : v.ownBlock = some g) : ∃ cur, w.heap[g]? = some (.cells cur T (0, 0)) ∧ B ≤ g := by
  rcases h.2 with ⟨rfl, -⟩ | ⟨g', cap, cur, rfl, hb, hh, -⟩
  · cases hg
  · injection hg with hg
    subst hg
    exact ⟨cur, hh, hb⟩
theorem own_apartD {w : World} {B B' : Nat} {T T' : TypeId} {size size' : Nat} {v v' : Value} {n n' : Nat} {xs xs' : List Value} (h : w.ownsRow B T size v n xs) (h' : w.ownsRow B' T' size' v' n' xs') (hT : T ≠ T') : ∀ g, v.ownBlock = some g → v'.ownBlock ≠ some g := by
  intro g hg hg'
  obtain ⟨c, e, -⟩ := own_kindD h hg
  obtain ⟨c', e', -⟩ := own_kindD h' hg'
  rw [e] at e'
  injection e' with e'
  injection e' with _ e'
  exact hT e'

theorem keep_otherD {a b : Option Nat} (h : a ≠ none → b ≠ a) : b = none ∨ b ≠ a := by
  cases a with
  | none => cases b <;> simp
  | some g => exact .inr (h (by simp))


set_option maxRecDepth 100000 in
set_option maxHeartbeats 2000000 in
/-- filigreelaw21.same, of lists that tell the same, however long; the first is written over. -/
theorem same2_any (L : List (Nat × Nat)) (hL : ∀ p, p ∈ L → p.1 < 18446744073709551616 ∧ p.2 < 18446744073709551616) (hn : L.length ≤ 2147483648) (v1 v2 : Value) (w : World) (B1 B2 : Nat)
    (h1 : w.ownsRow B1 24 3 v1 L.length (ratC L)) (h2 : w.ownsRow B2 34 2 v2 L.length (angC L)) (hne : ∀ g, v1.ownBlock = some g → v2.ownBlock ≠ some g) :
    Calls Try.prog 31 #[v1, v2] w fun e w' => e = .returned (.bool true) ∧ w.grownBy w' v1.ownBlock := by
  by_cases hL0 : L = []
  · subst hL0
    rcases own_forms h1 with ⟨rfl, -⟩ | ⟨g1, cap1, rfl⟩ <;> rcases own_forms h2 with ⟨rfl, -⟩ | ⟨g2, cap2, rfl⟩
    all_goals
      clear h1 h2 hL hne
      try simp only [List.length_nil]
      go_enter Try.func31, Try.ntmps31
      go_wp2
      go_loop [5] (fun i => i = .int .i64 0) (fun _ => 0)
      case atStart => rfl
      case round =>
        subst hrel
        go_wp2
        go_ret
        exact ⟨rfl, grown_refl _ _⟩
  have hlen : 0 < L.length := List.length_pos_iff.2 hL0
  rcases own_forms h1 with ⟨-, h0⟩ | ⟨g1, cap1, rfl⟩
  · omega
  rcases own_forms h2 with ⟨-, h0⟩ | ⟨g2, cap2, rfl⟩
  · omega
  have hg12 : g1 ≠ g2 := fun e => hne g1 rfl (by rw [e]; rfl)
  obtain ⟨n, hnn⟩ : ∃ n, n = L.length := ⟨_, rfl⟩
  rw [← hnn] at h1 h2 hn hlen ⊢
  replace hnn := Lib.hid hnn
  replace hL := Lib.hid hL
  replace h1 := Lib.hid h1
  replace h2 := Lib.hid h2
  clear hne hL0
  go_enter Try.func31, Try.ntmps31
  go_wp2
  go_loopw [5] (fun i wr => ∃ (k : Nat) (xs : List Value), i = .int .i64 (k : Int) ∧ k ≤ n ∧ wr.ownsRow B1 24 3 (.slice (some ⟨g1, 0, none⟩) n cap1) n xs ∧ (∀ j, k * 3 ≤ j → xs[j]? = (ratC L)[j]?) ∧ wr.ownsRow B2 34 2 (.slice (some ⟨g2, 0, none⟩) n cap2) n (angC L) ∧ w.grownBy wr (some g1)) (fun i _ => n - (intOf i).toNat)
  case atStart => exact ⟨0, _, rfl, Nat.zero_le _, h1.out, fun _ _ => rfl, h2.out, grown_refl _ _⟩
  case round =>
    obtain ⟨k, xs, rfl, hk, hl, hxs, hw, hG⟩ := hrel
    by_cases h0 : k < n
    · have h0I : (k : Int) < (n : Int) := by omega
      obtain ⟨p, hp⟩ : ∃ p, L[k]? = some p := ⟨_, List.getElem?_eq_getElem (by rw [← hnn.out]; exact h0)⟩
      obtain ⟨r0, r1, r2⟩ := ratC_get L k p hp
      obtain ⟨s0, s1⟩ := angC_get L k p hp
      obtain ⟨N, D⟩ := p
      obtain ⟨hNs, hDs⟩ := hL.out _ (List.mem_of_getElem? hp)
      have c0 : ∀ d os, (grow (redrawn wr d) os).cell? ⟨g1, k * 3, none⟩ = some (.bool false) := cell_regrown (by rw [hl.cellAt _ (by omega), hxs _ (by omega)]; exact r0)
      have c1 : ∀ d os, (grow (redrawn wr d) os).cell? ⟨g1, k * 3 + 1, none⟩ = some (.string (natS N)) := cell_regrown (by rw [hl.cellAt _ (by omega), hxs _ (by omega)]; exact r1)
      have c2 : ∀ d os, (grow (redrawn wr d) os).cell? ⟨g1, k * 3 + 2, none⟩ = some (.string (natS D)) := cell_regrown (by rw [hl.cellAt _ (by omega), hxs _ (by omega)]; exact r2)
      have d0 : ∀ d os, (grow (redrawn wr d) os).cell? ⟨g2, k * 2, none⟩ = some (.int .u64 (N : Int)) := cell_regrown (by rw [hw.cellAt _ (by omega)]; exact s0)
      have d1 : ∀ d os, (grow (redrawn wr d) os).cell? ⟨g2, k * 2 + 1, none⟩ = some (.int .u64 (D : Int)) := cell_regrown (by rw [hw.cellAt _ (by omega)]; exact s1)
      have cc : ∀ d os, Calls Try.prog 24 #[.agg #[.int .u64 (N : Int), .int .u64 (D : Int)]] (grow (redrawn wr d) os) fun e w'' => e = .returned (.agg #[.bool false, .string (natS N), .string (natS D)]) ∧ ∃ p : Regrown, w'' = grow (redrawn wr p.d) p.os :=
        fun d os => Calls.regrown_of (rratio_any N D _ hNs hDs)
      replace hl := Lib.hid hl
      replace hxs := Lib.hid hxs
      replace hw := Lib.hid hw
      replace hG := Lib.hid hG
      clear r0 r1 r2 s0 s1 hNs hDs hp
      go_wp2_with fail
      refine wp_region_quiet_below (by kernel_rfl) (by kernel_rfl) ?_
      iterate 8 (quiet_step (fail))
      quiet_step (exact cc _ _)
      quiet_step (fail)
      refine wpQuiet_nil ?_
      intro u4 hw'
      have hb : Below wr.heap.size wr u4 := by
        obtain ⟨p, rfl⟩ := hw'
        exact below_regrown wr p.d p.os
      have hl4 := own_below hl.out hb
      have hw4 := own_below hw.out hb
      have hG4 := grown_trans hG.out (grown_below hb)
      clear hw' cc c0 c1 c2 d0 d1 hb hl hw hG
      have f0 := hl4.frozenAt (k * 3)
      have f1 := hl4.frozenAt (k * 3 + 1)
      have f2 := hl4.frozenAt (k * 3 + 2)
      have hlx : xs.length = n * 3 := hl4.1
      have e0 : ∃ u, u4.cell? ⟨g1, k * 3, none⟩ = some u := by rw [hl4.cellAt _ (by omega)]; exact ⟨_, List.getElem?_eq_getElem (by omega)⟩
      have e1 : ∃ u, u4.cell? ⟨g1, k * 3 + 1, none⟩ = some u := by rw [hl4.cellAt _ (by omega)]; exact ⟨_, List.getElem?_eq_getElem (by omega)⟩
      have e2 : ∃ u, u4.cell? ⟨g1, k * 3 + 2, none⟩ = some u := by rw [hl4.cellAt _ (by omega)]; exact ⟨_, List.getElem?_eq_getElem (by omega)⟩
      obtain ⟨w0, e0⟩ := e0
      obtain ⟨w1, e1⟩ := e1
      obtain ⟨w2, e2⟩ := e2
      obtain ⟨l5, g5⟩ := hl4.stored (k * 3) (.bool true)
      obtain ⟨l6, g6⟩ := l5.stored (k * 3 + 1) (.string ⟨#[]⟩)
      obtain ⟨l7, g7⟩ := l6.stored (k * 3 + 2) (.string ⟨#[]⟩)
      have hG7 := grown_trans (grown_trans (grown_trans hG4 g5) g6) g7
      have hne : (Value.slice (some ⟨g2, 0, none⟩) n cap2).ownBlock ≠ some g1 := by
        intro e
        injection e with e
        exact hg12 e.symm
      have w7 := ((hw4.kept g5 (.inr hne)).kept g6 (.inr hne)).kept g7 (.inr hne)
      have hx7 : Hid (∀ j, (k + 1) * 3 ≤ j → (((xs.set (k * 3) (.bool true)).set (k * 3 + 1) (.string ⟨#[]⟩)).set (k * 3 + 2) (.string ⟨#[]⟩))[j]? = (ratC L)[j]?) := Lib.hid (fun j hj => by
        rw [List.getElem?_set_ne (by omega), List.getElem?_set_ne (by omega), List.getElem?_set_ne (by omega)]
        exact hxs.out j (by omega))
      replace l7 := Lib.hid l7
      replace hG7 := Lib.hid hG7
      replace w7 := Lib.hid w7
      clear l5 g5 l6 g6 g7 hl4 hw4 hG4 hne hlx hxs
      go_wp2_with fail
      go_roundw
      case rel => exact ⟨k + 1, _, by go_num, by omega, l7.out, hx7.out, w7.out, hG7.out⟩
      case measure => simp [intOf]; omega
    · obtain rfl : k = n := by omega
      replace hl := Lib.hid hl
      replace hxs := Lib.hid hxs
      replace hw := Lib.hid hw
      replace hG := Lib.hid hG
      go_wp2_with fail
      go_ret
      exact ⟨rfl, hG.out⟩

def rallE (d n : Nat) : Int := if cntN d n ≤ 4096 then 0 else 211
def rallR (d n : Nat) : List (Nat × Nat) := if cntN d n ≤ 4096 then allL d n else []

set_option maxRecDepth 100000 in
set_option maxHeartbeats 2000000 in
/-- filigreeref21.All -/
theorem rall_any (d n : Nat) (w : World) (hd2 : 2 ≤ d) (hd64 : d ≤ 64) (hn1 : 1 ≤ n) (hn2 : n ≤ 1024) :
    Calls Try.prog 43 #[.int .i64 (d : Int), .int .i64 (n : Int)] w (RetRow 34 2 (rallE d n) (rallR d n).length (angC (rallR d n)) w) := by
  obtain ⟨i0, hi, hz0, hz1, hz2⟩ := info_parts info_angle
  obtain ⟨E, hE⟩ : ∃ E, E = rallE d n := ⟨_, rfl⟩
  obtain ⟨R, hR⟩ : ∃ R, R = rallR d n := ⟨_, rfl⟩
  rw [← hE, ← hR]
  obtain ⟨C, hC⟩ : ∃ C, C = cntN d n := ⟨_, rfl⟩
  have hc := cntN_eq (d := d) (n := n) hd2 hn1 hn2
  rw [← hC] at hc
  have hE2 : E = if C ≤ 4096 then 0 else 211 := by rw [hE, hC]; rfl
  have hR2 : R = if C ≤ 4096 then allL d n else [] := by rw [hR, hC]; rfl
  have hlit : C ≤ 4096 → d ^ n < 2147483648 := fun h => cnt_little hd2 hn1 hn2 (by rw [hc]; omega)
  have hCb : (nb C).length ≤ 1025 := by
    have h1 := cntN_le (d := d) (n := n) hd2 hn1 hn2
    rw [← hC] at h1
    have := nb_pow (z := C) (j := n) hd64 (by omega)
    omega
  have k1 := rcount_any d hd2 hd64 n w hn1 hn2
  rw [← hC] at k1
  have k2 : ∀ W, Calls Try.prog 58 #[.int .u64 4096] W (RetVal (.string (natS 4096)) W) := fun W => rnum_any 4096 W (by omega)
  have k3 : ∀ W, Calls Try.prog 68 #[.string (natS C), .string (natS 4096)] W fun e w' => e = .returned (.int .i64 (cmpI C 4096)) ∧ Dr W w' := fun W => rcmp02_any C 4096 W (by omega) (by have := nb_small (n := 4096) (k := 2) (by omega); omega)
  obtain ⟨s, hs⟩ : ∃ s, s = natS C := ⟨_, rfl⟩
  obtain ⟨t, ht⟩ : ∃ t, t = natS 4096 := ⟨_, rfl⟩
  rw [← hs] at k1 k3
  rw [← ht] at k2 k3
  replace k1 := Lib.hid k1
  replace k2 := Lib.hid k2
  replace k3 := Lib.hid k3
  have hnI : ¬ (n : Int) < 1 := by omega
  have hnI2 : ¬ (1024 : Int) < (n : Int) := by omega
  clear hE hR hC hs ht hCb hc
  by_cases hC4 : C ≤ 4096
  rotate_left
  · rw [if_neg hC4] at hE2 hR2
    subst hE2 hR2
    have hcm : Hid (cmpI C 4096 = 1) := Lib.hid (by unfold cmpI; rw [if_neg (by omega), if_pos (by omega)])
    clear hlit
    go_enter Try.func43, Try.ntmps43
    go_wp2_with fail
    refine k1.out.mono ?_
    rintro e w1 ⟨rfl, hb⟩
    have hB := Lib.hid hb
    clear hb
    go_wp2_with fail
    refine (k2.out _).mono ?_
    rintro e w2 ⟨rfl, hb⟩
    replace hB := Lib.hid (hB.out.trans (hb.mono hB.out.size))
    clear hb
    go_wp2_with fail
    refine (k3.out _).mono ?_
    rintro e w3 ⟨rfl, nd, rfl⟩
    rw [hcm.out]
    replace hB := Lib.hid (below_drewN hB.out nd)
    go_wp2_with fail
    go_ret2
    exact ⟨_, rfl, World.ownsRow_nil _ _ _ _, hB.out⟩
  rw [if_pos hC4] at hE2 hR2
  subst hE2
  replace hR2 := Lib.hid hR2
  obtain ⟨cm, hcme⟩ : ∃ cm, cm = cmpI C 4096 := ⟨_, rfl⟩
  have hcm0 : ¬ 0 < cm := by
    rw [hcme]
    unfold cmpI
    split
    · decide
    · split
      · omega
      · decide
  rw [← hcme] at k3
  obtain ⟨Y, hY⟩ : ∃ Y, Y = d ^ n := ⟨_, rfl⟩
  have hYs := hlit hC4
  rw [← hY] at hYs
  have hY2 : 2 ≤ Y := by
    rw [hY]
    have := Nat.pow_le_pow_right (show 0 < d by omega) hn1
    rw [Nat.pow_one] at this
    omega
  have hpw : Hid (∀ k, k ≤ n → d ^ k ≤ Y) := Lib.hid (fun k hk => by rw [hY]; exact Nat.pow_le_pow_right (by omega) hk)
  replace hY := Lib.hid hY
  obtain ⟨den, hden⟩ : ∃ den, den = Y - 1 := ⟨_, rfl⟩
  have hdi : (Y : Int) - 1 = (den : Int) := by omega
  have hds : den < 2147483648 := by omega
  have hd1 : 1 ≤ den := by omega
  have hrdE : Hid (∀ k, rd k (d ^ n - 1) = (k / Nat.gcd k den, den / Nat.gcd k den)) := Lib.hid (fun k => by rw [← hY.out, ← hden]; rfl)
  have hRl : Hid (R = allP d n den) := Lib.hid (by rw [hR2.out, hden, hY.out]; rfl)
  have wd : IntKind.u64.wrap (d : Int) = (d : Int) := by rw [IntKind.wrap_u64]; omega
  clear hlit hC4 hden hR2 hcme
  go_enter Try.func43, Try.ntmps43
  go_wp2_with fail
  refine k1.out.mono ?_
  rintro e w1 ⟨rfl, hb⟩
  have hB := Lib.hid hb
  clear hb
  go_wp2_with fail
  refine (k2.out _).mono ?_
  rintro e w2 ⟨rfl, hb⟩
  replace hB := Lib.hid (hB.out.trans (hb.mono hB.out.size))
  clear hb
  go_wp2_with fail
  refine (k3.out _).mono ?_
  rintro e w3 ⟨rfl, nd, rfl⟩
  replace hB := Lib.hid (below_drewN hB.out nd)
  obtain ⟨W, hW⟩ : ∃ W, W = w2.drewN nd := ⟨_, rfl⟩
  rw [← hW] at hB ⊢
  clear hW k1 k2 k3
  go_wp2_with fail
  go_loop [7, 8] (fun x i => ∃ k X : Nat, i = .int .i64 (k : Int) ∧ x = .int .u64 (X : Int) ∧ k ≤ n ∧ X = d ^ k) (fun _ i => n - (intOf i).toNat)
  case atStart => exact ⟨0, 1, rfl, rfl, Nat.zero_le _, by simp⟩
  case round =>
    obtain ⟨k, X, rfl, rfl, hk, hX⟩ := hrel
    have hXs : X ≤ Y := by rw [hX]; exact hpw.out k hk
    by_cases h0 : k < n
    · obtain ⟨Z, hZ⟩ : ∃ Z, Z = X * d := ⟨_, rfl⟩
      have hZi : (X : Int) * (d : Int) = (Z : Int) := by rw [hZ]; push_cast; rfl
      have hZ2 : Z = d ^ (k + 1) := by rw [hZ, hX, Nat.pow_succ]
      have hZs : Z ≤ Y := by rw [hZ2]; exact hpw.out _ h0
      have h0I : (k : Int) < (n : Int) := by omega
      replace hZ2 := Lib.hid hZ2
      clear hX hZ
      go_wp2_with fail
      go_round
      case rel => exact ⟨k + 1, Z, by go_num, by first | rfl | go_num, by omega, hZ2.out⟩
      case measure => simp [intOf]; omega
    · obtain rfl : k = n := by omega
      have h0I : ¬ (k : Int) < (k : Int) := by omega
      have hXY : X = Y := by rw [hX, hY.out]
      subst hXY
      clear hX h0 wd
      have wd : IntKind.u64.wrap (d : Int) = (d : Int) := by rw [IntKind.wrap_u64]; omega
      go_wp2_with fail
      go_loopw [9, 10] (fun v kk wr => ∃ j : Nat, kk = .int .u64 (j : Int) ∧ j ≤ den ∧ wr.ownsRow w.heap.size 34 2 v (allP d k j).length (angC (allP d k j)) ∧ Below w.heap.size w wr) (fun _ kk _ => den - (intOf kk).toNat)
      case atStart => exact ⟨0, rfl, Nat.zero_le _, World.ownsRow_nil _ _ _ _, hB.out⟩
      case round =>
        obtain ⟨j, rfl, hj, hown, hB⟩ := hrel
        replace hown := Lib.hid hown
        replace hB := Lib.hid hB
        by_cases hj0 : j < den
        · have hjI : (j : Int) < (den : Int) := by omega
          obtain ⟨N, hN⟩ : ∃ N, N = j / Nat.gcd j den := ⟨_, rfl⟩
          obtain ⟨D, hD⟩ : ∃ D, D = den / Nat.gcd j den := ⟨_, rfl⟩
          have hrd : rd j (d ^ k - 1) = (N, D) := by rw [hrdE.out, hN, hD]
          have hf := rd_facts hd1 hj0
          have hrd2 : rd j den = (N, D) := by rw [hN, hD]; rfl
          rw [hrd2] at hf
          obtain ⟨f1, f2, f3⟩ := hf
          simp only at f1 f2 f3
          obtain ⟨A, hA⟩ : ∃ A, A = (kindN D d).1 := ⟨_, rfl⟩
          obtain ⟨B, hBk⟩ : ∃ B, B = (kindN D d).2 := ⟨_, rfl⟩
          have hkk : Hid (kindN D d = (A, B)) := Lib.hid (by rw [hA, hBk])
          have hyes : B = k → allP d k (j + 1) = allP d k j ++ [(N, D)] := fun h => by rw [allP_yes (by rw [hrd, ← hBk]; exact h), hrd]
          have hno : B ≠ k → allP d k (j + 1) = allP d k j := fun h => allP_no (by rw [hrd, ← hBk]; exact h)
          have hlen := allP_len d k j
          have hmod : Hid (j = j % den) := Lib.hid (Nat.mod_eq_of_lt hj0).symm
          have b1 : Hid (j < 18446744073709551616) := Lib.hid (by omega)
          have b2 : Hid (den < 18446744073709551616) := Lib.hid (by omega)
          have b5 : Hid (0 < D) := Lib.hid (by omega)
          have b6 : Hid (D < 4294967296) := Lib.hid (by omega)
          replace hN := Lib.hid hN
          replace hD := Lib.hid hD
          replace hyes := Lib.hid hyes
          replace hno := Lib.hid hno
          clear hrd hrd2 f1 f2 f3 hA hBk
          obtain ⟨wo, rfl⟩ : ∃ wo : World, wo = wr := ⟨_, rfl⟩
          go_wp2_with fail
          refine (low_any j den j N D _ b1.out b2.out (by omega) hmod hN hD).mono ?_
          rintro e v1 ⟨rfl, hb⟩
          have hown1 := (own_below hown.out hb).alloc (.cells #[.int .u64 (N : Int), .int .u64 (D : Int)] 34)
          have hq := Blk.new v1 34 #[.int .u64 (N : Int), .int .u64 (D : Int)]
          have hB1 := hB.out.trans (hb.mono hB.out.size)
          replace hB1 := hB1.alloc hB1.size (.cells #[.int .u64 (N : Int), .int .u64 (D : Int)] 34)
          clear hb hown hB
          go_upto_region 17 with fail
          generalize hv2 : v1.alloc (.cells #[.int .u64 (N : Int), .int .u64 (D : Int)] 34) = v2 at hown1 hq hB1 ⊢
          generalize hg : v1.heap.size = g at *
          have d0 : v2.cell? ⟨g, 0, none⟩ = some (.int .u64 (N : Int)) := hq.cell 0
          have d1 : v2.cell? ⟨g, 1, none⟩ = some (.int .u64 (D : Int)) := hq.cell 1
          clear hv2 hg
          replace hown1 := Lib.hid hown1
          replace hq := Lib.hid hq
          replace hB1 := Lib.hid hB1
          go_wp2_with fail
          refine (rkind_any N D d A B _ b5.out b6.out hd2 hd64 hkk).mono ?_
          rintro e v3 ⟨rfl, hb⟩
          have hown2 := Lib.hid (own_below hown1.out hb)
          have hB2 := Lib.hid (hB1.out.trans (hb.mono hB1.out.size))
          replace hq := Lib.hid (Blk.below hq.out hb)
          clear hb d0 d1 hown1 hB1
          have d0 : v3.cell? ⟨g, 0, none⟩ = some (.int .u64 (N : Int)) := hq.out.cell 0
          have d1 : v3.cell? ⟨g, 1, none⟩ = some (.int .u64 (D : Int)) := hq.out.cell 1
          by_cases hBk : B = k
          · have hnx := hyes.out hBk
            have hl2 : Hid ((allP d k (j + 1)).length = (allP d k j).length + 1) := Lib.hid (by rw [hnx]; simp)
            have htk : Hid (angC (allP d k (j + 1)) = angC (allP d k j) ++ [.int .u64 (N : Int), .int .u64 (D : Int)]) := Lib.hid (by rw [hnx, angC_snoc])
            subst hBk
            clear hyes hno hnx
            go_wp2_with (at_builtin; refine wpList_append_own _ rfl _ _ 44 rfl w.heap.size 34 i0 (.agg #[.int .u64 0, .int .u64 0]) 2 16 Try.underlying44 hi hz0 hz1 hz2 rfl (by decide) _ _ _ rfl (hown2.out.alloc _) ⟨v3.heap.size, 0, none⟩ 1 1 [.int .u64 (N : Int), .int .u64 (D : Int)] rfl rfl ?d1 ?d2 ?d3 ?d4 ?d5 ?_)
            case d1 =>
              intro j u hj
              match j, hj with
              | 0, hj => simp at hj; subst hj; simp [Addr.add]
              | 1, hj => simp at hj; subst hj; simp [Addr.add]
            case d2 => intro u hu; simp at hu; rcases hu with rfl | rfl <;> rfl
            case d3 => unfold maxLen; omega
            case d4 => omega
            case d5 => have := hB2.out.size; simp; omega
            intro v' w3 hown' hgrow _
            have hB4 : Below w.heap.size w w3 := (hB2.out.alloc hB2.out.size _).grown hgrow (by have := hB2.out.size; simp; omega) (fun k hk => by have := (hown2.out.lt k hk).1; omega)
            rw [← htk.out, ← hl2.out] at hown'
            replace hown' := Lib.hid hown'
            replace hB4 := Lib.hid hB4
            clear hgrow hown2 hB2 htk hl2
            go_wp2_with fail
            go_roundw
            case rel => exact ⟨j + 1, by go_num, by omega, hown'.out, hB4.out⟩
            case measure => simp [intOf]; omega
          · have hnx := hno.out hBk
            have hown3 := hown2.out
            rw [← hnx] at hown3
            replace hown3 := Lib.hid hown3
            have hBI : ((B : Int) == (k : Int)) = false := by simp; omega
            clear hyes hno hnx hq hown2
            go_wp2_with fail
            go_roundw
            case rel => exact ⟨j + 1, by go_num, by omega, hown3.out, hB2.out⟩
            case measure => simp [intOf]; omega
        · obtain rfl : j = den := by omega
          have hjI : ¬ (j : Int) < (j : Int) := by omega
          have hown2 := hown.out
          rw [← hRl.out] at hown2
          replace hown2 := Lib.hid hown2
          clear hown
          go_wp2_with fail
          go_ret2
          exact ⟨_, rfl, hown2.out, hB.out⟩
end Go.Proofs.Ytciafmnideihjaa
