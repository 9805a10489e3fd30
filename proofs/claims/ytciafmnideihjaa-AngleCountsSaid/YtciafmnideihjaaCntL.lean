/- filigreelaw21.AngleCounts: the walk. -/
import Derived.Test.YtciafmnideihjaaCntP
import Derived.Deep.CutRange
namespace Go.Proofs.Ytciafmnideihjaa
open Go.RowKit Go.Sort

theorem be_byte {s : ByteArray} {k : Nat} (h : k < s.size) : be ((sl s).take (k + 1)) = 256 * be ((sl s).take k) + (s[k]'h).toNat := be_take_succ (sl_get s k h)

set_option maxRecDepth 100000 in
set_option maxHeartbeats 4000000 in
theorem angleCounts_any (d n : Int) (ng : Bool) (nu de : ByteArray) (w : World) (z1 : nu.size ≤ 9223372036854775807) (z2 : de.size ≤ 9223372036854775807) :
    Calls Try.prog 14 #[.int .i64 d, .int .i64 n, .agg #[.bool ng, .string nu, .string de]] w (RetVal (.bool true) w) := by
  have ka := Blk.new w 24 #[.bool ng, .string nu, .string de]
  have hBW : Below w.heap.size w (w.alloc (.cells #[.bool ng, .string nu, .string de] 24)) := (Below.refl _ w).alloc (Nat.le_refl _) _
  replace ka := Lib.hid ka
  replace hBW := Lib.hid hBW
  have hrange : (d < 2 ∨ ¬ d < 2 ∧ 64 < d ∨ ¬ d < 2 ∧ ¬ 64 < d ∧ n < 1 ∨ ¬ d < 2 ∧ ¬ 64 < d ∧ ¬ n < 1 ∧ 10 < n) ∨ (¬ d < 2 ∧ ¬ 64 < d ∧ ¬ n < 1 ∧ ¬ 10 < n) := by omega
  rcases hrange with hx | ⟨d0, d1, n0, n1⟩
  · go_enter Try.func14, Try.ntmps14
    go_wp2_with fail
    refine (awake_any _).mono ?_
    rintro en v1 ⟨rfl, hb⟩
    replace hBW := Lib.hid (hBW.out.trans (hb.mono hBW.out.size))
    clear hb ka
    rcases hx with h1 | ⟨h1, h2⟩ | ⟨h1, h2, h3⟩ | ⟨h1, h2, h3, h4⟩
    all_goals
      go_wp2_with fail
      go_ret
      exact ⟨rfl, hBW.out⟩
  obtain ⟨dn, rfl⟩ := Int.eq_ofNat_of_zero_le (show 0 ≤ d by omega)
  obtain ⟨nn, rfl⟩ := Int.eq_ofNat_of_zero_le (show 0 ≤ n by omega)
  have hd2 : 2 ≤ dn := by omega
  have hd64 : dn ≤ 64 := by omega
  have hn1 : 1 ≤ nn := by omega
  have hn10 : nn ≤ 10 := by omega
  obtain ⟨Y, hY⟩ : ∃ Y, Y = dn ^ nn := ⟨_, rfl⟩
  have hYs : Y ≤ 1152921504606846976 := by
    rw [hY]
    refine Nat.le_trans (Nat.pow_le_pow_left hd64 _) ?_
    refine Nat.le_trans (Nat.pow_le_pow_right (by omega) hn10) (by decide)
  have hY1 : 1 ≤ Y := by rw [hY]; exact one_le_dpow hd2
  have hpw : Hid (∀ k, k ≤ nn → dn ^ k ≤ Y) := Lib.hid (fun k hk => by rw [hY]; exact Nat.pow_le_pow_right (by omega) hk)
  have hsum : Hid (sumN dn nn nn = Y - 1) := Lib.hid (by rw [hY]; exact sumN_all hd2 hn1 (by omega))
  have hsle : Hid (∀ j, j ≤ nn → sumN dn nn j ≤ Y - 1) := Lib.hid (fun j hj => by rw [hY]; exact sumN_le hd2 hn1 (by omega) hj)
  have hcnt : Hid (∀ k, 1 ≤ k → k ≤ nn → (natS (cntN dn k)).size ≤ 8 ∧ be (sl (natS (cntN dn k))) = cntN dn k ∧ cntN dn k < Y ∧ CountV (dn : Int) (k : Int) = .tuple #[.string (natS (cntN dn k)), .int .i64 0]) := Lib.hid (fun k hk1 hk => by
    have h1 := cntN_le (d := dn) (n := k) hd2 hk1 (by omega)
    have h2 := hpw.out k hk
    have h3 : mayN (dn : Int) (k : Int) = true := by
      have e1 : roundB (dn : Int) = true := roundB_iff.2 ⟨by omega, by omega⟩
      have e2 : (1 : Int) ≤ (k : Int) := by omega
      have e3 : (k : Int) ≤ 1024 := by omega
      simp only [mayN, e1, e2, e3, decide_true, Bool.and_self]
    refine ⟨?_, be_natS _, by omega, ?_⟩
    · rw [natS_size]
      exact nb_small (k := 8) (Nat.lt_of_lt_of_le h1 (Nat.le_trans h2 (Nat.le_trans hYs (by decide))))
    · rw [CountV, if_pos h3, Int.toNat_natCast, Int.toNat_natCast])
  obtain ⟨C, hC⟩ : ∃ C, C = cntN dn nn := ⟨_, rfl⟩
  have hmay : mayN (dn : Int) (nn : Int) = true := by
    have e1 : roundB (dn : Int) = true := roundB_iff.2 ⟨by omega, by omega⟩
    have e2 : (1 : Int) ≤ (nn : Int) := by omega
    have e3 : (nn : Int) ≤ 1024 := by omega
    simp only [mayN, e1, e2, e3, decide_true, Bool.and_self]
  have hAll : ∃ (E : Int) (R : List (Nat × Nat)), (∀ W, Calls Try.prog 42 #[.int .i64 (dn : Int), .int .i64 (nn : Int)] W (RetRow 24 3 E R.length (ratC R) W)) ∧
      ((E = 211 ∧ R = []) ∨ (E = 0 ∧ R = allL dn nn ∧ dn ^ nn < 2147483648)) := by
    refine ⟨allE dn nn, allR dn nn, fun W => All_any _ _ W, ?_⟩
    by_cases h : C ≤ 4096
    · right
      refine ⟨?_, ?_, ?_⟩
      · simp only [allE, hmay, if_true, Int.toNat_natCast, ← hC, if_pos h]
      · simp only [allR, hmay, Bool.true_and, decide_eq_true_eq, Int.toNat_natCast, ← hC, if_pos h]
      · exact cnt_little hd2 hn1 (by omega) (by rw [cntN_eq hd2 hn1 (by omega), ← hC]; omega)
    · left
      refine ⟨?_, ?_⟩
      · simp only [allE, hmay, if_true, Int.toNat_natCast, ← hC, if_neg h]
      · simp only [allR, hmay, Bool.true_and, decide_eq_true_eq, Int.toNat_natCast, ← hC, if_neg h]
  obtain ⟨E, L, hAll, hcase⟩ := hAll
  replace hAll := Lib.hid hAll
  obtain ⟨kp, km, ke, hkv, hk0⟩ := kindV_form ng nu de (dn : Int)
  have Ka : ∀ W : World, Calls Try.prog 16 #[.agg #[.bool ng, .string nu, .string de], .int .i64 (dn : Int)] W (RetVal (.tuple #[.int .i64 kp, .int .i64 km, .int .i64 ke]) W) := fun W => by
    have h := kindW_any ng nu de (dn : Int) W z1 z2
    rw [hkv] at h
    exact h
  replace Ka := Lib.hid Ka
  replace hk0 := Lib.hid hk0
  replace hcase := Lib.hid hcase
  replace hY := Lib.hid hY
  clear hkv hmay hC
  go_enter Try.func14, Try.ntmps14
  go_wp2_with fail
  refine (awake_any _).mono ?_
  rintro en v1 ⟨rfl, hb⟩
  replace ka := Lib.hid (Blk.below ka.out hb)
  replace hBW := Lib.hid (hBW.out.trans (hb.mono hBW.out.size))
  clear hb
  go_wp2_with fail
  go_loop [7, 9] (fun x i => ∃ k X : Nat, i = .int .i64 (k : Int) ∧ x = .int .i64 (X : Int) ∧ k ≤ nn ∧ X = dn ^ k) (fun _ i => nn - (intOf i).toNat)
  case atStart => exact ⟨0, 1, rfl, rfl, Nat.zero_le _, by simp⟩
  case round =>
    obtain ⟨k, X, rfl, rfl, hk, hX⟩ := hrel
    have hXs : X ≤ Y := by rw [hX]; exact hpw.out k hk
    by_cases h0 : k < nn
    · obtain ⟨Z, hZ⟩ : ∃ Z, Z = X * dn := ⟨_, rfl⟩
      have hZi : (X : Int) * (dn : Int) = (Z : Int) := by rw [hZ]; push_cast; rfl
      have hZ2 : Z = dn ^ (k + 1) := by rw [hZ, hX, Nat.pow_succ]
      have hZs : Z ≤ Y := by rw [hZ2]; exact hpw.out _ h0
      have h0I : (k : Int) < (nn : Int) := by omega
      replace hZ2 := Lib.hid hZ2
      clear hX hZ
      go_wp2_with fail
      go_round
      case rel => exact ⟨k + 1, Z, by go_num, by first | rfl | go_num, by omega, hZ2.out⟩
      case measure => simp [intOf]; omega
    · have hke : k = nn := by omega
      have h0I : ¬ (k : Int) < (nn : Int) := by omega
      have hXY : X = Y := by rw [hX, hke, hY.out]
      subst hXY
      clear hX hke
      go_wp2_with fail
      clear h0 h0I hk hXs
      go_loopw [8, 10] (fun s i wr => ∃ (K S : Nat), i = .int .i64 (K : Int) ∧ s = .int .u64 (S : Int) ∧ 1 ≤ K ∧ K ≤ nn + 1 ∧ S = sumN dn nn (K - 1) ∧ Blk wr w.heap.size 24 #[.bool ng, .string nu, .string de] ∧ Below w.heap.size w wr) (fun _ i _ => nn + 1 - (intOf i).toNat)
      case atStart => exact ⟨1, 0, rfl, rfl, Nat.le_refl _, by omega, rfl, ka.out, hBW.out⟩
      case round =>
        clear ka hBW
        obtain ⟨K, S, rfl, rfl, hK1, hK2, hS, ka, hBW⟩ := hrel
        replace ka := Lib.hid ka
        replace hBW := Lib.hid hBW
        by_cases h0 : K ≤ nn
        · have h0I : (K : Int) ≤ (nn : Int) := by omega
          obtain ⟨R, hR⟩ : ∃ R, R = nn % K := ⟨_, rfl⟩
          have hRi : (nn : Int) % (K : Int) = (R : Int) := by rw [hR]; rfl
          have hRi' : (nn : Int).tmod (K : Int) = (R : Int) := by rw [hR]; exact tmod_nat nn K
          have hKz : ¬ (K : Int) = 0 := by omega
          by_cases hR0 : R = 0
          · subst hR0
            obtain ⟨c1, c2, c3, c4⟩ := hcnt.out K hK1 h0
            obtain ⟨N, hN⟩ : ∃ N, N = cntN dn K := ⟨_, rfl⟩
            have hS2 : Hid (S + N = sumN dn nn (K + 1 - 1)) := Lib.hid (by
              obtain ⟨j, rfl⟩ : ∃ j, K = j + 1 := ⟨K - 1, by omega⟩
              rw [hS, hN, show j + 1 + 1 - 1 = j + 1 by omega, sumN, ← hR, if_pos rfl]
              rfl)
            have hSN : S + N ≤ X - 1 := by rw [hS2.out]; exact hsle.out _ (by omega)
            rw [← hN] at c1 c2 c3 c4
            obtain ⟨s, hs⟩ : ∃ s, s = natS N := ⟨_, rfl⟩
            rw [← hs] at c1 c2 c4
            replace c2 := Lib.hid c2
            have hcV := Lib.hid c4
            have c1I : ¬ (8 : Int) < (s.size : Int) := by omega
            clear hR hS hN hs c4
            go_wp2_with fail
            refine (Count_any _ _ _).mono ?_
            rintro en w2 ⟨rfl, hb⟩
            rw [hcV.out]
            replace ka := Lib.hid (Blk.below ka.out hb)
            replace hBW := Lib.hid (hBW.out.trans (hb.mono hBW.out.size))
            clear hb
            go_wp2_with fail
            go_loop [13, 14] (fun x i => ∃ k : Nat, i = .int .i64 (k : Int) ∧ k ≤ s.size ∧ x = .int .u64 ((be ((sl s).take k) : Nat) : Int)) (fun _ i => s.size - (intOf i).toNat)
            case atStart => exact ⟨0, rfl, Nat.zero_le _, rfl⟩
            case round =>
              obtain ⟨i, rfl, hi, rfl⟩ := hrel
              obtain ⟨V, hV⟩ : ∃ V, V = be ((sl s).take i) := ⟨_, rfl⟩
              rw [← hV]
              by_cases hi0 : i < s.size
              · have hbt := be_byte hi0
                have hlt := be_lt (l := (sl s).take (i + 1)) (fun x hx => sl_lt s x (List.mem_of_mem_take hx))
                rw [hbt, ← hV, List.length_take, sl_len] at hlt
                rw [← hV] at hbt
                have hlt2 : 256 * V + (s[i]'hi0).toNat < 18446744073709551616 := by
                  refine Nat.lt_of_lt_of_le hlt ?_
                  refine Nat.le_trans (Nat.pow_le_pow_right (by omega) (show min (i + 1) s.size ≤ 8 by omega)) (by decide)
                obtain ⟨c, hc⟩ : ∃ c, c = (s[i]'hi0).toNat := ⟨_, rfl⟩
                have hci : ((s[i]'hi0).toNat : Int) = (c : Int) := by rw [hc]
                rw [← hc] at hbt hlt2
                have hiI : (i : Int) < (s.size : Int) := by omega
                replace hbt := Lib.hid hbt
                clear hlt hc hV
                go_wp2_with fail
                go_round
                case rel => exact ⟨i + 1, by go_num, by omega, by rw [hbt.out]; go_num⟩
                case measure => simp [intOf]; omega
              · have hie : i = s.size := by omega
                have hVe : V = N := by rw [hV, hie, ← sl_len, List.take_length]; exact c2.out
                have hiI : ¬ (i : Int) < (s.size : Int) := by omega
                subst hVe
                clear hV hie
                go_wp2_with fail
                go_roundw
                case rel => exact ⟨K + 1, S + V, by go_num, by go_num, by omega, by omega, hS2.out, ka.out, hBW.out⟩
                case measure => simp [intOf]; omega
          · have hRb : ((R : Int) == 0) = false := by simp; omega
            have hS2 : Hid (S = sumN dn nn (K + 1 - 1)) := Lib.hid (by
              obtain ⟨j, rfl⟩ : ∃ j, K = j + 1 := ⟨K - 1, by omega⟩
              rw [hS, show j + 1 + 1 - 1 = j + 1 by omega, sumN, ← hR, if_neg hR0]
              rfl)
            clear hR hS
            go_wp2_with fail
            go_roundw
            case rel => exact ⟨K + 1, S, by go_num, rfl, by omega, by omega, hS2.out, ka.out, hBW.out⟩
            case measure => simp [intOf]; omega
        · have h0I : ¬ (K : Int) ≤ (nn : Int) := by omega
          have hSe : S = X - 1 := by rw [hS, show K - 1 = nn by omega]; exact hsum.out
          have hXi : (X : Int) - 1 = (S : Int) := by omega
          clear hS hSe
          go_wp2_with fail
          refine (hAll.out _).mono ?_
          rintro en w2 ⟨lv, rfl, hl, hb⟩
          have hszl := hBW.out.size
          replace hl := Lib.hid (own_le hl hszl)
          replace ka := Lib.hid (Blk.below ka.out hb)
          replace hBW := Lib.hid (hBW.out.trans (hb.mono hBW.out.size))
          clear hb hszl hpw hsum hsle hcnt hAll h0 h0I hXi
          rcases hcase.out with ⟨e1, e2⟩ | ⟨e1, e2, hlit⟩
          · subst e1 e2
            rcases own_formsB hl.out with ⟨rfl, -⟩ | ⟨gl, capl, rfl⟩
            · clear hl
              go_wp2_with fail
              go_ret
              exact ⟨rfl, hBW.out⟩
            · clear hl
              simp only [List.length_nil]
              go_wp2_with fail
              go_ret
              exact ⟨rfl, hBW.out⟩
          subst e1
          have hlen : L.length ≤ 2147483648 := by rw [e2]; exact Nat.le_trans (allP_len _ _ _) (by omega)
          have hmem : ∀ p, p ∈ L → okA false (natS p.1) (natS p.2) = true ∧ (∀ W, Calls Try.prog 16 #[.agg #[.bool false, .string (natS p.1), .string (natS p.2)], .int .i64 (dn : Int)] W (RetVal (.tuple #[.int .i64 0, .int .i64 (nn : Int), .int .i64 0]) W)) := fun p hp => by
            rw [e2] at hp
            obtain ⟨f1, f2, f3, f4⟩ := allL_mem hd2 hn1 hlit hp
            have hok := okA_natS f1 f2 f3
            refine ⟨hok, fun W => ?_⟩
            have h := kindW_any false (natS p.1) (natS p.2) (dn : Int) W (okA_size hok).1 (okA_size hok).2
            have e : kindV false (natS p.1) (natS p.2) (dn : Int) = .tuple #[.int .i64 0, .int .i64 (nn : Int), .int .i64 0] := by
              unfold kindV
              rw [if_pos hok, if_pos (roundB_iff.2 ⟨by omega, by omega⟩), Int.toNat_natCast, be_natS, f4]
              rfl
            rw [e] at h
            exact h
          have hcmp : ∀ (j : Nat) (N D A B : Nat), L[j]? = some (N, D) → L[j + 1]? = some (A, B) → ∃ c : Int, c < 0 ∧ ∀ W : World, Calls Try.prog 37 #[.agg #[.bool false, .string (natS N), .string (natS D)], .agg #[.bool false, .string (natS A), .string (natS B)]] W (RetVal (.tuple #[.int .i64 c, .int .i64 0]) W) := fun j N D A B h1 h2 => by
            have k1 := (hmem _ (List.mem_of_getElem? h1)).1
            have k2 := (hmem _ (List.mem_of_getElem? h2)).1
            rw [e2] at h1 h2
            have hr : N * B < A * D := allL_rise hd2 hn1 h1 h2 (by omega)
            refine ⟨cmpN (N * B) (A * D), by unfold cmpN; rw [if_pos hr]; decide, fun W => ?_⟩
            have h := acmp_any false (natS N) (natS D) false (natS A) (natS B) W (okA_size k1).1 (okA_size k1).2 (okA_size k2).1 (okA_size k2).2
            have e : acmpV false (natS N) (natS D) false (natS A) (natS B) = .tuple #[.int .i64 (cmpN (N * B) (A * D)), .int .i64 0] := by
              unfold acmpV
              rw [k1, k2, be_natS, be_natS, be_natS, be_natS]
              rfl
            rw [e] at h
            exact h
          have hamong : ke = 0 → kp = 0 → km = (nn : Int) → ∃ (i N D : Nat), L[i]? = some (N, D) ∧ ng = false ∧ nu = natS N ∧ de = natS D := fun g1 g2 g3 => by
            obtain ⟨ok, -, k1, k2⟩ := hk0.out g1
            rw [Int.toNat_natCast] at k1 k2
            obtain ⟨hng, mnu, mde, gc, lt, le⟩ := okA_spec ok
            have hk : kindN (be (sl de)) dn = (0, nn) := Prod.ext (by simp only; omega) (by simp only; omega)
            have hin := allL_among hd2 hn1 (by omega) gc lt hk
            rw [← e2] at hin
            obtain ⟨i, hi⟩ := List.getElem?_of_mem hin
            exact ⟨i, _, _, hi, hng, (natS_be mnu).symm, (natS_be mde).symm⟩
          replace hmem := Lib.hid hmem
          replace hcmp := Lib.hid hcmp
          replace hamong := Lib.hid hamong
          have hdone : ∀ b : Bool, (∀ i N D : Nat, L[i]? = some (N, D) → ng = false → nu = natS N → de = natS D → b = true) → (((ke != 0) || (kp != 0)) || (km != (nn : Int))) = false → b = true := fun b hb h => by
            simp only [Bool.or_eq_false_iff, bne_eq_false_iff_eq] at h
            obtain ⟨i, N, D, g1, g2, g3, g4⟩ := hamong.out h.1.1 h.1.2 h.2
            exact hb i N D g1 g2 g3 g4
          replace hdone := Lib.hid hdone
          clear e2 hlit hcase hk0 hamong
          obtain ⟨len, hlenE⟩ : ∃ len, len = L.length := ⟨_, rfl⟩
          rw [← hlenE] at hl hlen
          replace hlenE := Lib.hid hlenE
          have hfin : ∀ (b : Bool) (wr : World), (∀ i N D : Nat, L[i]? = some (N, D) → ng = false → nu = natS N → de = natS D → b = true) → ((ke != 0) = true ∨ (ke != 0) = false ∧ (kp != 0) = true ∨ (ke != 0) = false ∧ (kp != 0) = false ∧ (km != (nn : Int)) = true) ∨ ((ke != 0) = false ∧ (kp != 0) = false ∧ (km != (nn : Int)) = false ∧ b = true) := fun b wr hb => by
            cases g1 : (ke != 0)
            · cases g2 : (kp != 0)
              · cases g3 : (km != (nn : Int))
                · exact .inr ⟨rfl, rfl, rfl, hdone.out b hb (by rw [g1, g2, g3]; rfl)⟩
                · exact .inl (.inr (.inr ⟨rfl, rfl, rfl⟩))
              · exact .inl (.inr (.inl ⟨rfl, rfl⟩))
            · exact .inl (.inl rfl)
          replace hfin := Lib.hid hfin
          clear hdone
          rcases own_formsB hl.out with ⟨rfl, hn0⟩ | ⟨gl, capl, rfl⟩
          · have hL0 : L = [] := List.eq_nil_of_length_eq_zero (by rw [← hlenE.out]; exact hn0)
            have hf := hfin.out false w2 (fun i N D h => by rw [hL0] at h; simp at h)
            clear hl hfin
            go_wp2_with fail
            go_loop [17, 18] (fun x i => i = .int .i64 0 ∧ x = .bool false) (fun _ _ => 0)
            case atStart => exact ⟨rfl, rfl⟩
            case round =>
              obtain ⟨rfl, rfl⟩ := hrel
              have c0 : w2.cell? ⟨w.heap.size, 0, none⟩ = some (.bool ng) := ka.out.cell 0
              have c1 : w2.cell? ⟨w.heap.size, 1, none⟩ = some (.string nu) := ka.out.cell 1
              have c2 : w2.cell? ⟨w.heap.size, 2, none⟩ = some (.string de) := ka.out.cell 2
              go_wp2_with fail
              refine (Ka.out _).mono ?_
              rintro en w3 ⟨rfl, hb⟩
              replace hBW := Lib.hid (hBW.out.trans (hb.mono hBW.out.size))
              clear hb c0 c1 c2 ka
              rcases hf with (g1 | ⟨g1, g2⟩ | ⟨g1, g2, g3⟩) | ⟨g1, g2, g3, g4⟩
              · go_wp2_with fail
                go_ret
                exact ⟨rfl, hBW.out⟩
              · go_wp2_with fail
                go_ret
                exact ⟨rfl, hBW.out⟩
              · go_wp2_with fail
                go_ret
                exact ⟨rfl, hBW.out⟩
              · cases g4
          · go_wp2_with fail
            go_loopw [17, 18] (fun x i wr => ∃ (k : Nat) (b : Bool), i = .int .i64 (k : Int) ∧ x = .bool b ∧ k ≤ len ∧ (∀ i N D : Nat, i < k → L[i]? = some (N, D) → ng = false → nu = natS N → de = natS D → b = true) ∧ wr.ownsRow w.heap.size 24 3 (.slice (some ⟨gl, 0, none⟩) len capl) len (ratC L) ∧ Blk wr w.heap.size 24 #[.bool ng, .string nu, .string de] ∧ Below w.heap.size w wr) (fun _ i _ => len - (intOf i).toNat)
            case atStart => exact ⟨0, false, rfl, rfl, Nat.zero_le _, fun i N D h => absurd h (by omega), hl.out, ka.out, hBW.out⟩
            case round =>
              clear hl ka hBW
              obtain ⟨k, b, rfl, rfl, hk, hbi, hl, ka, hBW⟩ := hrel
              replace hl := Lib.hid hl
              replace ka := Lib.hid ka
              replace hBW := Lib.hid hBW
              replace hbi := Lib.hid hbi
              by_cases h0 : k < len
              · have h0I : (k : Int) < (len : Int) := by omega
                obtain ⟨⟨N, D⟩, hget⟩ : ∃ p, L[k]? = some p := ⟨_, List.getElem?_eq_getElem (by rw [← hlenE.out]; exact h0)⟩
                have hkind := Lib.hid (hmem.out _ (List.mem_of_getElem? hget)).2
                obtain ⟨r0, r1, r2⟩ := ratC_get L k (N, D) hget
                have c0 : wr.cell? ⟨gl, k * 3, none⟩ = some (.bool false) := by rw [hl.out.cellAt _ (by omega)]; exact r0
                have c1 : wr.cell? ⟨gl, k * 3 + 1, none⟩ = some (.string (natS N)) := by rw [hl.out.cellAt _ (by omega)]; exact r1
                have c2 : wr.cell? ⟨gl, k * 3 + 2, none⟩ = some (.string (natS D)) := by rw [hl.out.cellAt _ (by omega)]; exact r2
                replace r0 := Lib.hid r0
                replace r1 := Lib.hid r1
                replace r2 := Lib.hid r2
                have hprev : 0 < k → ∃ (j N2 D2 : Nat) (c : Int), k = j + 1 ∧ L[j]? = some (N2, D2) ∧ c < 0 ∧ ∀ W : World, Calls Try.prog 37 #[.agg #[.bool false, .string (natS N2), .string (natS D2)], .agg #[.bool false, .string (natS N), .string (natS D)]] W (RetVal (.tuple #[.int .i64 c, .int .i64 0]) W) := fun hk0 => by
                  obtain ⟨j, rfl⟩ : ∃ j, k = j + 1 := ⟨k - 1, by omega⟩
                  obtain ⟨⟨N2, D2⟩, hget2⟩ : ∃ p, L[j]? = some p := ⟨_, List.getElem?_eq_getElem (by rw [← hlenE.out]; omega)⟩
                  obtain ⟨c, g1, g2⟩ := hcmp.out j N2 D2 N D hget2 hget
                  exact ⟨j, N2, D2, c, rfl, hget2, g1, g2⟩
                replace hprev := Lib.hid hprev
                replace hget := Lib.hid hget
                go_wp2_with fail
                refine (hkind.out _).mono ?_
                rintro en q1 ⟨rfl, hb⟩
                replace ka := Lib.hid (Blk.below ka.out hb)
                replace hl := Lib.hid (own_below hl.out hb)
                replace hBW := Lib.hid (hBW.out.trans (hb.mono hBW.out.size))
                clear hb c0 c1 c2 hkind
                have hnext : ∀ b2 : Bool, ((b = true → b2 = true) ∧ (ng = false → nu = natS N → de = natS D → b2 = true)) → (∀ i N D : Nat, i < k + 1 → L[i]? = some (N, D) → ng = false → nu = natS N → de = natS D → b2 = true) := fun b2 g i N' D' hi hi2 g1 g2 g3 => by
                  rcases Nat.lt_or_ge i k with h | h
                  · exact g.1 (hbi.out i N' D' h hi2 g1 g2 g3)
                  · obtain rfl : i = k := by omega
                    rw [hget.out] at hi2
                    injection hi2 with hi2
                    injection hi2 with e1 e2
                    subst e1 e2
                    exact g.2 g1 g2 g3
                replace hnext := Lib.hid hnext
                clear hget hbi
                have hlast : ∀ (q : World), q.ownsRow w.heap.size 24 3 (.slice (some ⟨gl, 0, none⟩) len capl) len (ratC L) → q.cell? ⟨gl, k * 3, none⟩ = some (.bool false) ∧ q.cell? ⟨gl, k * 3 + 1, none⟩ = some (.string (natS N)) ∧ q.cell? ⟨gl, k * 3 + 2, none⟩ = some (.string (natS D)) := fun q h =>
                  ⟨by rw [h.cellAt _ (by omega)]; exact r0.out, by rw [h.cellAt _ (by omega)]; exact r1.out, by rw [h.cellAt _ (by omega)]; exact r2.out⟩
                replace hlast := Lib.hid hlast
                by_cases hk0 : 0 < k
                · have hk0I : (0 : Int) < (k : Int) := by omega
                  obtain ⟨j, N2, D2, c, hkj, hget2, hc2, hcmp2⟩ := hprev.out hk0
                  obtain ⟨s0, s1, s2⟩ := ratC_get L j (N2, D2) hget2
                  have hji : (k : Int) - 1 = (j : Int) := by omega
                  have hjd : j < len := by omega
                  have hjI : (j : Int) < (len : Int) := by omega
                  have hc2n : ¬ 0 ≤ c := by omega
                  have hjw : IntKind.i64.wrap (j : Int) = (j : Int) := by rw [IntKind.wrap_i64]; omega
                  replace hkj := Lib.hid hkj
                  clear hget2 hprev
                  go_upto_region 36 with fail
                  have b0 : ∀ d os, (grow (redrawn q1 d) os).cell? ⟨gl, j * 3, none⟩ = some (.bool false) := cell_regrown (by rw [hl.out.cellAt _ (by omega)]; exact s0)
                  have b1 : ∀ d os, (grow (redrawn q1 d) os).cell? ⟨gl, j * 3 + 1, none⟩ = some (.string (natS N2)) := cell_regrown (by rw [hl.out.cellAt _ (by omega)]; exact s1)
                  have b2 : ∀ d os, (grow (redrawn q1 d) os).cell? ⟨gl, j * 3 + 2, none⟩ = some (.string (natS D2)) := cell_regrown (by rw [hl.out.cellAt _ (by omega)]; exact s2)
                  have a0 : ∀ d os, (grow (redrawn q1 d) os).cell? ⟨gl, k * 3, none⟩ = some (.bool false) := cell_regrown (by rw [hl.out.cellAt _ (by omega)]; exact r0.out)
                  have a1 : ∀ d os, (grow (redrawn q1 d) os).cell? ⟨gl, k * 3 + 1, none⟩ = some (.string (natS N)) := cell_regrown (by rw [hl.out.cellAt _ (by omega)]; exact r1.out)
                  have a2 : ∀ d os, (grow (redrawn q1 d) os).cell? ⟨gl, k * 3 + 2, none⟩ = some (.string (natS D)) := cell_regrown (by rw [hl.out.cellAt _ (by omega)]; exact r2.out)
                  clear s0 s1 s2
                  have cc : ∀ d os, Calls Try.prog 37 #[.agg #[.bool false, .string (natS N2), .string (natS D2)], .agg #[.bool false, .string (natS N), .string (natS D)]] (grow (redrawn q1 d) os) fun e w'' => e = .returned (.tuple #[.int .i64 c, .int .i64 0]) ∧ ∃ p : Regrown, w'' = grow (redrawn q1 p.d) p.os := fun d os => Calls.regrown_of (hcmp2 _)
                  clear hcmp2
                  refine wp_region_quiet_below (by kernel_rfl) (by kernel_rfl) ?_
                  iterate 9 (quiet_step (fail))
                  quiet_step (exact cc _ _)
                  iterate 5 (quiet_step (fail))
                  refine wpQuiet_nil ?_
                  intro q6 hw'
                  have hb : Below q1.heap.size q1 q6 := by
                    obtain ⟨p, rfl⟩ := hw'
                    exact below_regrown q1 p.d p.os
                  clear hw'
                  replace ka := Lib.hid (Blk.below ka.out hb)
                  replace hl := Lib.hid (own_below hl.out hb)
                  replace hBW := Lib.hid (hBW.out.trans (hb.mono hBW.out.size))
                  clear hb cc a0 a1 a2 b0 b1 b2
                  obtain ⟨a0, a1, a2⟩ := hlast.out q6 hl.out
                  have c0 : q6.cell? ⟨w.heap.size, 0, none⟩ = some (.bool ng) := ka.out.cell 0
                  have c1 : q6.cell? ⟨w.heap.size, 1, none⟩ = some (.string nu) := ka.out.cell 1
                  have c2 : q6.cell? ⟨w.heap.size, 2, none⟩ = some (.string de) := ka.out.cell 2
                  have hsplit : ng = true ∨ (ng = false ∧ ¬ (natS N).toList = nu.toList) ∨ (ng = false ∧ (natS N).toList = nu.toList ∧ ¬ (natS D).toList = de.toList) ∨ (ng = false ∧ (natS N).toList = nu.toList ∧ (natS D).toList = de.toList) := by
                    cases ng
                    · by_cases hA : (natS N).toList = nu.toList
                      · by_cases hD : (natS D).toList = de.toList
                        · exact .inr (.inr (.inr ⟨rfl, hA, hD⟩))
                        · exact .inr (.inr (.inl ⟨rfl, hA, hD⟩))
                      · exact .inr (.inl ⟨rfl, hA⟩)
                    · exact .inl rfl
                  rcases hsplit with rfl | ⟨rfl, hA⟩ | ⟨rfl, hA, hD⟩ | ⟨rfl, hA, hD⟩
                  all_goals
                    cases b
                    all_goals
                      go_wp2_with fail
                      go_quiet (fail)
                      go_wp2_with fail
                      go_roundw
                      case rel => exact ⟨k + 1, _, by go_num, rfl, by omega, hnext.out _ ⟨by simp, fun h1 h2 h3 => by first | rfl | exact absurd h1 (by decide) | exact absurd (by rw [h2]) hA | exact absurd (by rw [h3]) hD⟩, hl.out, ka.out, below_drewN hBW.out _⟩
                      case measure => simp [intOf]; omega
                · have hk0I : ¬ (0 : Int) < (k : Int) := by omega
                  clear hprev
                  obtain ⟨a0, a1, a2⟩ := hlast.out q1 hl.out
                  have c0 : q1.cell? ⟨w.heap.size, 0, none⟩ = some (.bool ng) := ka.out.cell 0
                  have c1 : q1.cell? ⟨w.heap.size, 1, none⟩ = some (.string nu) := ka.out.cell 1
                  have c2 : q1.cell? ⟨w.heap.size, 2, none⟩ = some (.string de) := ka.out.cell 2
                  have hsplit : ng = true ∨ (ng = false ∧ ¬ (natS N).toList = nu.toList) ∨ (ng = false ∧ (natS N).toList = nu.toList ∧ ¬ (natS D).toList = de.toList) ∨ (ng = false ∧ (natS N).toList = nu.toList ∧ (natS D).toList = de.toList) := by
                    cases ng
                    · by_cases hA : (natS N).toList = nu.toList
                      · by_cases hD : (natS D).toList = de.toList
                        · exact .inr (.inr (.inr ⟨rfl, hA, hD⟩))
                        · exact .inr (.inr (.inl ⟨rfl, hA, hD⟩))
                      · exact .inr (.inl ⟨rfl, hA⟩)
                    · exact .inl rfl
                  rcases hsplit with rfl | ⟨rfl, hA⟩ | ⟨rfl, hA, hD⟩ | ⟨rfl, hA, hD⟩
                  all_goals
                    cases b
                    all_goals
                      go_wp2_with fail
                      go_quiet (fail)
                      go_wp2_with fail
                      go_roundw
                      case rel => exact ⟨k + 1, _, by go_num, rfl, by omega, hnext.out _ ⟨by simp, fun h1 h2 h3 => by first | rfl | exact absurd h1 (by decide) | exact absurd (by rw [h2]) hA | exact absurd (by rw [h3]) hD⟩, hl.out, ka.out, below_drewN hBW.out _⟩
                      case measure => simp [intOf]; omega
              · obtain rfl : k = len := by omega
                have h0I : ¬ (k : Int) < (k : Int) := by omega
                have hf := hfin.out b wr (fun i N D h g1 g2 g3 => hbi.out i N D (by rw [hlenE.out]; exact (List.getElem?_eq_some_iff.1 h).1) h g1 g2 g3)
                have c0 : wr.cell? ⟨w.heap.size, 0, none⟩ = some (.bool ng) := ka.out.cell 0
                have c1 : wr.cell? ⟨w.heap.size, 1, none⟩ = some (.string nu) := ka.out.cell 1
                have c2 : wr.cell? ⟨w.heap.size, 2, none⟩ = some (.string de) := ka.out.cell 2
                clear hbi hl hfin
                go_wp2_with fail
                refine (Ka.out _).mono ?_
                rintro en w3 ⟨rfl, hb⟩
                replace hBW := Lib.hid (hBW.out.trans (hb.mono hBW.out.size))
                clear hb c0 c1 c2 ka
                rcases hf with (g1 | ⟨g1, g2⟩ | ⟨g1, g2, g3⟩) | ⟨g1, g2, g3, rfl⟩
                all_goals
                  go_wp2_with fail
                  go_ret
                  exact ⟨rfl, hBW.out⟩
end Go.Proofs.Ytciafmnideihjaa
