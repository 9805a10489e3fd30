/- Package angle: order. -/
import Derived.Test.YtciafmnideihjaaAngH
import Derived.Test.YtciafmnideihjaaOrd
import Derived.Deep.RegionHeld3
import Derived.Deep.CutBlock
import Derived.WalkMore
namespace Go.Proofs.Ytciafmnideihjaa
open Go.RowKit

/-- The row of factors as a block known whole. -/
theorem fac_row {w : World} {base : Nat} {v : Value} {L : List (Nat × Nat)} (h : w.ownsRow base 164 2 v L.length (facC L)) (h0 : 0 < L.length) :
    ∃ g cap cur, v = .slice (some ⟨g, 0, none⟩) L.length cap ∧ Blk w g 164 cur ∧ base ≤ g ∧ ∀ j, j < L.length * 2 → cur[j]? = (facC L)[j]? := by
  rcases h.2 with ⟨_, h'⟩ | ⟨g, cap, cur, h', _, hg, hb, _, _, htake⟩
  · omega
  · refine ⟨g, cap, cur, h', hg, (h.lt g (by rw [h']; rfl)).1, fun j hj => ?_⟩
    rw [← htake, List.getElem?_take, if_pos hj]
    simp

theorem facC_cons (p c : Nat) (M : List (Nat × Nat)) : facC ((p, c) :: M) = [.int .u64 (p : Int), .int .i64 (c : Int)] ++ facC M := by simp [facC]
theorem facC_app (P M : List (Nat × Nat)) : facC (P ++ M) = facC P ++ facC M := by simp [facC]
theorem facC_at {P M : List (Nat × Nat)} {p c k : Nat} (hk : P.length = k) : (facC (P ++ (p, c) :: M))[k * 2]? = some (.int .u64 (p : Int)) ∧ (facC (P ++ (p, c) :: M))[k * 2 + 1]? = some (.int .i64 (c : Int)) := by
  rw [facC_app, facC_cons, ← hk]
  constructor
  · rw [List.getElem?_append_right (by rw [facC_len]; omega), facC_len]; simp
  · rw [List.getElem?_append_right (by rw [facC_len]; omega), facC_len]; simp

set_option maxRecDepth 100000 in
set_option maxHeartbeats 1000000 in
/-- angle.order -/
theorem order_any (n d : Nat) (w : World) (h0 : 0 < n) (hn : n < 4294967296) :
    Calls Try.prog 88 #[.int .u64 (n : Int), .int .u64 (d : Int)] w (RetVal (.int .i64 (ordG n d : Int)) w) := by
  by_cases h1 : n = 1
  · subst h1
    have hv : Hid (ordG 1 d = 1) := Lib.hid (by simp [ordG])
    go_enter Try.func88, Try.ntmps88
    go_wp2_with fail
    apply wp_scope_straight
    go_wp2
    go_ret
    exact ⟨by rw [hv.out]; rfl, Below.refl _ _⟩
  · have h1I : ((n : Int) == 1) = false := by simp; omega
    obtain ⟨gN, eN⟩ := factorsL_good h0
    obtain ⟨q1, q2⟩ := phiN_le h0
    obtain ⟨gP, eP⟩ := factorsL_good q1
    obtain ⟨L, hL⟩ : ∃ L, L = factorsL n := ⟨_, rfl⟩
    obtain ⟨F0, hF0⟩ : ∃ F0, F0 = phiN n := ⟨_, rfl⟩
    obtain ⟨K, hK⟩ : ∃ K, K = factorsL F0 := ⟨_, rfl⟩
    have hphi : Hid (phiA 1 L = F0) := Lib.hid (by rw [hF0, hL]; rfl)
    have hres : Hid (ordG n d = ordA d n F0 K) := Lib.hid (by rw [hK, hF0]; simp [ordG, h1])
    rw [← hL] at gN eN
    rw [← hF0] at q1 q2 gP eP
    rw [← hK] at gP eP
    have hL0 : 0 < L.length := by
      rcases L with _ | ⟨x, L⟩
      · simp [prodL] at eN; omega
      · simp
    replace gN := Lib.hid gN
    replace eN := Lib.hid eN
    replace gP := Lib.hid gP
    replace eP := Lib.hid eP
    have hlenL : L.length ≤ 4294967296 := by
      have := facF_len n n 2
      rw [hL]
      unfold factorsL
      omega
    have hlenK : K.length ≤ 4294967296 := by
      have := facF_len F0 F0 2
      rw [hK]
      unfold factorsL
      omega
    clear hF0
    go_enter Try.func88, Try.ntmps88
    go_wp2_with fail
    apply wp_scope_straight
    go_wp2_with fail
    refine (factors_any n _ h0 (by omega)).mono ?_
    rintro e w1 ⟨v, rfl, hown, hB⟩
    rw [← hL] at hown
    obtain ⟨g, cap, cur, rfl, hblk, hgb, hcur⟩ := fac_row hown hL0
    obtain ⟨len, hlen⟩ : ∃ len, len = L.length := ⟨_, rfl⟩
    rw [← hlen] at hcur hlenL ⊢
    replace hcur := Lib.hid hcur
    replace hlen := Lib.hid hlen
    clear hown
    replace hL := Lib.hid hL
    replace hK := Lib.hid hK
    go_wp2_with fail
    go_loopw [5, 16] (fun f i wr => ∃ (F k : Nat) (P M : List (Nat × Nat)), f = .int .i64 (F : Int) ∧ i = .int .i64 (k : Int) ∧ P.length = k ∧ L = P ++ M ∧ Good M ∧ 0 < F ∧ F * prodL M ≤ n ∧ phiA F M = F0 ∧ Blk wr g 164 cur ∧ Below w.heap.size w wr) (fun _ i _ => len - (intOf i).toNat)
    case atStart => exact ⟨1, 0, [], L, rfl, rfl, rfl, rfl, gN.out, by omega, by rw [eN.out]; omega, hphi.out, hblk, hB⟩
    case round =>
      obtain ⟨F, k, P, M, rfl, rfl, hP, hPM, gM, hF, hFM, hpA, hbr, hBr⟩ := hrel
      clear hblk hB
      rcases M with _ | ⟨⟨p, c⟩, M⟩
      · have hkl : k = len := by rw [hlen.out, hPM, List.append_nil, hP]
        subst hkl
        simp only [phiA] at hpA
        subst hpA
        replace hBr := Lib.hid hBr
        clear hbr hFM gM hPM hP
        go_wp2_with fail
        apply wp_label
        go_wp2_with fail
        refine (factors_any F _ hF (by omega)).mono ?_
        rintro e w2 ⟨v2, rfl, hown2, hB2⟩
        rw [← hK.out] at hown2
        replace hB2 := hBr.out.trans (hB2.mono hBr.out.size)
        clear hBr
        rcases K with _ | ⟨x, K⟩
        · have hres2 : ordG n d = F := by rw [hres.out]; rfl
          have hv : v2 = .slice none 0 0 ∨ ∃ g2 cap2, v2 = .slice (some ⟨g2, 0, none⟩) 0 cap2 := by
            rcases hown2.2 with ⟨h, _⟩ | ⟨g2, cap2, _, h, _⟩
            · exact .inl h
            · exact .inr ⟨g2, cap2, h⟩
          replace hB2 := Lib.hid hB2
          replace hres2 := Lib.hid hres2
          clear hown2 hK hres
          rcases hv with rfl | ⟨g2, cap2, rfl⟩
          all_goals
            go_wp2_with fail
            go_loopw [8, 40] (fun l j wr => l = .int .u64 (F : Int) ∧ j = .int .i64 0 ∧ wr = w2) (fun _ _ _ => 0)
            case atStart => exact ⟨rfl, rfl, rfl⟩
            case round =>
              obtain ⟨rfl, rfl, rfl⟩ := hrel
              go_wp2_with fail
              go_ret
              exact ⟨by rw [hres2.out]; rfl, hB2.out⟩
        · obtain ⟨K0, hK0⟩ : ∃ K0, K0 = x :: K := ⟨_, rfl⟩
          rw [← hK0] at hown2 hK hres gP eP hlenK
          obtain ⟨g2, cap2, cur2, rfl, hblk, hgb2, hcur2⟩ := fac_row hown2 (by rw [hK0]; simp)
          obtain ⟨ln, hln⟩ : ∃ ln, ln = K0.length := ⟨_, rfl⟩
          rw [← hln] at hcur2 hlenK ⊢
          replace hcur2 := Lib.hid hcur2
          replace hln := Lib.hid hln
          clear hown2 hK0
          go_wp2_with fail
          go_loopw [8, 40] (fun x i wr => ∃ (l k : Nat) (P M : List (Nat × Nat)), x = .int .u64 (l : Int) ∧ i = .int .i64 (k : Int) ∧ P.length = k ∧ K0 = P ++ M ∧ Good M ∧ 0 < l ∧ l ≤ F ∧ prodL M ∣ l ∧ ordA d n l M = ordA d n F K0 ∧ Blk wr g2 164 cur2 ∧ Below w.heap.size w wr) (fun _ i _ => ln - (intOf i).toNat)
          case atStart => exact ⟨F, 0, [], K0, rfl, rfl, rfl, rfl, gP.out, hF, Nat.le_refl _, by rw [eP.out]; exact Nat.dvd_refl _, rfl, hblk, hB2⟩
          case round =>
            obtain ⟨l, j, P, M, rfl, rfl, hP, hPM, gM, hl0, hlF, hdv, hoA, hbr, hBr⟩ := hrel
            clear hblk hB2
            rcases M with _ | ⟨⟨p, c⟩, M⟩
            · have hjl : j = ln := by rw [hln.out, hPM, List.append_nil, hP]
              subst hjl
              simp only [ordA] at hoA
              have hfin := Lib.hid (hres.out.trans hoA.symm)
              replace hBr := Lib.hid hBr
              clear hoA hbr hdv gM hPM hP
              go_wp2_with fail
              go_ret
              exact ⟨by rw [hfin.out]; rfl, hBr.out⟩
            · obtain ⟨hp, hc⟩ := gM.head
              have gM' := gM.tail
              have hjl : j < ln := by rw [hln.out, hPM, List.length_append, hP]; simp
              have hat := facC_at (M := M) (p := p) (c := c) hP
              have c0 : wr.cell? ⟨g2, j * 2, none⟩ = some (.int .u64 (p : Int)) := by rw [Blk.cell hbr, hcur2.out _ (by omega), hPM]; exact hat.1
              have c1 : wr.cell? ⟨g2, j * 2 + 1, none⟩ = some (.int .i64 (c : Int)) := by rw [Blk.cell hbr, hcur2.out _ (by omega), hPM]; exact hat.2
              simp only [prodL] at hdv
              simp only [ordA] at hoA
              have hdv2 : prodL M * p ^ c ∣ l := by rw [Nat.mul_comm]; exact hdv
              have hpc : p ^ c ≤ l := Nat.le_of_dvd hl0 (Nat.dvd_trans (Nat.dvd_mul_left _ _) hdv2)
              have hcs : c < l := Nat.lt_of_lt_of_le (Nat.lt_pow_self (by omega)) hpc
              have hps : p ≤ l := by
                refine Nat.le_trans ?_ hpc
                have := Nat.pow_le_pow_right (show 0 < p by omega) hc
                rwa [Nat.pow_one] at this
              obtain ⟨R, hR⟩ : ∃ R, R = ordP d n p c l := ⟨_, rfl⟩
              have hRs := ordP_spec (d := d) (n := n) hp c l (prodL M) hl0 hdv2
              rw [← hR] at hoA hRs
              obtain ⟨hR1, hR0, hRl⟩ := hRs
              have qp := Blk.new wr 164 #[.int .u64 (p : Int), .int .i64 (c : Int)]
              have qg := hbr.alloc (.cells #[.int .u64 (p : Int), .int .i64 (c : Int)] 164)
              have hB3 := hBr.alloc hBr.size (.cells #[.int .u64 (p : Int), .int .i64 (c : Int)] 164)
              replace hoA := Lib.hid hoA
              replace hR := Lib.hid hR
              replace hR1 := Lib.hid hR1
              replace gM' := Lib.hid gM'
              replace hPM := Lib.hid hPM
              replace hP := Lib.hid hP
              clear hat hdv hdv2 gM hpc hbr hBr
              go_upto_region 13 with fail
              generalize hw3 : wr.alloc (.cells #[.int .u64 (p : Int), .int .i64 (c : Int)] 164) = w3 at qp qg hB3 ⊢
              generalize hgp : wr.heap.size = gp at *
              have d0 : w3.cell? ⟨gp, 0, none⟩ = some (.int .u64 (p : Int)) := qp.cell 0
              have d1 : w3.cell? ⟨gp, 1, none⟩ = some (.int .i64 (c : Int)) := qp.cell 1
              replace qp := Lib.hid qp
              replace qg := Lib.hid qg
              replace hB3 := Lib.hid hB3
              clear hw3 hgp c0 c1
              go_wp2_with fail
              go_loopw [8, 46] (fun x i wx => ∃ y t : Nat, x = .int .u64 (y : Int) ∧ i = .int .i64 (t : Int) ∧ t ≤ c ∧ y ≤ l ∧ ordP d n p (c - t) y = R ∧ Dr w3 wx) (fun _ i _ => c - (intOf i).toNat)
              case atStart => exact ⟨l, 0, rfl, rfl, Nat.zero_le _, Nat.le_refl _, by rw [hR.out]; rfl, Dr.refl _⟩
              case round =>
                obtain ⟨y, t, rfl, rfl, htc, hyl, hoR, z, rfl⟩ := hrel
                have e0 : (w3.drewN z).cell? ⟨gp, 0, none⟩ = some (.int .u64 (p : Int)) := Blk.cell (Blk.drewN qp.out z) 0
                have e1 : (w3.drewN z).cell? ⟨gp, 1, none⟩ = some (.int .i64 (c : Int)) := Blk.cell (Blk.drewN qp.out z) 1
                have q4 := Lib.hid (Blk.drewN qg.out z)
                have B4 := Lib.hid (below_drewN hB3.out z)
                clear d0 d1
                by_cases htl : t < c
                · obtain ⟨q, hq⟩ : ∃ q, q = y / p := ⟨_, rfl⟩
                  have hqi : (y : Int) / (p : Int) = (q : Int) := by rw [hq]; rfl
                  have hqy : q ≤ y := by rw [hq]; exact Nat.div_le_self _ _
                  obtain ⟨m, hm⟩ : ∃ m, c - t = m + 1 := ⟨c - t - 1, by omega⟩
                  obtain ⟨X, hX⟩ : ∃ X, X = d ^ q % n := ⟨_, rfl⟩
                  have hm2 : Hid (c - (t + 1) = m) := Lib.hid (by omega)
                  rw [hm] at hoR
                  by_cases hX1 : X = 1
                  · rw [ordP_go (by rw [← hq, ← hX]; exact hX1), ← hq] at hoR
                    replace hoR := Lib.hid hoR
                    replace hX := Lib.hid hX
                    have hX1I : (X : Int) = 1 := by omega
                    clear hm hq
                    go_wp2_with fail
                    refine (power_any d q n _ (by omega) h0 hn).mono ?_
                    rintro e w5 ⟨rfl, hD5⟩
                    rw [← hX.out]
                    have D5 := ((Dr.refl w3).drewN z).trans hD5
                    clear hD5
                    obtain ⟨z5, rfl⟩ := D5
                    have D5 := (Dr.refl w3).drewN z5
                    have k0 : (w3.drewN z5).cell? ⟨gp, 0, none⟩ = some (.int .u64 (p : Int)) := Blk.cell (Blk.drewN qp.out z5) 0
                    have q5 := Lib.hid (Blk.drewN qg.out z5)
                    have B5 := Lib.hid (below_drewN hB3.out z5)
                    replace D5 := Lib.hid D5
                    clear e0 e1 q4 B4
                    go_wp2_with fail
                    go_roundw
                    case rel => exact ⟨q, t + 1, rfl, by go_num, by omega, by omega, by rw [hm2.out]; exact hoR.out, D5.out⟩
                    case measure => simp [intOf]; omega
                  · rw [ordP_end (by rw [← hq, ← hX]; exact hX1)] at hoR
                    subst hoR
                    replace hX := Lib.hid hX
                    have hX1I : ¬ (X : Int) = 1 := by omega
                    clear hm hq
                    go_wp2_with fail
                    refine (power_any d q n _ (by omega) h0 hn).mono ?_
                    rintro e w5 ⟨rfl, hD5⟩
                    rw [← hX.out]
                    have D5 := ((Dr.refl w3).drewN z).trans hD5
                    clear hD5
                    obtain ⟨z5, rfl⟩ := D5
                    have D5 := (Dr.refl w3).drewN z5
                    have k0 : (w3.drewN z5).cell? ⟨gp, 0, none⟩ = some (.int .u64 (p : Int)) := Blk.cell (Blk.drewN qp.out z5) 0
                    have q5 := Lib.hid (Blk.drewN qg.out z5)
                    have B5 := Lib.hid (below_drewN hB3.out z5)
                    replace D5 := Lib.hid D5
                    clear e0 e1 q4 B4
                    go_wp2_with fail
                    go_roundw
                    case rel => exact ⟨y, j + 1, P ++ [(p, c)], M, rfl, by go_num, by rw [List.length_append, hP.out]; rfl, by rw [hPM.out]; simp, gM'.out, hR0, by omega, hR1.out, hoA.out, q5.out, B5.out⟩
                    case measure => simp [intOf]; omega
                · obtain rfl : t = c := by omega
                  have hoR2 : y = R := by rw [← hoR, Nat.sub_self]; rfl
                  subst hoR2
                  clear hoR
                  go_wp2_with fail
                  go_roundw
                  case rel => exact ⟨y, j + 1, P ++ [(p, t)], M, rfl, by go_num, by rw [List.length_append, hP.out]; rfl, by rw [hPM.out]; simp, gM'.out, hR0, by omega, hR1.out, hoA.out, q4.out, B4.out⟩
                  case measure => simp [intOf]; omega
      · obtain ⟨hp, hc⟩ := gM.head
        have gM' := gM.tail
        have hkl : k < len := by rw [hlen.out, hPM, List.length_append, hP]; simp
        have hat := facC_at (M := M) (p := p) (c := c) hP
        have c0 : wr.cell? ⟨g, k * 2, none⟩ = some (.int .u64 (p : Int)) := by rw [Blk.cell hbr, hcur.out _ (by omega), hPM]; exact hat.1
        have c1 : wr.cell? ⟨g, k * 2 + 1, none⟩ = some (.int .i64 (c : Int)) := by rw [Blk.cell hbr, hcur.out _ (by omega), hPM]; exact hat.2
        simp only [prodL] at hFM
        simp only [phiA] at hpA
        obtain ⟨s1, s2⟩ := step_le hp hc
        have hMp := prodL_pos M gM'
        obtain ⟨U, hU⟩ : ∃ U, U = p ^ (c - 1) := ⟨_, rfl⟩
        obtain ⟨V, hV⟩ : ∃ V, V = U * (p - 1) := ⟨_, rfl⟩
        obtain ⟨F', hF'⟩ : ∃ F', F' = F * V := ⟨_, rfl⟩
        have hpc : p ^ c ≤ n := by
          refine Nat.le_trans ?_ hFM
          have e1 : p ^ c * 1 ≤ p ^ c * prodL M := Nat.mul_le_mul_left _ hMp
          have e2 : 1 * (p ^ c * prodL M) ≤ F * (p ^ c * prodL M) := Nat.mul_le_mul_right _ hF
          omega
        have hcs : c < n := Nat.lt_of_lt_of_le (Nat.lt_pow_self (by omega)) hpc
        have hps : p ≤ n := by
          refine Nat.le_trans ?_ hpc
          have := Nat.pow_le_pow_right (show 0 < p by omega) hc
          rwa [Nat.pow_one] at this
        rw [← hU, ← hV] at s1 s2
        have hF's : F' * prodL M ≤ n := by
          refine Nat.le_trans ?_ hFM
          rw [hF', ← Nat.mul_assoc]
          exact Nat.mul_le_mul_right _ (Nat.mul_le_mul_left _ s2)
        have hF'0 : 0 < F' := by rw [hF']; exact Nat.mul_pos hF s1
        have hF'n : F' ≤ n := by
          have : F' * 1 ≤ F' * prodL M := Nat.mul_le_mul_left _ hMp
          omega
        have hUn : U ≤ n := by
          have : U * 1 ≤ U * (p - 1) := Nat.mul_le_mul_left _ (by omega)
          omega
        rw [← hU, ← hV, ← hF'] at hpA
        obtain ⟨c', hc'⟩ : ∃ c', c' = c - 1 := ⟨_, rfl⟩
        have hci : (c : Int) - 1 = (c' : Int) := by omega
        obtain ⟨p', hp'⟩ : ∃ p', p' = p - 1 := ⟨_, rfl⟩
        have hpi : (p : Int) - 1 = (p' : Int) := by omega
        have hVi : (U : Int) * (p' : Int) = (V : Int) := by rw [hV, hp']; push_cast; rfl
        have hFi : (F : Int) * (V : Int) = (F' : Int) := by rw [hF']; push_cast; rfl
        have hVn : V ≤ n := Nat.le_trans s2 hpc
        have hpow : Hid (∀ j, j ≤ c' → p ^ j < 9223372036854775808) := Lib.hid (fun j hj => by
          have := Nat.pow_le_pow_right (show 0 < p by omega) (show j ≤ c by omega)
          omega)
        have hUv : Hid (p ^ c' = U) := Lib.hid (by rw [hU, hc'])
        replace hbr := Lib.hid hbr
        replace hBr := Lib.hid hBr
        replace hpA := Lib.hid hpA
        replace hF's := Lib.hid hF's
        replace gM' := Lib.hid gM'
        replace hPM := Lib.hid hPM
        replace hP := Lib.hid hP
        clear hat hU hV hF' hFM gM hpc s2 hc' hp'
        have qp := Blk.new wr 164 #[.int .u64 (p : Int), .int .i64 (c : Int)]
        have qg := hbr.out.alloc (.cells #[.int .u64 (p : Int), .int .i64 (c : Int)] 164)
        have hB2 := hBr.out.alloc hBr.out.size (.cells #[.int .u64 (p : Int), .int .i64 (c : Int)] 164)
        have w1i : IntKind.i64.wrap (c' : Int) = (c' : Int) := by rw [IntKind.wrap_i64]; omega
        have w2i : IntKind.i64.wrap (U : Int) = (U : Int) := by rw [IntKind.wrap_i64]; omega
        have w3i : IntKind.i64.wrap (p' : Int) = (p' : Int) := by rw [IntKind.wrap_i64]; omega
        have w4i : IntKind.u64.wrap (p' : Int) = (p' : Int) := by rw [IntKind.wrap_u64]; omega
        have w5i : IntKind.i64.wrap (V : Int) = (V : Int) := by rw [IntKind.wrap_i64]; omega
        have w6i : IntKind.i64.wrap (F' : Int) = (F' : Int) := by rw [IntKind.wrap_i64]; omega
        go_wp2_with fail
        generalize hw2 : wr.alloc (.cells #[.int .u64 (p : Int), .int .i64 (c : Int)] 164) = w2 at qp qg hB2 ⊢
        generalize hgp : wr.heap.size = gp at *
        have d0 : w2.cell? ⟨gp, 0, none⟩ = some (.int .u64 (p : Int)) := qp.cell 0
        have d1 : w2.cell? ⟨gp, 1, none⟩ = some (.int .i64 (c : Int)) := qp.cell 1
        replace qp := Lib.hid qp
        replace qg := Lib.hid qg
        replace hB2 := Lib.hid hB2
        clear hw2 hgp c0 c1
        go_region_held3 (fun w' => w'.cell? ⟨gp, 0, none⟩ = some (.int .u64 (p : Int)) ∧ w'.cell? ⟨gp, 1, none⟩ = some (.int .i64 (c : Int))) (go_keep)
          (first | (go_at_call 117; refine (times_any p c c' _ (by omega) hpow.out).mono ?_; rintro e w4 ⟨rfl, hb4⟩; unfold powV; rw [hUv.out]; have e0 : w4.cell? ⟨gp, 0, none⟩ = some (.int .u64 (p : Int)) := Blk.cell (Blk.below (Blk.drewN qp.out _) hb4) 0; have e1 : w4.cell? ⟨gp, 1, none⟩ = some (.int .i64 (c : Int)) := Blk.cell (Blk.below (Blk.drewN qp.out _) hb4) 1; have q4 := Lib.hid (Blk.below (Blk.drewN qg.out _) hb4); have B4 := Lib.hid ((below_drewN hB2.out _).trans (hb4.mono hB2.out.size)); clear hb4))
        all_goals
          go_wp2_with fail
          go_roundw
          case rel => exact ⟨F', k + 1, P ++ [(p, c)], M, rfl, by go_num, by rw [List.length_append, hP.out]; rfl, by rw [hPM.out]; simp, gM'.out, hF'0, hF's.out, hpA.out, q4.out, B4.out⟩
          case measure => simp [intOf]; omega
end Go.Proofs.Ytciafmnideihjaa
