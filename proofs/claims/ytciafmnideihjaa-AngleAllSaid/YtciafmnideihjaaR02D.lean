/- The document's answer: filigreeref21.All; AngleAll: the walk. -/
import Derived.Test.YtciafmnideihjaaR02C
import Derived.Deep.CutBlock
namespace Go.Proofs.Ytciafmnideihjaa
open Go.RowKit Go.Sort

theorem own_kindD {w : World} {B : Nat} {T : TypeId} {size : Nat} {v : Value} {n : Nat} {xs : List Value} (h : w.ownsRow B T size v n xs) {g : Nat} (hg : v.ownBlock = some g) : ∃ cur, w.heap[g]? = some (.cells cur T (0, 0)) ∧ B ≤ g := by
  rcases h.2 with ⟨rfl, -⟩ | ⟨g', cap, cur, rfl, hb, hh, -⟩
  · cases hg
  · injection hg with hg
    subst hg
    exact ⟨cur, hh, hb⟩
theorem own_apartD {w : World} {B B' : Nat} {T T' : TypeId} {size size' : Nat} {v v' : Value} {n n' : Nat} {xs xs' : List Value} (h : w.ownsRow B T size v n xs) (h' : w.ownsRow B' T' size' v' n' xs') (hT : T ≠ T') : ∀ g, v.ownBlock = some g → v'.ownBlock ≠ some g := by
  intro g hg hg'
  obtain ⟨c, e, -⟩ := own_kindD h hg
  obtain ⟨c', e', -⟩ := own_kindD h' hg'
  rw [e] at e'
  injection e' with e'
  injection e' with _ e'
  exact hT e'

theorem keep_otherD {a b : Option Nat} (h : a ≠ none → b ≠ a) : b = none ∨ b ≠ a := by
  cases a with
  | none => cases b <;> simp
  | some g => exact .inr (h (by simp))


set_option maxRecDepth 100000 in
set_option maxHeartbeats 2000000 in
/-- filigreelaw21.same, of lists that tell the same, however long; the first is written over. -/
theorem same2_any (L : List (Nat × Nat)) (hL : ∀ p, p ∈ L → p.1 < 18446744073709551616 ∧ p.2 < 18446744073709551616) (hn : L.length ≤ 2147483648) (v1 v2 : Value) (w : World) (B1 B2 : Nat)
    (h1 : w.ownsRow B1 24 3 v1 L.length (ratC L)) (h2 : w.ownsRow B2 34 2 v2 L.length (angC L)) (hne : ∀ g, v1.ownBlock = some g → v2.ownBlock ≠ some g) :
    Calls Try.prog 31 #[v1, v2] w fun e w' => e = .returned (.bool true) ∧ w.grownBy w' v1.ownBlock := by
  by_cases hL0 : L = []
  · subst hL0
    rcases own_forms h1 with ⟨rfl, -⟩ | ⟨g1, cap1, rfl⟩ <;> rcases own_forms h2 with ⟨rfl, -⟩ | ⟨g2, cap2, rfl⟩
    all_goals
      clear h1 h2 hL hne
      try simp only [List.length_nil]
      go_enter Try.func31, Try.ntmps31
      go_wp2
      go_loop [5] (fun i => i = .int .i64 0) (fun _ => 0)
      case atStart => rfl
      case round =>
        subst hrel
        go_wp2
        go_ret
        exact ⟨rfl, grown_refl _ _⟩
  have hlen : 0 < L.length := List.length_pos_iff.2 hL0
  rcases own_forms h1 with ⟨-, h0⟩ | ⟨g1, cap1, rfl⟩
  · omega
  rcases own_forms h2 with ⟨-, h0⟩ | ⟨g2, cap2, rfl⟩
  · omega
  have hg12 : g1 ≠ g2 := fun e => hne g1 rfl (by rw [e]; rfl)
  obtain ⟨n, hnn⟩ : ∃ n, n = L.length := ⟨_, rfl⟩
  rw [← hnn] at h1 h2 hn hlen ⊢
  replace hnn := Lib.hid hnn
  replace hL := Lib.hid hL
  replace h1 := Lib.hid h1
  replace h2 := Lib.hid h2
  clear hne hL0
  go_enter Try.func31, Try.ntmps31
  go_wp2
  go_loopw [5] (fun i wr => ∃ (k : Nat) (xs : List Value), i = .int .i64 (k : Int) ∧ k ≤ n ∧ wr.ownsRow B1 24 3 (.slice (some ⟨g1, 0, none⟩) n cap1) n xs ∧ (∀ j, k * 3 ≤ j → xs[j]? = (ratC L)[j]?) ∧ wr.ownsRow B2 34 2 (.slice (some ⟨g2, 0, none⟩) n cap2) n (angC L) ∧ w.grownBy wr (some g1)) (fun i _ => n - (intOf i).toNat)
  case atStart => exact ⟨0, _, rfl, Nat.zero_le _, h1.out, fun _ _ => rfl, h2.out, grown_refl _ _⟩
  case round =>
    obtain ⟨k, xs, rfl, hk, hl, hxs, hw, hG⟩ := hrel
    by_cases h0 : k < n
    · have h0I : (k : Int) < (n : Int) := by omega
      obtain ⟨p, hp⟩ : ∃ p, L[k]? = some p := ⟨_, List.getElem?_eq_getElem (by rw [← hnn.out]; exact h0)⟩
      obtain ⟨r0, r1, r2⟩ := ratC_get L k p hp
      obtain ⟨s0, s1⟩ := angC_get L k p hp
      obtain ⟨N, D⟩ := p
      obtain ⟨hNs, hDs⟩ := hL.out _ (List.mem_of_getElem? hp)
      have c0 : ∀ d os, (grow (redrawn wr d) os).cell? ⟨g1, k * 3, none⟩ = some (.bool false) := cell_regrown (by rw [hl.cellAt _ (by omega), hxs _ (by omega)]; exact r0)
      have c1 : ∀ d os, (grow (redrawn wr d) os).cell? ⟨g1, k * 3 + 1, none⟩ = some (.string (natS N)) := cell_regrown (by rw [hl.cellAt _ (by omega), hxs _ (by omega)]; exact r1)
      have c2 : ∀ d os, (grow (redrawn wr d) os).cell? ⟨g1, k * 3 + 2, none⟩ = some (.string (natS D)) := cell_regrown (by rw [hl.cellAt _ (by omega), hxs _ (by omega)]; exact r2)
      have d0 : ∀ d os, (grow (redrawn wr d) os).cell? ⟨g2, k * 2, none⟩ = some (.int .u64 (N : Int)) := cell_regrown (by rw [hw.cellAt _ (by omega)]; exact s0)
      have d1 : ∀ d os, (grow (redrawn wr d) os).cell? ⟨g2, k * 2 + 1, none⟩ = some (.int .u64 (D : Int)) := cell_regrown (by rw [hw.cellAt _ (by omega)]; exact s1)
      have cc : ∀ d os, Calls Try.prog 24 #[.agg #[.int .u64 (N : Int), .int .u64 (D : Int)]] (grow (redrawn wr d) os) fun e w'' => e = .returned (.agg #[.bool false, .string (natS N), .string (natS D)]) ∧ ∃ p : Regrown, w'' = grow (redrawn wr p.d) p.os :=
        fun d os => Calls.regrown_of (rratio_any N D _ hNs hDs)
      replace hl := Lib.hid hl
      replace hxs := Lib.hid hxs
      replace hw := Lib.hid hw
      replace hG := Lib.hid hG
      clear r0 r1 r2 s0 s1 hNs hDs hp
      go_wp2_with fail
      refine wp_region_quiet_below (by kernel_rfl) (by kernel_rfl) ?_
      iterate 8 (quiet_step (fail))
      quiet_step (exact cc _ _)
      quiet_step (fail)
      refine wpQuiet_nil ?_
      intro u4 hw'
      have hb : Below wr.heap.size wr u4 := by
        obtain ⟨p, rfl⟩ := hw'
        exact below_regrown wr p.d p.os
      have hl4 := own_below hl.out hb
      have hw4 := own_below hw.out hb
      have hG4 := grown_trans hG.out (grown_below hb)
      clear hw' cc c0 c1 c2 d0 d1 hb hl hw hG
      have f0 := hl4.frozenAt (k * 3)
      have f1 := hl4.frozenAt (k * 3 + 1)
      have f2 := hl4.frozenAt (k * 3 + 2)
      have hlx : xs.length = n * 3 := hl4.1
      have e0 : ∃ u, u4.cell? ⟨g1, k * 3, none⟩ = some u := by rw [hl4.cellAt _ (by omega)]; exact ⟨_, List.getElem?_eq_getElem (by omega)⟩
      have e1 : ∃ u, u4.cell? ⟨g1, k * 3 + 1, none⟩ = some u := by rw [hl4.cellAt _ (by omega)]; exact ⟨_, List.getElem?_eq_getElem (by omega)⟩
      have e2 : ∃ u, u4.cell? ⟨g1, k * 3 + 2, none⟩ = some u := by rw [hl4.cellAt _ (by omega)]; exact ⟨_, List.getElem?_eq_getElem (by omega)⟩
      obtain ⟨w0, e0⟩ := e0
      obtain ⟨w1, e1⟩ := e1
      obtain ⟨w2, e2⟩ := e2
      obtain ⟨l5, g5⟩ := hl4.stored (k * 3) (.bool true)
      obtain ⟨l6, g6⟩ := l5.stored (k * 3 + 1) (.string ⟨#[]⟩)
      obtain ⟨l7, g7⟩ := l6.stored (k * 3 + 2) (.string ⟨#[]⟩)
      have hG7 := grown_trans (grown_trans (grown_trans hG4 g5) g6) g7
      have hne : (Value.slice (some ⟨g2, 0, none⟩) n cap2).ownBlock ≠ some g1 := by
        intro e
        injection e with e
        exact hg12 e.symm
      have w7 := ((hw4.kept g5 (.inr hne)).kept g6 (.inr hne)).kept g7 (.inr hne)
      have hx7 : Hid (∀ j, (k + 1) * 3 ≤ j → (((xs.set (k * 3) (.bool true)).set (k * 3 + 1) (.string ⟨#[]⟩)).set (k * 3 + 2) (.string ⟨#[]⟩))[j]? = (ratC L)[j]?) := Lib.hid (fun j hj => by
        rw [List.getElem?_set_ne (by omega), List.getElem?_set_ne (by omega), List.getElem?_set_ne (by omega)]
        exact hxs.out j (by omega))
      replace l7 := Lib.hid l7
      replace hG7 := Lib.hid hG7
      replace w7 := Lib.hid w7
      clear l5 g5 l6 g6 g7 hl4 hw4 hG4 hne hlx hxs
      go_wp2_with fail
      go_roundw
      case rel => exact ⟨k + 1, _, by go_num, by omega, l7.out, hx7.out, w7.out, hG7.out⟩
      case measure => simp [intOf]; omega
    · obtain rfl : k = n := by omega
      replace hl := Lib.hid hl
      replace hxs := Lib.hid hxs
      replace hw := Lib.hid hw
      replace hG := Lib.hid hG
      go_wp2_with fail
      go_ret
      exact ⟨rfl, hG.out⟩

def rallE (d n : Nat) : Int := if cntN d n ≤ 4096 then 0 else 211
def rallR (d n : Nat) : List (Nat × Nat) := if cntN d n ≤ 4096 then allL d n else []

set_option maxRecDepth 100000 in
set_option maxHeartbeats 2000000 in
/-- filigreeref21.All -/
theorem rall_any (d n : Nat) (w : World) (hd2 : 2 ≤ d) (hd64 : d ≤ 64) (hn1 : 1 ≤ n) (hn2 : n ≤ 1024) :
    Calls Try.prog 43 #[.int .i64 (d : Int), .int .i64 (n : Int)] w (RetRow 34 2 (rallE d n) (rallR d n).length (angC (rallR d n)) w) := by
  obtain ⟨i0, hi, hz0, hz1, hz2⟩ := info_parts info_angle
  obtain ⟨E, hE⟩ : ∃ E, E = rallE d n := ⟨_, rfl⟩
  obtain ⟨R, hR⟩ : ∃ R, R = rallR d n := ⟨_, rfl⟩
  rw [← hE, ← hR]
  obtain ⟨C, hC⟩ : ∃ C, C = cntN d n := ⟨_, rfl⟩
  have hc := cntN_eq (d := d) (n := n) hd2 hn1 hn2
  rw [← hC] at hc
  have hE2 : E = if C ≤ 4096 then 0 else 211 := by rw [hE, hC]; rfl
  have hR2 : R = if C ≤ 4096 then allL d n else [] := by rw [hR, hC]; rfl
  have hlit : C ≤ 4096 → d ^ n < 2147483648 := fun h => cnt_little hd2 hn1 hn2 (by rw [hc]; omega)
  have hCb : (nb C).length ≤ 1025 := by
    have h1 := cntN_le (d := d) (n := n) hd2 hn1 hn2
    rw [← hC] at h1
    have := nb_pow (z := C) (j := n) hd64 (by omega)
    omega
  have k1 := rcount_any d hd2 hd64 n w hn1 hn2
  rw [← hC] at k1
  have k2 : ∀ W, Calls Try.prog 58 #[.int .u64 4096] W (RetVal (.string (natS 4096)) W) := fun W => rnum_any 4096 W (by omega)
  have k3 : ∀ W, Calls Try.prog 68 #[.string (natS C), .string (natS 4096)] W fun e w' => e = .returned (.int .i64 (cmpI C 4096)) ∧ Dr W w' := fun W => rcmp02_any C 4096 W (by omega) (by have := nb_small (n := 4096) (k := 2) (by omega); omega)
  obtain ⟨s, hs⟩ : ∃ s, s = natS C := ⟨_, rfl⟩
  obtain ⟨t, ht⟩ : ∃ t, t = natS 4096 := ⟨_, rfl⟩
  rw [← hs] at k1 k3
  rw [← ht] at k2 k3
  replace k1 := Lib.hid k1
  replace k2 := Lib.hid k2
  replace k3 := Lib.hid k3
  have hnI : ¬ (n : Int) < 1 := by omega
  have hnI2 : ¬ (1024 : Int) < (n : Int) := by omega
  clear hE hR hC hs ht hCb hc
  by_cases hC4 : C ≤ 4096
  rotate_left
  · rw [if_neg hC4] at hE2 hR2
    subst hE2 hR2
    have hcm : Hid (cmpI C 4096 = 1) := Lib.hid (by unfold cmpI; rw [if_neg (by omega), if_pos (by omega)])
    clear hlit
    go_enter Try.func43, Try.ntmps43
    go_wp2_with fail
    refine k1.out.mono ?_
    rintro e w1 ⟨rfl, hb⟩
    have hB := Lib.hid hb
    clear hb
    go_wp2_with fail
    refine (k2.out _).mono ?_
    rintro e w2 ⟨rfl, hb⟩
    replace hB := Lib.hid (hB.out.trans (hb.mono hB.out.size))
    clear hb
    go_wp2_with fail
    refine (k3.out _).mono ?_
    rintro e w3 ⟨rfl, nd, rfl⟩
    rw [hcm.out]
    replace hB := Lib.hid (below_drewN hB.out nd)
    go_wp2_with fail
    go_ret2
    exact ⟨_, rfl, World.ownsRow_nil _ _ _ _, hB.out⟩
  rw [if_pos hC4] at hE2 hR2
  subst hE2
  replace hR2 := Lib.hid hR2
  obtain ⟨cm, hcme⟩ : ∃ cm, cm = cmpI C 4096 := ⟨_, rfl⟩
  have hcm0 : ¬ 0 < cm := by
    rw [hcme]
    unfold cmpI
    split
    · decide
    · split
      · omega
      · decide
  rw [← hcme] at k3
  obtain ⟨Y, hY⟩ : ∃ Y, Y = d ^ n := ⟨_, rfl⟩
  have hYs := hlit hC4
  rw [← hY] at hYs
  have hY2 : 2 ≤ Y := by
    rw [hY]
    have := Nat.pow_le_pow_right (show 0 < d by omega) hn1
    rw [Nat.pow_one] at this
    omega
  have hpw : Hid (∀ k, k ≤ n → d ^ k ≤ Y) := Lib.hid (fun k hk => by rw [hY]; exact Nat.pow_le_pow_right (by omega) hk)
  replace hY := Lib.hid hY
  obtain ⟨den, hden⟩ : ∃ den, den = Y - 1 := ⟨_, rfl⟩
  have hdi : (Y : Int) - 1 = (den : Int) := by omega
  have hds : den < 2147483648 := by omega
  have hd1 : 1 ≤ den := by omega
  have hrdE : Hid (∀ k, rd k (d ^ n - 1) = (k / Nat.gcd k den, den / Nat.gcd k den)) := Lib.hid (fun k => by rw [← hY.out, ← hden]; rfl)
  have hRl : Hid (R = allP d n den) := Lib.hid (by rw [hR2.out, hden, hY.out]; rfl)
  have wd : IntKind.u64.wrap (d : Int) = (d : Int) := by rw [IntKind.wrap_u64]; omega
  clear hlit hC4 hden hR2 hcme
  go_enter Try.func43, Try.ntmps43
  go_wp2_with fail
  refine k1.out.mono ?_
  rintro e w1 ⟨rfl, hb⟩
  have hB := Lib.hid hb
  clear hb
  go_wp2_with fail
  refine (k2.out _).mono ?_
  rintro e w2 ⟨rfl, hb⟩
  replace hB := Lib.hid (hB.out.trans (hb.mono hB.out.size))
  clear hb
  go_wp2_with fail
  refine (k3.out _).mono ?_
  rintro e w3 ⟨rfl, nd, rfl⟩
  replace hB := Lib.hid (below_drewN hB.out nd)
  obtain ⟨W, hW⟩ : ∃ W, W = w2.drewN nd := ⟨_, rfl⟩
  rw [← hW] at hB ⊢
  clear hW k1 k2 k3
  go_wp2_with fail
  go_loop [7, 8] (fun x i => ∃ k X : Nat, i = .int .i64 (k : Int) ∧ x = .int .u64 (X : Int) ∧ k ≤ n ∧ X = d ^ k) (fun _ i => n - (intOf i).toNat)
  case atStart => exact ⟨0, 1, rfl, rfl, Nat.zero_le _, by simp⟩
  case round =>
    obtain ⟨k, X, rfl, rfl, hk, hX⟩ := hrel
    have hXs : X ≤ Y := by rw [hX]; exact hpw.out k hk
    by_cases h0 : k < n
    · obtain ⟨Z, hZ⟩ : ∃ Z, Z = X * d := ⟨_, rfl⟩
      have hZi : (X : Int) * (d : Int) = (Z : Int) := by rw [hZ]; push_cast; rfl
      have hZ2 : Z = d ^ (k + 1) := by rw [hZ, hX, Nat.pow_succ]
      have hZs : Z ≤ Y := by rw [hZ2]; exact hpw.out _ h0
      have h0I : (k : Int) < (n : Int) := by omega
      replace hZ2 := Lib.hid hZ2
      clear hX hZ
      go_wp2_with fail
      go_round
      case rel => exact ⟨k + 1, Z, by go_num, by first | rfl | go_num, by omega, hZ2.out⟩
      case measure => simp [intOf]; omega
    · obtain rfl : k = n := by omega
      have h0I : ¬ (k : Int) < (k : Int) := by omega
      have hXY : X = Y := by rw [hX, hY.out]
      subst hXY
      clear hX h0 wd
      have wd : IntKind.u64.wrap (d : Int) = (d : Int) := by rw [IntKind.wrap_u64]; omega
      go_wp2_with fail
      go_loopw [9, 10] (fun v kk wr => ∃ j : Nat, kk = .int .u64 (j : Int) ∧ j ≤ den ∧ wr.ownsRow w.heap.size 34 2 v (allP d k j).length (angC (allP d k j)) ∧ Below w.heap.size w wr) (fun _ kk _ => den - (intOf kk).toNat)
      case atStart => exact ⟨0, rfl, Nat.zero_le _, World.ownsRow_nil _ _ _ _, hB.out⟩
      case round =>
        obtain ⟨j, rfl, hj, hown, hB⟩ := hrel
        replace hown := Lib.hid hown
        replace hB := Lib.hid hB
        by_cases hj0 : j < den
        · have hjI : (j : Int) < (den : Int) := by omega
          obtain ⟨N, hN⟩ : ∃ N, N = j / Nat.gcd j den := ⟨_, rfl⟩
          obtain ⟨D, hD⟩ : ∃ D, D = den / Nat.gcd j den := ⟨_, rfl⟩
          have hrd : rd j (d ^ k - 1) = (N, D) := by rw [hrdE.out, hN, hD]
          have hf := rd_facts hd1 hj0
          have hrd2 : rd j den = (N, D) := by rw [hN, hD]; rfl
          rw [hrd2] at hf
          obtain ⟨f1, f2, f3⟩ := hf
          simp only at f1 f2 f3
          obtain ⟨A, hA⟩ : ∃ A, A = (kindN D d).1 := ⟨_, rfl⟩
          obtain ⟨B, hBk⟩ : ∃ B, B = (kindN D d).2 := ⟨_, rfl⟩
          have hkk : Hid (kindN D d = (A, B)) := Lib.hid (by rw [hA, hBk])
          have hyes : B = k → allP d k (j + 1) = allP d k j ++ [(N, D)] := fun h => by rw [allP_yes (by rw [hrd, ← hBk]; exact h), hrd]
          have hno : B ≠ k → allP d k (j + 1) = allP d k j := fun h => allP_no (by rw [hrd, ← hBk]; exact h)
          have hlen := allP_len d k j
          have hmod : Hid (j = j % den) := Lib.hid (Nat.mod_eq_of_lt hj0).symm
          have b1 : Hid (j < 18446744073709551616) := Lib.hid (by omega)
          have b2 : Hid (den < 18446744073709551616) := Lib.hid (by omega)
          have b5 : Hid (0 < D) := Lib.hid (by omega)
          have b6 : Hid (D < 4294967296) := Lib.hid (by omega)
          replace hN := Lib.hid hN
          replace hD := Lib.hid hD
          replace hyes := Lib.hid hyes
          replace hno := Lib.hid hno
          clear hrd hrd2 f1 f2 f3 hA hBk
          obtain ⟨wo, rfl⟩ : ∃ wo : World, wo = wr := ⟨_, rfl⟩
          go_wp2_with fail
          refine (low_any j den j N D _ b1.out b2.out (by omega) hmod hN hD).mono ?_
          rintro e v1 ⟨rfl, hb⟩
          have hown1 := (own_below hown.out hb).alloc (.cells #[.int .u64 (N : Int), .int .u64 (D : Int)] 34)
          have hq := Blk.new v1 34 #[.int .u64 (N : Int), .int .u64 (D : Int)]
          have hB1 := hB.out.trans (hb.mono hB.out.size)
          replace hB1 := hB1.alloc hB1.size (.cells #[.int .u64 (N : Int), .int .u64 (D : Int)] 34)
          clear hb hown hB
          go_upto_region 17 with fail
          generalize hv2 : v1.alloc (.cells #[.int .u64 (N : Int), .int .u64 (D : Int)] 34) = v2 at hown1 hq hB1 ⊢
          generalize hg : v1.heap.size = g at *
          have d0 : v2.cell? ⟨g, 0, none⟩ = some (.int .u64 (N : Int)) := hq.cell 0
          have d1 : v2.cell? ⟨g, 1, none⟩ = some (.int .u64 (D : Int)) := hq.cell 1
          clear hv2 hg
          replace hown1 := Lib.hid hown1
          replace hq := Lib.hid hq
          replace hB1 := Lib.hid hB1
          go_wp2_with fail
          refine (rkind_any N D d A B _ b5.out b6.out hd2 hd64 hkk).mono ?_
          rintro e v3 ⟨rfl, hb⟩
          have hown2 := Lib.hid (own_below hown1.out hb)
          have hB2 := Lib.hid (hB1.out.trans (hb.mono hB1.out.size))
          replace hq := Lib.hid (Blk.below hq.out hb)
          clear hb d0 d1 hown1 hB1
          have d0 : v3.cell? ⟨g, 0, none⟩ = some (.int .u64 (N : Int)) := hq.out.cell 0
          have d1 : v3.cell? ⟨g, 1, none⟩ = some (.int .u64 (D : Int)) := hq.out.cell 1
          by_cases hBk : B = k
          · have hnx := hyes.out hBk
            have hl2 : Hid ((allP d k (j + 1)).length = (allP d k j).length + 1) := Lib.hid (by rw [hnx]; simp)
            have htk : Hid (angC (allP d k (j + 1)) = angC (allP d k j) ++ [.int .u64 (N : Int), .int .u64 (D : Int)]) := Lib.hid (by rw [hnx, angC_snoc])
            subst hBk
            clear hyes hno hnx
            go_wp2_with (at_builtin; refine wpList_append_own _ rfl _ _ 44 rfl w.heap.size 34 i0 (.agg #[.int .u64 0, .int .u64 0]) 2 16 Try.underlying44 hi hz0 hz1 hz2 rfl (by decide) _ _ _ rfl (hown2.out.alloc _) ⟨v3.heap.size, 0, none⟩ 1 1 [.int .u64 (N : Int), .int .u64 (D : Int)] rfl rfl ?d1 ?d2 ?d3 ?d4 ?d5 ?_)
            case d1 =>
              intro j u hj
              match j, hj with
              | 0, hj => simp at hj; subst hj; simp [Addr.add]
              | 1, hj => simp at hj; subst hj; simp [Addr.add]
            case d2 => intro u hu; simp at hu; rcases hu with rfl | rfl <;> rfl
            case d3 => unfold maxLen; omega
            case d4 => omega
            case d5 => have := hB2.out.size; simp; omega
            intro v' w3 hown' hgrow _
            have hB4 : Below w.heap.size w w3 := (hB2.out.alloc hB2.out.size _).grown hgrow (by have := hB2.out.size; simp; omega) (fun k hk => by have := (hown2.out.lt k hk).1; omega)
            rw [← htk.out, ← hl2.out] at hown'
            replace hown' := Lib.hid hown'
            replace hB4 := Lib.hid hB4
            clear hgrow hown2 hB2 htk hl2
            go_wp2_with fail
            go_roundw
            case rel => exact ⟨j + 1, by go_num, by omega, hown'.out, hB4.out⟩
            case measure => simp [intOf]; omega
          · have hnx := hno.out hBk
            have hown3 := hown2.out
            rw [← hnx] at hown3
            replace hown3 := Lib.hid hown3
            have hBI : ((B : Int) == (k : Int)) = false := by simp; omega
            clear hyes hno hnx hq hown2
            go_wp2_with fail
            go_roundw
            case rel => exact ⟨j + 1, by go_num, by omega, hown3.out, hB2.out⟩
            case measure => simp [intOf]; omega
        · obtain rfl : j = den := by omega
          have hjI : ¬ (j : Int) < (j : Int) := by omega
          have hown2 := hown.out
          rw [← hRl.out] at hown2
          replace hown2 := Lib.hid hown2
          clear hown
          go_wp2_with fail
          go_ret2
          exact ⟨_, rfl, hown2.out, hB.out⟩
end Go.Proofs.Ytciafmnideihjaa
