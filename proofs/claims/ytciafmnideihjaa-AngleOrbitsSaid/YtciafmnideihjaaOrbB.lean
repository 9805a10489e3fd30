/- Package filigreeref21: Orbit. -/
import Derived.Test.YtciafmnideihjaaOrbP
import Derived.Test.YtciafmnideihjaaR02C
namespace Go.Proofs.Ytciafmnideihjaa
open Go.RowKit Go.Sort

/-- What the document's orbit is, of at most so many. -/
def RetOrb (n : Nat) (b : Bool) (x y d : Nat) (w : World) (e : Ending) (w' : World) : Prop :=
  ∃ v, e = .returned (.tuple #[v, .bool b]) ∧ w'.ownsRow w.heap.size 34 2 v n (angC (orbL x y d n)) ∧ Below w.heap.size w w'

set_option maxRecDepth 100000 in
set_option maxHeartbeats 4000000 in
/-- filigreeref21.Orbit -/
theorem rorbit_any (x y dn most : Nat) (w : World) (k1 : x < y) (l : y ≤ 2147483647) (hgc : Nat.gcd x y = 1) (hd : 2 ≤ dn) (hd2 : dn ≤ 64) (hm : most ≤ 100000) :
    Calls Try.prog 23 #[.agg #[.int .u64 (x : Int), .int .u64 (y : Int)], .int .i64 (dn : Int), .int .i64 (most : Int)] w (RetOrb (min most (orbN y dn)) (decide (orbN y dn < most)) x y dn w) := by
  obtain ⟨i0, hi, hz0, hz1, hz2⟩ := info_parts info_angle
  have y0 : 0 < y := by omega
  obtain ⟨t, ht⟩ : ∃ t, t = orbN y dn := ⟨_, rfl⟩
  have ht1 : 1 ≤ t := by rw [ht]; exact orbN_pos y0
  have hback : ∃ p, p < t ∧ orbM x y dn t = orbM x y dn p := ⟨(kindN y dn).1, by have := kindN_pos (d := dn) y0; rw [ht]; unfold orbN; omega, by rw [ht]; exact orbM_back (by omega) y0⟩
  have hnew : ∀ i j, i < j → j < t → orbM x y dn i ≠ orbM x y dn j := fun i j h1 h2 => orbM_new (by omega) y0 hgc h1 (by rw [← ht]; exact h2)
  rw [← ht]
  have hstart : Hid ((x, y) = orbM x y dn 0) := Lib.hid (orbM_zero hgc k1).symm
  have hBW : Below w.heap.size w (w.alloc (.cells #[.int .u64 (x : Int), .int .u64 (y : Int)] 34)) := (Below.refl _ w).alloc (Nat.le_refl _) _
  have kp := Blk.new w 34 #[.int .u64 (x : Int), .int .u64 (y : Int)]
  obtain ⟨gp, hgp⟩ : ∃ g, g = w.heap.size := ⟨_, rfl⟩
  rw [← hgp] at kp
  have hgs : w.heap.size ≤ gp := by omega
  replace kp := Lib.hid kp
  replace hBW := Lib.hid hBW
  replace hgp := Lib.hid hgp
  replace hback := Lib.hid hback
  replace hnew := Lib.hid hnew
  clear hgc ht
  go_enter Try.func23, Try.ntmps23
  go_wp2_with fail
  rw [← hgp.out]
  go_loopw [6, 8] (fun v _ wr => ∃ (n N D : Nat), n ≤ most ∧ n ≤ t ∧ (N, D) = orbM x y dn n ∧ wr.ownsRow (gp + 1) 34 2 v n (angC (orbL x y dn n)) ∧ Blk wr gp 34 #[.int .u64 (N : Int), .int .u64 (D : Int)] ∧ Below w.heap.size w wr) (fun v _ _ => most - lenV v)
  case atStart => exact ⟨0, x, y, Nat.zero_le _, Nat.zero_le _, hstart.out, World.ownsRow_nil _ _ _ _, kp.out, hBW.out⟩
  case round =>
    obtain ⟨n, N, D, hn1, hn2, hND, hown, hp, hB⟩ := hrel
    obtain ⟨cc, hvl⟩ : ∃ (A : Option Addr × Nat), u6 = .slice A.1 n A.2 := by
      rcases own_forms hown with ⟨rfl, h⟩ | ⟨g, cap, rfl⟩
      · subst h; exact ⟨(none, 0), rfl⟩
      · exact ⟨(some ⟨g, 0, none⟩, cap), rfl⟩
    obtain ⟨A0, cap⟩ := cc
    simp only at hvl
    subst hvl
    have hND' := Lib.hid hND
    have hf := orbM_facts (x := x) (d := dn) (n := n) y0
    rw [← hND] at hf
    obtain ⟨f1, f2, f3⟩ := hf
    simp only at f1 f2 f3
    replace hown := Lib.hid hown
    replace hp := Lib.hid hp
    replace hB := Lib.hid hB
    clear hND f1
    by_cases h0 : n < most
    · have h0I : (n : Int) < (most : Int) := by omega
      go_wp2_with fail
      go_loopw [6, 8] (fun lv iv wq => lv = .slice A0 n cap ∧ ∃ i : Nat, iv = .int .i64 (i : Int) ∧ i ≤ n ∧ (∀ j, j < i → orbM x y dn j ≠ (N, D)) ∧ Dr wr wq) (fun _ iv _ => n - (intOf iv).toNat)
      case atStart => exact ⟨rfl, 0, rfl, Nat.zero_le _, fun j hj => by omega, Dr.refl _⟩
      case round =>
        obtain ⟨rfl, i, rfl, hi2, hno, nd, rfl⟩ := hrel
        replace hno := Lib.hid hno
        by_cases hin : i < n
        · have hinI : (i : Int) < (n : Int) := by omega
          rcases own_forms hown.out with ⟨-, h⟩ | ⟨g, capg, eg⟩
          · omega
          injection eg with eg1 em eg2
          subst eg1 eg2
          clear em
          obtain ⟨s0, s1⟩ := angC_get _ i _ (orbL_get (x := x) (y := y) (d := dn) hin)
          obtain ⟨N1, hN1⟩ : ∃ a, a = (orbM x y dn i).1 := ⟨_, rfl⟩
          obtain ⟨D1, hD1⟩ : ∃ a, a = (orbM x y dn i).2 := ⟨_, rfl⟩
          rw [← hN1] at s0
          rw [← hD1] at s1
          have c0 : wr.cell? ⟨g, i * 2, none⟩ = some (.int .u64 (N1 : Int)) := by rw [hown.out.cellAt _ (by omega)]; exact s0
          have c1 : wr.cell? ⟨g, i * 2 + 1, none⟩ = some (.int .u64 (D1 : Int)) := by rw [hown.out.cellAt _ (by omega)]; exact s1
          have p0 : wr.cell? ⟨gp, 0, none⟩ = some (.int .u64 (N : Int)) := hp.out.cell 0
          have p1 : wr.cell? ⟨gp, 1, none⟩ = some (.int .u64 (D : Int)) := hp.out.cell 1
          have hiI : (0 : Int) ≤ (i : Int) := by omega
          clear s0 s1
          by_cases heq : N1 = N ∧ D1 = D
          · obtain ⟨rfl, rfl⟩ := heq
            have hnt : n = t := by
              rcases Nat.lt_or_ge n t with h | h
              · exact absurd (by rw [← hND'.out, hN1, hD1]) (hnew.out i n hin h)
              · omega
            have hres : Hid (min most t = n ∧ decide (t < most) = true) := Lib.hid ⟨by omega, decide_eq_true (by omega)⟩
            clear hN1 hD1 hnt
            go_wp2_with fail
            go_quiet (fail)
            go_wp2_with fail
            go_ret2
            exact ⟨_, by rw [hres.out.2]; rfl, by rw [hres.out.1]; exact own_le (own_drewN (own_drewN hown.out nd) nq) (by omega), below_drewN (below_drewN hB.out nd) nq⟩
          · have hno2 : Hid (∀ j, j < i + 1 → orbM x y dn j ≠ (N, D)) := Lib.hid (fun j hj => by
              by_cases e : j = i
              · subst e
                intro he
                exact heq ⟨by rw [hN1, he], by rw [hD1, he]⟩
              · exact hno.out j (by omega))
            have hcs : N1 ≠ N ∨ (N1 = N ∧ D1 ≠ D) := by
              by_cases e : N1 = N
              · exact .inr ⟨e, fun e2 => heq ⟨e, e2⟩⟩
              · exact .inl e
            clear hN1 hD1 heq hno
            rcases hcs with hc | ⟨rfl, hc⟩
            · have hcI : ¬ (N1 : Int) = (N : Int) := by omega
              go_wp2_with fail
              go_quiet (fail)
              go_wp2_with fail
              go_roundw
              case rel => exact ⟨rfl, i + 1, by go_num, by omega, hno2.out, ⟨nd + nq, rfl⟩⟩
              case measure => simp [intOf]; omega
            · have hcI : ¬ (D1 : Int) = (D : Int) := by omega
              go_wp2_with fail
              go_quiet (fail)
              go_wp2_with fail
              go_roundw
              case rel => exact ⟨rfl, i + 1, by go_num, by omega, hno2.out, ⟨nd + nq, rfl⟩⟩
              case measure => simp [intOf]; omega
        · obtain rfl : i = n := by omega
          have hinI : ¬ (i : Int) < (i : Int) := by omega
          have hnt : i < t := by
            rcases Nat.lt_or_ge i t with h | h
            · exact h
            · exfalso
              have e : i = t := by omega
              obtain ⟨p, hp1, hp2⟩ := hback.out
              have h3 := hno.out p (by omega)
              rw [← hp2, ← e, ← hND'.out] at h3
              exact h3 rfl
          obtain ⟨T, hT⟩ : ∃ T, T = turnX N D dn 1 := ⟨_, rfl⟩
          obtain ⟨N2, hN2⟩ : ∃ a, a = T / Nat.gcd T D := ⟨_, rfl⟩
          obtain ⟨D2, hD2⟩ : ∃ a, a = D / Nat.gcd T D := ⟨_, rfl⟩
          have hTe : Hid (T = N * dn % D) := Lib.hid (by rw [hT, turnX_eq, Nat.pow_one])
          have hnext : Hid ((N2, D2) = orbM x y dn (i + 1)) := Lib.hid (by
            rw [← orbM_next y0 hND'.out, hN2, hD2, hT]; rfl)
          have hdg : Hid (angC (orbL x y dn (i + 1)) = angC (orbL x y dn i) ++ [.int .u64 (N : Int), .int .u64 (D : Int)]) := Lib.hid (by
            rw [orbL_succ, angC_snoc, ← hND'.out])
          have b1 : Hid (N ≤ 2147483647) := Lib.hid (by omega)
          have b2 : Hid (D ≤ 2147483647) := Lib.hid (by omega)
          have b3 : Hid (0 < D) := Lib.hid (by omega)
          replace hN2 := Lib.hid hN2
          replace hD2 := Lib.hid hD2
          obtain ⟨wo, hwo⟩ : ∃ wo : World, wo = wr.drewN nd := ⟨_, rfl⟩
          have hown0 := Lib.hid (show wo.ownsRow (gp + 1) 34 2 (.slice A0 i cap) i (angC (orbL x y dn i)) by rw [hwo]; exact own_drewN hown.out nd)
          have hp0 := Lib.hid (show Blk wo gp 34 #[.int .u64 (N : Int), .int .u64 (D : Int)] by rw [hwo]; exact Blk.drewN hp.out nd)
          have hB0 := Lib.hid (show Below w.heap.size w wo by rw [hwo]; exact below_drewN hB.out nd)
          rw [← hwo]
          have c0 : wo.cell? ⟨gp, 0, none⟩ = some (.int .u64 (N : Int)) := hp0.out.cell 0
          have c1 : wo.cell? ⟨gp, 1, none⟩ = some (.int .u64 (D : Int)) := hp0.out.cell 1
          clear hwo hown hp hB hT hno hND'
          go_wp2_with (at_builtin; refine wpList_append_own _ rfl _ _ 44 rfl (gp + 1) 34 i0 (.agg #[.int .u64 0, .int .u64 0]) 2 16 Try.underlying44 hi hz0 hz1 hz2 rfl (by decide) _ _ _ rfl (hown0.out.alloc _) ⟨wo.heap.size, 0, none⟩ 1 1 [.int .u64 (N : Int), .int .u64 (D : Int)] rfl rfl ?d1 ?d2 ?d3 ?d4 ?d5 ?_)
          case d2 => exact ⟨rfl, rfl⟩
          case d3 => unfold maxLen; omega
          case d4 => omega
          case d5 => have := hp0.out.lt; simp; omega
          intro v' w3 hown' hgrow _
          have hB3 : Below w.heap.size w w3 := (hB0.out.alloc hB0.out.size _).grown hgrow (by have := hB0.out.size; simp; omega) (fun k hk => by have := (hown0.out.lt k hk).1; omega)
          have hp3 : Blk w3 gp 34 #[.int .u64 (N : Int), .int .u64 (D : Int)] := Blk.grown (hp0.out.alloc _) hgrow (fun e => by have := (hown0.out.lt _ e.symm).1; omega)
          rw [← hdg.out] at hown'
          have e0 : w3.cell? ⟨gp, 0, none⟩ = some (.int .u64 (N : Int)) := hp3.cell 0
          have e1 : w3.cell? ⟨gp, 1, none⟩ = some (.int .u64 (D : Int)) := hp3.cell 1
          replace hown' := Lib.hid hown'
          replace hp3 := Lib.hid hp3
          replace hB3 := Lib.hid hB3
          clear hgrow hown0 hp0 hB0 c0 c1 hdg
          go_wp2_with fail
          refine (rturn_any N D dn T N2 D2 _ b1.out b3.out b2.out (by omega) hTe hN2 hD2).mono ?_
          rintro e w4 ⟨rfl, hb⟩
          have hown4 := own_below hown'.out hb
          have hp4 := Blk.below hp3.out hb
          have hB4 := hB3.out.trans (hb.mono hB3.out.size)
          have f0 := hp4.frozen 0
          have f1 := hp4.frozen 1
          have e0 : w4.cell? ⟨gp, 0, none⟩ = some (.int .u64 (N : Int)) := hp4.cell 0
          have e1 : w4.cell? ⟨gp, 1, none⟩ = some (.int .u64 (D : Int)) := hp4.cell 1
          have hp5 : Blk ((w4.setCell ⟨gp, 0, none⟩ (.int .u64 (N2 : Int))).setCell ⟨gp, 1, none⟩ (.int .u64 (D2 : Int))) gp 34 #[.int .u64 (N2 : Int), .int .u64 (D2 : Int)] := (hp4.set_ 0 _).set_ 1 _
          have hown5 : ((w4.setCell ⟨gp, 0, none⟩ (.int .u64 (N2 : Int))).setCell ⟨gp, 1, none⟩ (.int .u64 (D2 : Int))).ownsRow (gp + 1) 34 2 v' (i + 1) (angC (orbL x y dn (i + 1))) := ownsRow_setCell_below (ownsRow_setCell_below hown4 (by simp) _) (by simp) _
          have hB5 : Below w.heap.size w ((w4.setCell ⟨gp, 0, none⟩ (.int .u64 (N2 : Int))).setCell ⟨gp, 1, none⟩ (.int .u64 (D2 : Int))) := (hB4.setCell (p := ⟨gp, 0, none⟩) hgs _).setCell (p := ⟨gp, 1, none⟩) hgs _
          have hms : lenV v' = i + 1 := by
            rcases own_forms hown'.out with ⟨-, h⟩ | ⟨g, capg, rfl⟩
            · omega
            · rfl
          replace hms := Lib.hid hms
          replace hown5 := Lib.hid hown5
          replace hp5 := Lib.hid hp5
          replace hB5 := Lib.hid hB5
          clear hb hown' hp3 hB3 hown4 hp4 hB4
          go_wp2_with fail
          go_roundw
          case rel => exact ⟨i + 1, N2, D2, by omega, by omega, hnext.out, hown5.out, hp5.out, hB5.out⟩
          case measure => rw [hms.out]; simp [lenV]; omega
    · obtain rfl : n = most := by omega
      have h0I : ¬ (n : Int) < (n : Int) := by omega
      have hres : Hid (min n t = n ∧ decide (t < n) = false) := Lib.hid ⟨by omega, decide_eq_false (by omega)⟩
      clear hp
      go_wp2_with fail
      go_ret2
      exact ⟨_, by first | rfl | (rw [hres.out.2]; rfl), by first | exact own_le hown.out (by omega) | (rw [hres.out.1]; exact own_le hown.out (by omega)), hB.out⟩
end Go.Proofs.Ytciafmnideihjaa
