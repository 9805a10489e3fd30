/- filigreelaw22.ItinEnds: the walk. -/
import Derived.Test.YtbddlbhanpjdnaaDoorItS
import Derived.Test.YtbddlbhanpjdnaaDoorOrbQ
namespace Go.Proofs.YtbddlbhanpjdnaaDoor
open Go.RowKit Go.Sort

theorem adrF_pre (P Q : List Nat) (m : Nat) : ∀ f n acc, acc <+: (adrF P Q m f n acc).1
  | 0, _, acc => List.prefix_refl _
  | f + 1, n, acc => by
    unfold adrF
    split
    · exact List.prefix_refl _
    · split
      · exact List.prefix_refl _
      · exact (List.prefix_append _ _).trans (adrF_pre P Q m f (rhoN P Q n) (acc ++ [n]))
theorem adr_head {P Q : List Nat} {m : Nat} (hm : 1 ≤ m) : (adr P Q m).1[0]? = some 1 := by
  rw [adr_start hm]
  obtain ⟨t, ht⟩ := adrF_pre P Q m (m + 1 - 1) (rhoN P Q 1) [1]
  rw [← ht]
  rfl
theorem adrF_most (P Q : List Nat) (m : Nat) : ∀ f n acc, acc.length ≤ m → (adrF P Q m f n acc).1.length ≤ m
  | 0, _, acc, h => h
  | f + 1, n, acc, h => by
    unfold adrF
    split
    · exact h
    · split
      · exact h
      · rename_i h2
        exact adrF_most P Q m f (rhoN P Q n) (acc ++ [n]) (by rw [List.length_append]; simp only [List.length_cons, List.length_nil]; omega)
theorem kindV_ok {n1 : Bool} {a1 d1 : ByteArray} {d : Int} (h : okA n1 a1 d1 = true) (hr : roundB d = true) :
    kindV n1 a1 d1 d = .tuple #[.int .i64 ((kindN (be (sl d1)) d.toNat).1 : Int), .int .i64 ((kindN (be (sl d1)) d.toNat).2 : Int), .int .i64 0] := by
  rw [kindV, if_pos h, if_pos hr]
theorem ofE_zero {ob oa : Bool} {y : Nat} {d : Int} (h : ofE ob oa y d = 0) : ob = true ∧ oa = true ∧ 2 ≤ d ∧ d ≤ 64 ∧ orbN y d.toNat ≤ 4096 := by
  unfold ofE at h
  split at h
  · rename_i h0
    split at h
    · cases h
    · obtain ⟨h1, h2, h3, h4⟩ := mayE_ok h0
      exact ⟨h1, h2, h3, h4, by omega⟩
  · rename_i h0
    exact absurd h h0

set_option maxRecDepth 100000 in
set_option maxHeartbeats 4000000 in
/-- filigreelaw22.ItinEnds -/
theorem itinEnds_any (ng : Bool) (nu de : ByteArray) (d : Int) (w : World) (z1 : nu.size ≤ 9223372036854775807) (z2 : de.size ≤ 9223372036854775807) (_ : (Lit.int .i64 d).wf = true) :
    Calls Tryd.prog 4 #[.agg #[.bool ng, .string nu, .string de], .int .i64 d] w (RetVal (.bool true) w) := by
  obtain ⟨E, hE⟩ : ∃ E, E = ofE (okA ng nu de) (okA ng nu de) (be (sl de)) d := ⟨_, rfl⟩
  obtain ⟨P, hP⟩ : ∃ P, P = if E = 0 then ofP (be (sl nu)) (be (sl de)) (be (sl nu)) (be (sl de)) d.toNat else [] := ⟨_, rfl⟩
  obtain ⟨Q, hQ⟩ : ∃ Q, Q = if E = 0 then ofQ (be (sl nu)) (be (sl de)) (be (sl nu)) (be (sl de)) d.toNat else [] := ⟨_, rfl⟩
  have hK := fun W => iKnead_any ng nu de d W z1 z2 E hE P Q hP hQ
  have hKd := fun W => kindW_any ng nu de d W z1 z2
  have hBW : Below w.heap.size w (w.alloc (.cells #[.bool ng, .string nu, .string de] 25)) := (Below.refl _ w).alloc (Nat.le_refl _) _
  have ka := Lib.hid (Blk.new w 25 #[.bool ng, .string nu, .string de])
  replace hK := Lib.hid hK
  replace hKd := Lib.hid hKd
  replace hBW := Lib.hid hBW
  replace hE := Lib.hid hE
  replace hP := Lib.hid hP
  replace hQ := Lib.hid hQ
  clear z1 z2
  go_enter Tryd.func4, Tryd.ntmps4
  go_wp2_with fail
  refine (hK.out _).mono ?_
  rintro en w1 ⟨v1, v2, rfl, g1, g2, hb⟩
  obtain ⟨g1, A1, rfl⟩ := g1
  obtain ⟨g2, A2, rfl⟩ := g2
  have hB1 := hBW.out.trans (hb.mono hBW.out.size)
  have ka1 := Blk.below ka.out hb
  obtain ⟨m1, hm1⟩ : ∃ m, m = P.length := ⟨_, rfl⟩
  obtain ⟨m2, hm2⟩ : ∃ m, m = Q.length := ⟨_, rfl⟩
  have hr1 := g1.rd
  have hr2 := g2.rd
  rw [← hm1] at hr1 ⊢
  rw [← hm2] at hr2 ⊢
  replace hm1 := Lib.hid hm1
  replace hm2 := Lib.hid hm2
  have kb := Lib.hid (Blk.new w1 28 #[.slice A1 m1 m1, .slice A2 m2 m2])
  have hB2 := Lib.hid (hB1.alloc hB1.size (.cells #[.slice A1 m1 m1, .slice A2 m2 m2] 28))
  replace ka1 := Lib.hid (ka1.alloc (.cells #[.slice A1 m1 m1, .slice A2 m2 m2] 28))
  replace hr1 := Lib.hid (hr1.alloc (.cells #[.slice A1 m1 m1, .slice A2 m2 m2] 28))
  replace hr2 := Lib.hid (hr2.alloc (.cells #[.slice A1 m1 m1, .slice A2 m2 m2] 28))
  clear hb hBW ka hB1 g1 g2 hK
  go_upto_region 2 with fail
  generalize hW4 : w1.alloc (.cells #[.slice A1 m1 m1, .slice A2 m2 m2] 28) = w2 at kb hB2 ka1 hr1 hr2 ⊢
  have hgB : Hid (w.heap.size ≤ w1.heap.size) := Lib.hid (by
    have h1 := ka1.out.lt
    rw [← hW4] at h1
    simp at h1
    omega)
  generalize hg4 : w1.heap.size = gs at kb hgB ⊢
  clear hW4 hg4
  by_cases hE0 : E = 0
  case neg =>
    have hE1 : (E != 0) = true := by rw [bne_iff_ne]; exact hE0
    clear hP hQ hE hKd ka1 kb hr1 hr2 hm1 hm2
    go_wp2_with fail
    refine (lives_any _).mono ?_
    rintro en w5 ⟨rfl, hb⟩
    have hB5 := Lib.hid (hB2.out.trans (hb.mono hB2.out.size))
    clear hb
    go_wp2_with fail
    go_ret
    exact ⟨rfl, hB5.out⟩
  case pos =>
    subst hE0
    obtain ⟨hok, -, hd1, hd2, hN⟩ := ofE_zero hE.out.symm
    obtain ⟨-, -, -, hgc, hxy, hy9⟩ := okA_spec hok
    obtain ⟨dn, rfl⟩ : ∃ dn : Nat, d = (dn : Int) := ⟨d.toNat, by omega⟩
    have hkv := kindV_ok hok (roundB_iff.2 ⟨hd1, hd2⟩)
    have hPe := hP.out
    have hQe := hQ.out
    rw [if_pos rfl] at hPe hQe
    rw [Int.toNat_natCast] at hkv hN hPe hQe
    obtain ⟨x, hx⟩ : ∃ x, x = be (sl nu) := ⟨_, rfl⟩
    obtain ⟨y, hy⟩ : ∃ y, y = be (sl de) := ⟨_, rfl⟩
    rw [← hx, ← hy] at hPe hQe hxy hgc
    rw [← hy] at hkv hN
    have hy0 : 0 < y := by omega
    obtain ⟨p, hp⟩ : ∃ p, p = (kindN y dn).1 := ⟨_, rfl⟩
    obtain ⟨k, hk⟩ : ∃ k, k = (kindN y dn).2 := ⟨_, rfl⟩
    have hk1 : 1 ≤ k := by rw [hk]; exact kindN_pos hy0
    have hN2 : p + k ≤ 4096 := by rw [hp, hk]; exact hN
    have hmay : mayI P Q = true := by rw [hPe, hQe]; exact of_may (by omega) (by omega) hy0 hN
    have hstar : Hid (∀ i, rowAt P Q i = 255 ↔ p = 0 ∧ (i + 1) % k = 0) := Lib.hid (fun i => by
      rw [hPe, hQe, of_at (by omega) hy0, knead_star (by omega) (by omega) hy0 hgc hxy, ← hp, ← hk])
    have hper : Hid (p = 0 → ∀ i, rowAt P Q (i + k) = rowAt P Q i) := Lib.hid (fun h0 i => by
      rw [hPe, hQe, of_at (by omega) hy0, of_at (by omega) hy0]
      unfold symF
      have h1 := orbM_round (x := x) (r := i) (by omega) hy0 hp hk 1
      rw [h0, Nat.zero_add, Nat.mul_one] at h1
      rw [h1])
    rw [← hp, ← hk] at hkv
    obtain ⟨q1, q2, q3, q4⟩ := mayI_spec hmay
    have hs9 : ∀ v, symB v = true → v < 256 := fun v h => by simp [symB] at h; omega
    have hI : Hid (∀ W, Below w2.heap.size w2 W → Itn W (.slice A1 m1 m1) (.slice A2 m2 m2) P Q) := Lib.hid (fun W hb =>
      ⟨⟨A1, m1, m1, _, rfl, hr1.out.below hb⟩, ⟨A2, m2, m2, _, rfl, hr2.out.below hb⟩, fun v hv => hs9 v (q3 v hv), fun v hv => hs9 v (q4 v hv), by omega, by omega⟩)
    have hat : Hid (∀ i : Nat, atV P Q (i : Int) = .tuple #[.int .u8 ((rowAt P Q i : Nat) : Int), .int .i64 0]) := Lib.hid (fun i => by
      have e : atE P Q (i : Int) = 0 := by unfold atE; rw [hmay]; simp
      rw [atV, e, if_pos rfl, Int.toNat_natCast])
    replace hkv := Lib.hid hkv
    replace hmay := Lib.hid hmay
    have a0 : w2.cell? ⟨w.heap.size, 0, none⟩ = some (.bool ng) := ka1.out.cell 0
    have a1 : w2.cell? ⟨w.heap.size, 1, none⟩ = some (.string nu) := ka1.out.cell 1
    have a2 : w2.cell? ⟨w.heap.size, 2, none⟩ = some (.string de) := ka1.out.cell 2
    clear hok hd1 hd2 hN hgc hxy hy9 hPe hQe hx hy hy0 hp hk hP hQ hE q2 q3 q4 hs9
    go_wp2_with fail
    refine (hKd.out _).mono ?_
    rintro en w3 ⟨rfl, hb⟩
    rw [hkv.out]
    have hB3 := hB2.out.trans (hb.mono hB2.out.size)
    have hU3 := hb
    have kb3 := Blk.below kb.out hb
    have hmul : IntKind.i64.wrap (2 * (k : Int)) = 2 * (k : Int) := by rw [IntKind.wrap_i64]; omega
    clear hb a0 a1 a2 hKd ka1
    go_wp2_with fail
    go_loopw [10, 11, 12] (fun iv _ _ wr => ∃ i : Nat, iv = .int .i64 (i : Int) ∧ i ≤ 600 ∧ Below w2.heap.size w2 wr ∧ Blk wr gs 28 #[.slice A1 m1 m1, .slice A2 m2 m2] ∧ Below w.heap.size w wr) (fun iv _ _ _ => 600 - (intOf iv).toNat)
    case atStart => exact ⟨0, rfl, Nat.zero_le _, hU3, kb3, hB3⟩
    case round =>
      clear hU3 kb3 hB3
      obtain ⟨i, rfl, hi, hU, kb, hB⟩ := hrel
      have a0 : wr.cell? ⟨gs, 0, none⟩ = some (.slice A1 m1 m1) := kb.cell 0
      have a1 : wr.cell? ⟨gs, 1, none⟩ = some (.slice A2 m2 m2) := kb.cell 1
      replace kb := Lib.hid kb
      replace hU := Lib.hid hU
      replace hB := Lib.hid hB
      by_cases hlo : i < p + 2 * k ∧ i < 600
      · have hl1 : (i : Int) < (p : Int) + 2 * (k : Int) := by omega
        have hl2 : (i : Int) < 600 := by omega
        go_wp2_with fail
        refine (iAt_any _ _ P Q (i : Int) _ (hI.out _ hU.out) (by omega)).mono ?_
        rintro en w4 ⟨rfl, hb⟩
        rw [hat.out i]
        have hst := hstar.out i
        obtain ⟨v, hv⟩ : ∃ v, v = rowAt P Q i := ⟨_, rfl⟩
        rw [← hv] at hst ⊢
        have hr := Lib.hid (⟨hU.out.trans (hb.mono hU.out.size), Blk.below kb.out hb, hB.out.trans (hb.mono hB.out.size)⟩ : Below w2.heap.size w2 w4 ∧ Blk w4 gs 28 #[.slice A1 m1 m1, .slice A2 m2 m2] ∧ Below w.heap.size w w4)
        replace hv := Lib.hid hv
        clear hb a0 a1 kb hU hB
        by_cases hp0 : p = 0
        · have htm : ((i : Int) + 1).tmod (k : Int) = (((i + 1) % k : Nat) : Int) := by
            rw [← tmod_nat]; push_cast; rfl
          obtain ⟨j, hj⟩ : ∃ j, j = (i + 1) % k := ⟨_, rfl⟩
          rw [← hj] at hst htm
          have hk0 : ¬ (k : Int) = 0 := by omega
          have hp0I : ((p : Int) == 0) = true := by rw [beq_iff_eq]; omega
          by_cases hj0 : j = 0
          · have hve : ((v : Int) == 255) = true := by rw [beq_iff_eq]; have := hst.2 ⟨hp0, hj0⟩; omega
            have hje : ((j : Int) == 0) = true := by rw [beq_iff_eq]; omega
            replace hj := Lib.hid hj
            clear hst hj0 hp0
            go_wp2_with fail
            go_roundw
            case rel => exact ⟨i + 1, by go_num, by omega, hr.out⟩
            case measure => simp [intOf]; omega
          · have hve : ((v : Int) == 255) = false := by rw [beq_eq_false_iff_ne]; intro e; exact hj0 (hst.1 (by omega)).2
            have hje : ((j : Int) == 0) = false := by rw [beq_eq_false_iff_ne]; omega
            replace hj := Lib.hid hj
            clear hst hj0 hp0
            go_wp2_with fail
            go_roundw
            case rel => exact ⟨i + 1, by go_num, by omega, hr.out⟩
            case measure => simp [intOf]; omega
        · have hp0I : ((p : Int) == 0) = false := by rw [beq_eq_false_iff_ne]; omega
          have hve : ((v : Int) == 255) = false := by rw [beq_eq_false_iff_ne]; intro e; exact hp0 (hst.1 (by omega)).1
          clear hst hp0
          go_wp2_with fail
          go_roundw
          case rel => exact ⟨i + 1, by go_num, by omega, hr.out⟩
          case measure => simp [intOf]; omega
      · obtain ⟨⟨l, al⟩, hl⟩ : ∃ x : List Nat × Bool, adrR P Q 4096 = x := ⟨_, rfl⟩
        have hre : rhoE P Q 4096 = 0 := by unfold rhoE; rw [hmay.out]; rfl
        have hadr : adr P Q 4096 = (l, al) := by rw [adrR, if_pos hre] at hl; exact hl
        have hAd := fun W h => iAddress_any (.slice A1 m1 m1) (.slice A2 m2 m2) P Q 4096 W h 0 hre.symm l al hl
        have hl0 : l[0]? = some 1 := by
          have := adr_head (P := P) (Q := Q) (m := 4096) (by omega)
          rw [hadr] at this
          exact this
        have hlr : l.Pairwise (· < ·) := by
          have := adr_rise (P := P) (Q := Q) q1 4096
          rw [hadr] at this
          exact this
        have hlm : l.length ≤ 4096 := by
          have := adrF_most P Q 4096 (4096 + 1) 1 [] (by simp)
          rw [show adrF P Q 4096 (4096 + 1) 1 [] = adr P Q 4096 from rfl, hadr] at this
          exact this
        have hend : Hid (p = 0 → 1 < k → al = true ∧ l[l.length - 1]? = some k) := Lib.hid (fun h0 h1 => by
          obtain ⟨pre, he⟩ := adr_star (P := P) (Q := Q) q1 (n := k) hk1 (by omega) (fun i => by rw [hstar.out i]; simp [h0]) (hper.out h0)
          rw [hadr] at he
          obtain ⟨rfl, rfl⟩ := Prod.mk.inj he
          refine ⟨rfl, ?_⟩
          rw [List.length_append]
          simp)
        have hgo : Hid (∀ j x y : Nat, l[j]? = some x → l[j + 1]? = some y → x < y) := Lib.hid (fun j x y h1 h2 => by
          obtain ⟨b1, e1⟩ := List.getElem?_eq_some_iff.1 h1
          obtain ⟨b2, e2⟩ := List.getElem?_eq_some_iff.1 h2
          have := List.pairwise_iff_getElem.1 hlr j (j + 1) b1 b2 (by omega)
          omega)
        replace hl0 := Lib.hid hl0
        replace hAd := Lib.hid hAd
        have hIr := Lib.hid (hI.out _ hU.out)
        clear hl hre hadr hlr hstar hper hat hmay hU kb
        have hcase : ((i : Int) < (p : Int) + 2 * (k : Int) ∧ ¬ (i : Int) < 600) ∨ ¬ (i : Int) < (p : Int) + 2 * (k : Int) := by omega
        clear hlo
        rcases hcase with ⟨hl1I, hl2I⟩ | hl1I
        all_goals
          go_wp2_with fail
          refine (hAd.out _ hIr.out).mono ?_
          rintro en w5 ⟨va, rfl, oa, hb⟩
          have hB5 := Lib.hid (hB.out.trans (hb.mono hB.out.size))
          obtain ⟨L, hL⟩ : ∃ L, L = l.length := ⟨_, rfl⟩
          rw [← hL] at oa hlm hend
          have hL1 : 1 ≤ L := by rw [hL]; exact lt_of_getElem? hl0.out
          obtain ⟨ga, ca, rfl⟩ : ∃ g c, va = .slice (some ⟨g, 0, none⟩) L c := by
            rcases own_forms oa with ⟨e, e2⟩ | ⟨g, c, e⟩
            · omega
            · exact ⟨_, _, e⟩
          obtain ⟨g', off, e, -, hca⟩ := (rd_cells (own_rdn oa)).2.2.2 (fun e => by have := hl0.out; rw [e] at this; cases this)
          injection e with e
          injection e with e1 e2
          subst e1 e2
          have hca2 : ∀ j v : Nat, l[j]? = some v → w5.cell? ⟨ga, j, none⟩ = some (.int .i64 (v : Int)) := fun j v h => by have := hca j v h; rwa [Nat.zero_add] at this
          have d0 : w5.cell? ⟨ga, 0, none⟩ = some (.int .i64 1) := hca2 0 1 hl0.out
          replace hca2 := Lib.hid hca2
          replace hL := Lib.hid hL
          clear hb hB hIr hAd oa hca a0 a1
          have hLI : ¬ (L : Int) = 0 := by omega
          have hLz : ((L : Int) == 0) = false := by rw [beq_eq_false_iff_ne]; omega
          have hLp : (0 : Int) < (L : Int) := by omega
          go_wp2_with fail
          go_loopw [16] (fun iv wq => ∃ (m nd : Nat), iv = .int .i64 ((m + 1 : Nat) : Int) ∧ m + 1 ≤ L ∧ wq = w5.drewN nd) (fun iv _ => L - (intOf iv).toNat)
          case atStart => exact ⟨0, 0, rfl, hL1, rfl⟩
          case round =>
            obtain ⟨m, nd, rfl, hm, rfl⟩ := hrel
            obtain ⟨q, hq⟩ : ∃ q, q = m + 1 := ⟨_, rfl⟩
            rw [← hq] at hm ⊢
            replace hq := Lib.hid hq
            by_cases h1 : q < L
            · have h1I : (q : Int) < (L : Int) := by omega
              obtain ⟨v, hv⟩ : ∃ v, l[m]? = some v := ⟨_, List.getElem?_eq_getElem (by have := hq.out; rw [← hL.out]; omega)⟩
              obtain ⟨u, hu⟩ : ∃ u, l[q]? = some u := ⟨_, List.getElem?_eq_getElem (by rw [← hL.out]; omega)⟩
              have hvu := hgo.out m v u hv (by rw [← hq.out]; exact hu)
              have hvuI : ¬ (u : Int) ≤ (v : Int) := by omega
              have c0 : w5.cell? ⟨ga, m, none⟩ = some (.int .i64 (v : Int)) := hca2.out m v hv
              have c1 : w5.cell? ⟨ga, q, none⟩ = some (.int .i64 (u : Int)) := hca2.out q u hu
              have hw1 : IntKind.i64.wrap ((q : Int) - 1) = (m : Int) := by have := hq.out; rw [IntKind.wrap_i64]; omega
              have hw2 : (q : Int) - 1 = (m : Int) := by have := hq.out; omega
              have hm1I : (m : Int) < (L : Int) := by have := hq.out; omega
              replace hv := Lib.hid hv
              replace hu := Lib.hid hu
              clear d0 hvu
              go_wp2_with fail
              go_quiet (fail)
              go_wp2_with fail
              go_roundw
              case rel => exact ⟨q, nd + nq, by go_num, by omega, by first | rfl | rw [World.drewN_drewN]⟩
              case measure => simp [intOf]; omega
            · obtain rfl : q = L := by omega
              have h1I : ¬ (q : Int) < (q : Int) := by omega
              have hB9 := Lib.hid (below_drewN hB5.out nd)
              by_cases hf : p = 0 ∧ 1 < k
              · obtain ⟨rfl, hk2⟩ := hf
                obtain ⟨rfl, hlast⟩ := hend.out rfl hk2
                have hk2I : (1 : Int) < (k : Int) := by omega
                have hk3I : (k : Int) ≤ 4096 := by omega
                have c0 : w5.cell? ⟨ga, m, none⟩ = some (.int .i64 (k : Int)) := hca2.out m k (by rw [show m = q - 1 by have := hq.out; omega]; exact hlast)
                have hw2 : (q : Int) - 1 = (m : Int) := by have := hq.out; omega
                have hm1I : (m : Int) < (q : Int) := by have := hq.out; omega
                have hkk : ((k : Int) == (k : Int)) = true := beq_self_eq_true _
                clear hlast hend d0
                go_wp2_with fail
                refine (lives_any _).mono ?_
                rintro en w9 ⟨rfl, hb⟩
                have hB10 := Lib.hid (hB9.out.trans (hb.mono hB9.out.size))
                clear hb
                go_wp2_with fail
                go_ret
                exact ⟨rfl, hB10.out⟩
              · clear d0
                by_cases hp0 : p = 0
                · subst hp0
                  have hk2I : ¬ (1 : Int) < (k : Int) := by omega
                  go_wp2_with fail
                  refine (lives_any _).mono ?_
                  rintro en w9 ⟨rfl, hb⟩
                  have hB10 := Lib.hid (hB9.out.trans (hb.mono hB9.out.size))
                  clear hb
                  go_wp2_with fail
                  go_ret
                  exact ⟨rfl, hB10.out⟩
                · have hp0I : ((p : Int) == 0) = false := by rw [beq_eq_false_iff_ne]; omega
                  go_wp2_with fail
                  refine (lives_any _).mono ?_
                  rintro en w9 ⟨rfl, hb⟩
                  have hB10 := Lib.hid (hB9.out.trans (hb.mono hB9.out.size))
                  clear hb
                  go_wp2_with fail
                  go_ret
                  exact ⟨rfl, hB10.out⟩
end Go.Proofs.YtbddlbhanpjdnaaDoor
