import Derived.Test.YtoaggmegmgdgbaaGreatGapW
import Derived.Test.YtoaggmegmgdgbaaGreatLamL
namespace Go.Proofs.YtoaggmegmgdgbaaGreat
open Go.RowKit Go.Sort Go.Maps
theorem makeV_01 : makeV 0 1 = .tuple #[.agg #[.bool false, .string (natS 0), .string (natS 1)], .int .i64 0] := by kernel_rfl
theorem frV_11 : frV (1 : Int) 1 = .agg #[.bool false, .string (natS 1), .string (natS 1)] := rfl
theorem blk_set3 {W : World} {g h : Nat} {T : TypeId} {cs : Array Value} {u0 u1 u2 : Value} (hb : Blk W g T cs) (hne : g ≠ h) : Blk (((W.setCell ⟨h, 0, none⟩ u0).setCell ⟨h, 1, none⟩ u1).setCell ⟨h, 2, none⟩ u2) g T cs :=
  Blk.grown hb (gb_of_but (show But (fun q => q = h) W (((W.setCell ⟨h, 0, none⟩ u0).setCell ⟨h, 1, none⟩ u1).setCell ⟨h, 2, none⟩ u2) from (((But.refl (fun q => q = h) W).setCell (p := ⟨h, 0, none⟩) (Or.inl (show h = h from rfl)) u0).setCell (p := ⟨h, 1, none⟩) (Or.inl (show h = h from rfl)) u1).setCell (p := ⟨h, 2, none⟩) (Or.inl (show h = h from rfl)) u2)) (fun e => hne (by injection e))
theorem ang_of_ok {n : Bool} {a d : ByteArray} (h : okA n a d = true) : ∃ p : PT, Ang p ∧ n = false ∧ a = natS p.1 ∧ d = natS p.2 := by
  obtain ⟨h1, h2, h3, h4⟩ := Ang.of_ok h
  exact ⟨_, h1, h2, h3, h4⟩
theorem apartR_ang {L : List Lf} {p q : PT} (hp : Ang p) (hq : Ang q) : apartR L false (natS p.1) (natS p.2) false (natS q.1) (natS q.2) = (L.any fun l => partsP l p q, 0) := by
  unfold apartR
  rw [if_pos hp.ok, if_pos hq.ok, be_natS, be_natS, be_natS, be_natS]
theorem any_parts_symm {L : List Lf} {p q : PT} (hL : LOk L) (hp : Ang p) (hq : Ang q) : (L.any fun l => partsP l q p) = L.any fun l => partsP l p q := by
  have h : ∀ (M : List Lf), (∀ m, m ∈ M → m ∈ L) → (M.any fun l => partsP l q p) = M.any fun l => partsP l p q := by
    intro M
    induction M with
    | nil => intro _; rfl
    | cons a r ih =>
      intro hM
      rw [List.any_cons, List.any_cons, ih fun m hm => hM m (List.mem_cons_of_mem _ hm), partsP_symm (hL.lf a (hM a (List.mem_cons_self ..))).1 hq hp]
  exact h L fun _ hm => hm
set_option maxRecDepth 100000 in
set_option maxHeartbeats 8000000 in
theorem laminGaps_any (v : Value) (Ls : List RawL) (n1 : Bool) (a1 d1 : ByteArray) (n2 : Bool) (a2 d2 : ByteArray) (w : World) (hv : RdK 6 encR w v Ls) (hz : ∀ r, r ∈ Ls → szR r) (z1 : a1.size ≤ 9223372036854775807) (y1 : d1.size ≤ 9223372036854775807) (z2 : a2.size ≤ 9223372036854775807) (y2 : d2.size ≤ 9223372036854775807) :
    Calls Tryz.prog 5 #[v, .agg #[.bool n1, .string a1, .string d1], .agg #[.bool n2, .string a2, .string d2]] w (RetVal (.bool true) w) := by
  have hBW : Below w.heap.size w ((w.alloc (.cells #[.bool n1, .string a1, .string d1] 26)).alloc (.cells #[.bool n2, .string a2, .string d2] 26)) := ((Below.refl _ w).alloc (Nat.le_refl _) _).alloc (by simp) _
  have kk0 := (Blk.new w 26 #[.bool n1, .string a1, .string d1]).alloc (.cells #[.bool n2, .string a2, .string d2] 26)
  have kk1 := Blk.new (w.alloc (.cells #[.bool n1, .string a1, .string d1] 26)) 26 #[.bool n2, .string a2, .string d2]
  simp only [World.size_alloc] at kk1
  have K : Hid (KeepT ((w.alloc (.cells #[.bool n1, .string a1, .string d1] 26)).alloc (.cells #[.bool n2, .string a2, .string d2] 26)) [(w.heap.size, 26, #[.bool n1, .string a1, .string d1]), (w.heap.size + 1, 26, #[.bool n2, .string a2, .string d2])]) := Lib.hid ((KeepT.one kk0).snoc kk1)
  have hB := Lib.hid hBW
  clear hBW kk0 kk1
  have cAw := Lib.hid (fun W => lawake_any W)
  have cMade := Lib.hid (fun W (hb : Below w.heap.size w W) => lmade_any v Ls W (hv.below hb) hz)
  have cC1 := Lib.hid (fun W => check_any n1 a1 d1 W z1 y1)
  have cC2 := Lib.hid (fun W => check_any n2 a2 d2 W z2 y2)
  have cMk : Hid (∀ W, Calls Tryz.prog 30 #[.int .i64 0, .int .i64 1] W (RetVal (.tuple #[.agg #[.bool false, .string (natS 0), .string (natS 1)], .int .i64 0]) W)) := Lib.hid (fun W => by
    have h := make_any 0 1 W
    rwa [makeV_01] at h)
  have cWh : Hid (∀ W, Calls Tryz.prog 31 #[.int .i64 1] W (RetVal (.agg #[.bool false, .string (natS 1), .string (natS 1)]) W)) := Lib.hid (fun W => by
    have h := wholeR_any 1 W (by decide) (by decide) (by decide)
    rw [show ((1 : Nat) : Int) = 1 from rfl, frV_11] at h
    exact h)
  obtain ⟨A, c, rfl, -⟩ := hv
  obtain ⟨n, hn⟩ : ∃ n, n = Ls.length := ⟨_, rfl⟩
  rw [← hn] at cMade ⊢
  clear hz
  go_enter Tryz.func5, Tryz.ntmps5
  go_upto_region 1 with fail
  generalize hW : ((w.alloc (.cells #[.bool n1, .string a1, .string d1] 26)).alloc (.cells #[.bool n2, .string a2, .string d2] 26)) = w1 at K hB ⊢
  clear hW
  by_cases h40 : 40 < n
  case pos =>
    have h40z : (40 : Int) < (n : Int) := by omega
    replace hn := Lib.hid hn
    go_wp2_with fail
    refine (cAw.out _).mono ?_
    rintro en w2 ⟨rfl, hb⟩
    replace hB := Lib.hid (hB.out.trans (hb.mono hB.out.size))
    clear hb
    go_wp2_with fail
    go_ret
    exact ⟨rfl, hB.out⟩
  case neg =>
    have h40z : ¬ (40 : Int) < (n : Int) := by omega
    have cMd := Lib.hid (cMade.out w1 hB.out (by omega))
    have hlen := Lib.hid (Nat.le_trans (madeR_len Ls) (by omega : Ls.length ≤ 40))
    obtain ⟨L0, hL0⟩ : ∃ L, L = madeR Ls := ⟨_, rfl⟩
    rw [← hL0] at cMd hlen
    replace hn := Lib.hid hn
    clear cMade hL0 h40
    go_wp2_with fail
    refine cMd.out.mono ?_
    rintro en w2 ⟨x, vx, rfl, hS, hb⟩
    replace hB := Lib.hid (hB.out.trans (hb.mono hB.out.size))
    replace K := Lib.hid (KeepT.below K.out hb)
    have hOk := Lib.hid hS.ok
    replace hS := Lib.hid hS
    clear hb cMd h40z
    go_wp2_with fail
    refine (lGaps_any _ x vx L0 w2 hS.out).mono ?_
    rintro en w3 ⟨v', vs, rfl, hN, hb⟩
    replace hB := Lib.hid (hB.out.trans (hb.mono hB.out.size))
    replace K := Lib.hid (KeepT.below K.out hb)
    replace hS := Lib.hid (LamS.below hS.out hb)
    clear hb
    obtain ⟨M, hM0, hMF, hArc, hSum⟩ := gaps_sumF hOk.out hlen.out
    have hGl := gaps_len hOk.out
    have hGb := gapsL_bd (L := L0) (by have := hlen.out; omega)
    have hAp : Hid (∀ p q : PT, Ang p → Ang q → 0 ≤ insG (gapsL L0) p → 0 ≤ insG (gapsL L0) q → (L0.any fun l => partsP l p q) = !decide (insG (gapsL L0) p = insG (gapsL L0) q)) := Lib.hid (fun p q hp hq h1 h2 => apart_in hOk.out hp hq h1 h2)
    obtain ⟨G, hG⟩ : ∃ G, G = gapsL L0 := ⟨_, rfl⟩
    rw [← hG] at hN hArc hSum hGl hGb hAp
    clear hG
    have cIn : Hid (∀ (p : PT) (W : World), Ang p → Below w3.heap.size w3 W → Calls Tryz.prog 36 #[v', .agg #[.bool false, .string (natS p.1), .string (natS p.2)]] W (RetVal (.int .i64 (insG G p)) W)) := Lib.hid (fun p W hp hb => linside_any _ v' vs G p W (hN.below hb) (fun g hg y hy => ⟨(hArc g hg y hy).a, (hArc g hg y hy).b⟩) hp hGb.1 hGb.2)
    have cAp : Hid (∀ (p q : PT) (W : World), Ang p → Ang q → Below w3.heap.size w3 W → Calls Tryz.prog 37 #[.pointer (some ⟨x, 0, none⟩), .agg #[.bool false, .string (natS p.1), .string (natS p.2)], .agg #[.bool false, .string (natS q.1), .string (natS q.2)]] W (RetVal (.tuple #[.bool (L0.any fun l => partsP l p q), .int .i64 0]) W)) := Lib.hid (fun p q W hp hq hb => by
      have h := lApart_any _ x vx L0 false (natS p.1) (natS p.2) false (natS q.1) (natS q.2) W (hS.out.below hb) (okA_size hp.ok).1 (okA_size hp.ok).2 (okA_size hq.ok).1 (okA_size hq.ok).2
      rw [apartR_ang hp hq] at h
      exact h)
    have cLen : Hid (Calls Tryz.prog 29 #[.pointer (some ⟨x, 0, none⟩)] w3 (RetVal (.int .i64 (L0.length : Int)) w3)) := Lib.hid (lLenS _ x vx L0 w3 hS.out)
    have cSub : Hid (∀ (y : PT × PT) (W : World), ArcOk M y → Calls Tryz.prog 32 #[.agg #[.bool false, .string (natS y.2.1), .string (natS y.2.2)], .agg #[.bool false, .string (natS y.1.1), .string (natS y.1.2)]] W fun e w' => ∃ s2 a2 b2, e = .returned (.tuple #[.agg #[.bool s2, .string a2, .string b2], .int .i64 0]) ∧ FrV M s2 a2 b2 ((un M y.2 : Int) - (un M y.1 : Int)) ∧ Below W.heap.size W w') := Lib.hid (fun y W hy => by
      have h1 := un_lt hy.a hM0 hy.da
      have h2 := un_lt hy.b hM0 hy.db
      exact ratSubV W hM0 (by omega) hMF (FrV.ang hy.b hy.db) (FrV.ang hy.a hy.da) (by omega) (by omega))
    have cCmp : Hid (∀ (y : PT × PT) (W : World), ArcOk M y → Calls Tryz.prog 33 #[.agg #[.bool false, .string (natS y.2.1), .string (natS y.2.2)], .agg #[.bool false, .string (natS y.1.1), .string (natS y.1.2)]] W (RetVal (.tuple #[.int .i64 (cmpI (y.2.1 * y.1.2) (y.1.1 * y.2.2)), .int .i64 0]) W)) := Lib.hid (fun y W hy => ratCmpV W hy.b hy.a hM0 hy.db hy.da)
    have cAdd : Hid (∀ (s s' : Bool) (a b a' b' : ByteArray) (t t' : Int) (W : World), FrV M s a b t → FrV M s' a' b' t' → (-(M : Int) ≤ t ∧ t ≤ (M : Int)) → (-(M : Int) ≤ t' ∧ t' ≤ (M : Int)) → Calls Tryz.prog 34 #[.agg #[.bool s, .string a, .string b], .agg #[.bool s', .string a', .string b']] W fun e w' => ∃ s2 a2 b2, e = .returned (.tuple #[.agg #[.bool s2, .string a2, .string b2], .int .i64 0]) ∧ FrV M s2 a2 b2 (t + t') ∧ Below W.heap.size W w') := Lib.hid (fun s s' a b a' b' t t' W h h' ht ht' => ratAddV W hM0 (by omega) hMF h h' ht ht')
    obtain ⟨m, hm⟩ : ∃ m, m = G.length := ⟨_, rfl⟩
    have hvl : vs.length = m := by rw [hN.1, hm]
    obtain ⟨Au, cu, rfl, -, hAu⟩ := own_form hN.row
    rw [hvl] at hN hAu cIn ⊢
    obtain ⟨gu, rfl⟩ := hAu (by omega)
    have hr0 : Hid (∀ i, i < m → ∀ W, Below w3.heap.size w3 W → W.cell? ⟨gu, i, none⟩ = some vs[i]! ∧ W.ownsRow w2.heap.size 74 6 vs[i]! G[i]!.length (G[i]!.flatMap leafE)) := Lib.hid (fun i hi W hb => by
      have h := hN.below hb
      have hi1 : i < vs.length := by rw [hvl]; exact hi
      refine ⟨?_, ?_⟩
      · have h1 := h.row
        rw [hvl] at h1
        rw [World.ownsRow.cellAt h1 i (by omega), List.getElem?_eq_getElem hi1, getElem!_pos vs i hi1]
      · have h1 := h.inner (g := i) hi1
        rw [← getElem!_pos vs i hi1, ← getElem!_pos G i (by rw [← hm]; exact hi)] at h1
        exact h1)
    have hxl : Hid (∀ i, i < m → G[i]!.length ≤ 8192 ∧ ∀ k, k < G[i]!.length → ArcOk M G[i]![k]!) := Lib.hid (fun i hi => by
      have hg : G[i]! ∈ G := by rw [getElem!_pos G i (by omega)]; exact List.getElem_mem (by omega)
      refine ⟨hGb.2 _ hg, fun k hk => hArc _ hg _ ?_⟩
      rw [getElem!_pos G[i]! k hk]; exact List.getElem_mem hk)
    have hPL : Hid (∀ i k, i < m → preU M G i k ≤ M) := Lib.hid (fun i k hi => by
      have := preU_le (M := M) (k := k) (show i < G.length by omega)
      rw [hSum] at this
      exact this)
    have hPE : Hid (preU M G m 0 = M) := Lib.hid (by rw [hm, preU_end, hSum])
    have hm8 : m ≤ 8192 := by rw [hm]; exact hGb.1
    obtain ⟨l, hl⟩ : ∃ l, l = L0.length := ⟨_, rfl⟩
    have hml : m ≤ l + 1 := by rw [hm, hl]; exact hGl.1
    have hm0 : 0 < m := by rw [hm]; exact hGl.2
    have hl8 : l ≤ 40 := by rw [hl]; exact hlen.out
    rw [← hl] at cLen
    have hmz : ¬ (l : Int) + 1 < (m : Int) := by omega
    have hmz0 : ((m : Int) == 0) = false := by simp; omega
    have hwl : IntKind.i64.wrap ((l : Int) + 1) = (l : Int) + 1 := by rw [IntKind.wrap_i64]; omega
    replace hm := Lib.hid hm
    replace hl := Lib.hid hl
    replace hM0 := Lib.hid hM0
    have hC := Lib.hid (Below.refl w3.heap.size w3)
    have hw30 := Lib.hid hB.out.size
    have K3 := Lib.hid K.out
    have hK : Hid (∀ W, Below w3.heap.size w3 W → KeepT W [(w.heap.size, 26, #[.bool n1, .string a1, .string d1]), (w.heap.size + 1, 26, #[.bool n2, .string a2, .string d2])]) := Lib.hid (fun W hb => KeepT.below K3.out hb)
    clear hN hArc hSum hGl hGb hMF hAu hvl K K3
    go_wp2_with fail
    refine cLen.out.mono ?_
    rintro en w4 ⟨rfl, hb⟩
    replace hB := Lib.hid (hB.out.trans (hb.mono hB.out.size))
    replace hC := Lib.hid (hC.out.trans (hb.mono hC.out.size))
    clear hb cLen
    go_wp2_with fail
    refine (cMk.out _).mono ?_
    rintro en w5 ⟨rfl, hb⟩
    replace hB := Lib.hid (hB.out.trans (hb.mono hB.out.size))
    replace hC := Lib.hid (hC.out.trans (hb.mono hC.out.size))
    clear hb cMk hmz hmz0 hwl hml
    go_upto_region 8 with fail
    have kO := Lib.hid (Blk.new w5 26 #[.bool false, .string (natS 0), .string (natS 1)])
    replace hB := Lib.hid (hB.out.alloc hB.out.size (.cells #[.bool false, .string (natS 0), .string (natS 1)] 26))
    replace hC := Lib.hid (hC.out.alloc hC.out.size (.cells #[.bool false, .string (natS 0), .string (natS 1)] 26))
    generalize hW : w5.alloc (.cells #[.bool false, .string (natS 0), .string (natS 1)] 26) = w6 at hB hC kO ⊢
    generalize hg0 : w5.heap.size = g9 at kO ⊢
    clear hW hg0
    have o0 : w6.cell? ⟨g9, 0, none⟩ = some (.bool false) := kO.out.cell 0
    have o1 : w6.cell? ⟨g9, 1, none⟩ = some (.string (natS 0)) := kO.out.cell 1
    have o2 : w6.cell? ⟨g9, 2, none⟩ = some (.string (natS 1)) := kO.out.cell 2
    go_upto_region 9 with fail
    clear o0 o1 o2
    clear kO
    have kS := Lib.hid (Blk.new w6 26 #[.bool false, .string (natS 0), .string (natS 1)])
    have hgS := Lib.hid hC.out.size
    replace hB := Lib.hid (hB.out.alloc hB.out.size (.cells #[.bool false, .string (natS 0), .string (natS 1)] 26))
    replace hC := Lib.hid (hC.out.alloc hC.out.size (.cells #[.bool false, .string (natS 0), .string (natS 1)] 26))
    generalize hW : w6.alloc (.cells #[.bool false, .string (natS 0), .string (natS 1)] 26) = w7 at hB hC kS ⊢
    generalize hg0 : w6.heap.size = gS at kS hgS ⊢
    clear hW hg0
    go_wp2_with fail
    refine (cWh.out _).mono ?_
    rintro en w8 ⟨rfl, hb⟩
    replace hB := Lib.hid (hB.out.trans (hb.mono hB.out.size))
    replace hC := Lib.hid (hC.out.trans (hb.mono hC.out.size))
    replace kS := Lib.hid (Blk.below kS.out hb)
    clear hb cWh
    go_upto_region 12 with fail
    have kW := Lib.hid (Blk.new w8 26 #[.bool false, .string (natS 1), .string (natS 1)])
    have hgW := Lib.hid hC.out.size
    have hSW := Lib.hid kS.out.lt
    replace hB := Lib.hid (hB.out.alloc hB.out.size (.cells #[.bool false, .string (natS 1), .string (natS 1)] 26))
    replace hC := Lib.hid (hC.out.alloc hC.out.size (.cells #[.bool false, .string (natS 1), .string (natS 1)] 26))
    replace kS := Lib.hid (Blk.alloc kS.out (.cells #[.bool false, .string (natS 1), .string (natS 1)] 26))
    generalize hW : w8.alloc (.cells #[.bool false, .string (natS 1), .string (natS 1)] 26) = w9 at hB hC kS kW ⊢
    generalize hg0 : w8.heap.size = gW at kW hgW hSW ⊢
    clear hW hg0
    go_wp2_with fail
    go_loopg [13] m (fun kx s13 wr => ∃ (i : Nat) (ss : Bool) (sa sb : ByteArray), s13 = .int .i64 (i : Int) ∧ i ≤ m ∧ m - i ≤ kx ∧ Hid (Blk wr gS 26 #[.bool ss, .string sa, .string sb]) ∧ Hid (FrV M ss sa sb (preU M G i 0 : Int)) ∧ Hid (Blk wr gW 26 #[.bool false, .string (natS 1), .string (natS 1)]) ∧ Hid (Below w3.heap.size w3 wr) ∧ Hid (Below w.heap.size w wr))
    case atStart => exact ⟨0, false, natS 0, natS 1, rfl, Nat.zero_le _, Nat.le_refl _, kS, Lib.hid (by rw [preU_zero]; exact FrV.zero M), kW, hC, hB⟩
    case round =>
      clear kS kW hC hB
      obtain ⟨i, ss, sa, sb, rfl, hin, hg, kS, hF, kW, hC, hB⟩ := hrel
      by_cases hlt : i < m
      case neg =>
        obtain rfl : m = i := by omega
        have s0 : wr.cell? ⟨gS, 0, none⟩ = some (.bool ss) := kS.out.cell 0
        have s1 : wr.cell? ⟨gS, 1, none⟩ = some (.string sa) := kS.out.cell 1
        have s2 : wr.cell? ⟨gS, 2, none⟩ = some (.string sb) := kS.out.cell 2
        have o0 : wr.cell? ⟨gW, 0, none⟩ = some (.bool false) := kW.out.cell 0
        have o1 : wr.cell? ⟨gW, 1, none⟩ = some (.string (natS 1)) := kW.out.cell 1
        have o2 : wr.cell? ⟨gW, 2, none⟩ = some (.string (natS 1)) := kW.out.cell 2
        rw [hPE.out] at hF
        obtain ⟨rfl, rfl, rfl⟩ := hF.out.whole hM0.out
        replace hK := Lib.hid (hK.out wr hC.out)
        clear kS kW hF cSub cCmp cAdd hr0 hxl hPL hPE
        have p0 : wr.cell? ⟨w.heap.size, 0, none⟩ = some (.bool n1) := (hK.out.at_ 0 rfl).cell 0
        have p1 : wr.cell? ⟨w.heap.size, 1, none⟩ = some (.string a1) := (hK.out.at_ 0 rfl).cell 1
        have p2 : wr.cell? ⟨w.heap.size, 2, none⟩ = some (.string d1) := (hK.out.at_ 0 rfl).cell 2
        go_wp2_with fail
        refine (cC1.out _).mono ?_
        rintro en wa ⟨rfl, hb⟩
        replace hB := Lib.hid (hB.out.trans (hb.mono hB.out.size))
        replace hC := Lib.hid (hC.out.trans (hb.mono hC.out.size))
        replace hK := Lib.hid (KeepT.below hK.out hb)
        clear hb
        clear p0 p1 p2 s0 s1 s2 o0 o1 o2
        cases ok1 : okA n1 a1 d1
        case false =>
          go_wp2_with fail
          refine (cAw.out _).mono ?_
          rintro en wx ⟨rfl, hb⟩
          replace hB := Lib.hid (hB.out.trans (hb.mono hB.out.size))
          clear hb
          go_wp2_with fail
          go_ret
          exact ⟨rfl, hB.out⟩
        case true =>
          have p0 : wa.cell? ⟨w.heap.size + 1, 0, none⟩ = some (.bool n2) := (hK.out.at_ 1 rfl).cell 0
          have p1 : wa.cell? ⟨w.heap.size + 1, 1, none⟩ = some (.string a2) := (hK.out.at_ 1 rfl).cell 1
          have p2 : wa.cell? ⟨w.heap.size + 1, 2, none⟩ = some (.string d2) := (hK.out.at_ 1 rfl).cell 2
          go_wp2_with fail
          refine (cC2.out _).mono ?_
          rintro en wb ⟨rfl, hb⟩
          replace hB := Lib.hid (hB.out.trans (hb.mono hB.out.size))
          replace hC := Lib.hid (hC.out.trans (hb.mono hC.out.size))
          replace hK := Lib.hid (KeepT.below hK.out hb)
          clear hb
          clear p0 p1 p2
          cases ok2 : okA n2 a2 d2
          case false =>
            go_wp2_with fail
            refine (cAw.out _).mono ?_
            rintro en wx ⟨rfl, hb⟩
            replace hB := Lib.hid (hB.out.trans (hb.mono hB.out.size))
            clear hb
            go_wp2_with fail
            go_ret
            exact ⟨rfl, hB.out⟩
          case true =>
            obtain ⟨p, hp, rfl, rfl, rfl⟩ := ang_of_ok ok1
            obtain ⟨q, hq, rfl, rfl, rfl⟩ := ang_of_ok ok2
            clear ok1 ok2 cC1 cC2
            have hsy : Hid ((L0.any fun l => partsP l q p) = L0.any fun l => partsP l p q) := Lib.hid (any_parts_symm hOk.out hp hq)
            have hap := Lib.hid (hAp.out p q hp hq)
            have cA1 := Lib.hid (fun W hb => cAp.out p q W hp hq hb)
            have cA2 := Lib.hid (fun W hb => cAp.out q p W hq hp hb)
            rw [hsy.out] at cA2
            have cI1 := Lib.hid (fun W hb => cIn.out p W hp hb)
            have cI2 := Lib.hid (fun W hb => cIn.out q W hq hb)
            obtain ⟨ia, hia⟩ : ∃ x, x = insG G p := ⟨_, rfl⟩
            obtain ⟨ib, hib⟩ : ∃ x, x = insG G q := ⟨_, rfl⟩
            obtain ⟨ap, hap0⟩ : ∃ x, x = L0.any fun l => partsP l p q := ⟨_, rfl⟩
            have hbd : (-1 ≤ ia ∧ ia ≤ (m : Int)) ∧ (-1 ≤ ib ∧ ib ≤ (m : Int)) := by
              rw [hia, hib, hm.out]
              exact ⟨insG_lo G p, insG_lo G q⟩
            rw [← hia, ← hib, ← hap0] at hap
            rw [← hap0] at cA1 cA2
            rw [← hia] at cI1
            rw [← hib] at cI2
            replace hp := Lib.hid hp
            replace hq := Lib.hid hq
            clear hia hib hap0 hsy cAp cIn hAp
            have q1 : ∀ W, Below wb.heap.size wb W → Below w3.heap.size w3 W := fun W hb => hC.out.trans (hb.mono hC.out.size)
            have q2 : ∀ d os, Calls Tryz.prog 36 #[.slice (some ⟨gu, 0, none⟩) m cu, .agg #[.bool false, .string (natS p.1), .string (natS p.2)]] (grow (redrawn wb d) os) fun e w'' => e = .returned (.int .i64 ia) ∧ ∃ p : Regrown, w'' = grow (redrawn wb p.d) p.os := fun d os => Calls.regrown_of (cI1.out _ (q1 _ (below_regrown wb d os)))
            have q3 : ∀ d os, Calls Tryz.prog 36 #[.slice (some ⟨gu, 0, none⟩) m cu, .agg #[.bool false, .string (natS q.1), .string (natS q.2)]] (grow (redrawn wb d) os) fun e w'' => e = .returned (.int .i64 ib) ∧ ∃ p : Regrown, w'' = grow (redrawn wb p.d) p.os := fun d os => Calls.regrown_of (cI2.out _ (q1 _ (below_regrown wb d os)))
            have m00 : ∀ d os, (grow (redrawn wb d) os).cell? ⟨w.heap.size, 0, none⟩ = some (.bool false) := cell_regrown ((hK.out.at_ 0 rfl).cell 0)
            have m01 : ∀ d os, (grow (redrawn wb d) os).cell? ⟨w.heap.size, 1, none⟩ = some (.string (natS p.1)) := cell_regrown ((hK.out.at_ 0 rfl).cell 1)
            have m02 : ∀ d os, (grow (redrawn wb d) os).cell? ⟨w.heap.size, 2, none⟩ = some (.string (natS p.2)) := cell_regrown ((hK.out.at_ 0 rfl).cell 2)
            have m10 : ∀ d os, (grow (redrawn wb d) os).cell? ⟨w.heap.size + 1, 0, none⟩ = some (.bool false) := cell_regrown ((hK.out.at_ 1 rfl).cell 0)
            have m11 : ∀ d os, (grow (redrawn wb d) os).cell? ⟨w.heap.size + 1, 1, none⟩ = some (.string (natS q.1)) := cell_regrown ((hK.out.at_ 1 rfl).cell 1)
            have m12 : ∀ d os, (grow (redrawn wb d) os).cell? ⟨w.heap.size + 1, 2, none⟩ = some (.string (natS q.2)) := cell_regrown ((hK.out.at_ 1 rfl).cell 2)
            go_upto_region 33 with fail
            refine wp_region_quiet_below (by kernel_rfl) (by kernel_rfl) ?_
            iterate 2 (quiet_step (fail))
            quiet_step (exact q2 _ _)
            iterate 2 (quiet_step (fail))
            quiet_step (exact q3 _ _)
            iterate 2 (quiet_step (fail))
            refine wpQuiet_nil ?_
            intro wd hw'
            have hb : Below wb.heap.size wb wd := by
              obtain ⟨p, rfl⟩ := hw'
              exact below_regrown wb p.d p.os
            clear hw' q1 q2 q3 cI1 cI2 m00 m01 m02 m10 m11 m12
            replace hB := Lib.hid (hB.out.trans (hb.mono hB.out.size))
            replace hC := Lib.hid (hC.out.trans (hb.mono hC.out.size))
            replace hK := Lib.hid (KeepT.below hK.out hb)
            clear hb
            have m00 : wd.cell? ⟨w.heap.size, 0, none⟩ = some (.bool false) := (hK.out.at_ 0 rfl).cell 0
            have m01 : wd.cell? ⟨w.heap.size, 1, none⟩ = some (.string (natS p.1)) := (hK.out.at_ 0 rfl).cell 1
            have m02 : wd.cell? ⟨w.heap.size, 2, none⟩ = some (.string (natS p.2)) := (hK.out.at_ 0 rfl).cell 2
            have m10 : wd.cell? ⟨w.heap.size + 1, 0, none⟩ = some (.bool false) := (hK.out.at_ 1 rfl).cell 0
            have m11 : wd.cell? ⟨w.heap.size + 1, 1, none⟩ = some (.string (natS q.1)) := (hK.out.at_ 1 rfl).cell 1
            have m12 : wd.cell? ⟨w.heap.size + 1, 2, none⟩ = some (.string (natS q.2)) := (hK.out.at_ 1 rfl).cell 2
            go_wp2_with fail
            refine (cA1.out _ hC.out).mono ?_
            rintro en we ⟨rfl, hb⟩
            replace hB := Lib.hid (hB.out.trans (hb.mono hB.out.size))
            replace hC := Lib.hid (hC.out.trans (hb.mono hC.out.size))
            replace hK := Lib.hid (KeepT.below hK.out hb)
            clear hb
            clear m00 m01 m02 m10 m11 m12
            have m00 : we.cell? ⟨w.heap.size, 0, none⟩ = some (.bool false) := (hK.out.at_ 0 rfl).cell 0
            have m01 : we.cell? ⟨w.heap.size, 1, none⟩ = some (.string (natS p.1)) := (hK.out.at_ 0 rfl).cell 1
            have m02 : we.cell? ⟨w.heap.size, 2, none⟩ = some (.string (natS p.2)) := (hK.out.at_ 0 rfl).cell 2
            have m10 : we.cell? ⟨w.heap.size + 1, 0, none⟩ = some (.bool false) := (hK.out.at_ 1 rfl).cell 0
            have m11 : we.cell? ⟨w.heap.size + 1, 1, none⟩ = some (.string (natS q.1)) := (hK.out.at_ 1 rfl).cell 1
            have m12 : we.cell? ⟨w.heap.size + 1, 2, none⟩ = some (.string (natS q.2)) := (hK.out.at_ 1 rfl).cell 2
            go_wp2_with fail
            refine (cA2.out _ hC.out).mono ?_
            rintro en wf ⟨rfl, hb⟩
            replace hB := Lib.hid (hB.out.trans (hb.mono hB.out.size))
            replace hC := Lib.hid (hC.out.trans (hb.mono hC.out.size))
            replace hK := Lib.hid (KeepT.below hK.out hb)
            clear hb
            clear cA1 cA2 m00 m01 m02 m10 m11 m12
            obtain ⟨hbd1, hbd2⟩ := hbd
            by_cases ha0 : ia < 0
            case pos =>
              cases ap <;> go_wp2_with fail
              all_goals
                refine (cAw.out _).mono ?_
                rintro en wx ⟨rfl, hb⟩
                replace hB := Lib.hid (hB.out.trans (hb.mono hB.out.size))
                clear hb
                go_wp2_with fail
                go_ret
                exact ⟨rfl, hB.out⟩
            case neg =>
              by_cases hb0 : ib < 0
              case pos =>
                cases ap <;> go_wp2_with fail
                all_goals
                  refine (cAw.out _).mono ?_
                  rintro en wx ⟨rfl, hb⟩
                  replace hB := Lib.hid (hB.out.trans (hb.mono hB.out.size))
                  clear hb
                  go_wp2_with fail
                  go_ret
                  exact ⟨rfl, hB.out⟩
              case neg =>
                have hx := hap.out (by omega) (by omega)
                by_cases hab : ia = ib
                case pos =>
                  rw [decide_eq_true hab] at hx
                  subst hx
                  have hab1 : (ia == ib) = true := by simpa using hab
                  go_wp2_with fail
                  refine (cAw.out _).mono ?_
                  rintro en wx ⟨rfl, hb⟩
                  replace hB := Lib.hid (hB.out.trans (hb.mono hB.out.size))
                  clear hb
                  go_wp2_with fail
                  go_ret
                  exact ⟨rfl, hB.out⟩
                case neg =>
                  rw [decide_eq_false hab] at hx
                  subst hx
                  have hab1 : (ia == ib) = false := by simpa using hab
                  have hre : Hid ((decide (ia < 0) || decide (ib < 0) || ia != ib) = true) := Lib.hid (by simp [hab])
                  go_wp2_with fail
                  refine (cAw.out _).mono ?_
                  rintro en wx ⟨rfl, hb⟩
                  replace hB := Lib.hid (hB.out.trans (hb.mono hB.out.size))
                  clear hb
                  go_wp2_with fail
                  go_ret
                  exact ⟨congrArg (fun b => Ending.returned (.bool b)) hre.out, hB.out⟩
      case pos =>
        have hr := Lib.hid (hr0.out i hlt)
        have hxi := Lib.hid (hxl.out i hlt)
        obtain ⟨x1, hx1⟩ : ∃ x, x = G[i]! := ⟨_, rfl⟩
        obtain ⟨ui, hui⟩ : ∃ u, u = vs[i]! := ⟨_, rfl⟩
        rw [← hx1] at hxi
        rw [← hx1, ← hui] at hr
        obtain ⟨mi, hmi⟩ : ∃ m, m = x1.length := ⟨_, rfl⟩
        have hmi8 : mi ≤ 8192 := by rw [hmi]; exact hxi.out.1
        rw [← hmi] at hr hxi
        obtain ⟨Ai, ci, rfl, -, hAi⟩ := own_form (hr.out wr hC.out).2
        have hiz : (i : Int) < (m : Int) := by omega
        have hiz0 : (0 : Int) ≤ (i : Int) := by omega
        have hw1 : Hid (IntKind.i64.wrap ((i : Int) + 1) = (i : Int) + 1) := Lib.hid (by rw [IntKind.wrap_i64]; omega)
        have hP0 : Hid (∀ k, preU M G i k ≤ M) := Lib.hid (fun k => hPL.out i k hlt)
        have hPS : Hid (∀ k, k < mi → preU M G i (k + 1) = preU M G i k + arcU M x1[k]!) := Lib.hid (fun k hk => by
          rw [hx1]
          exact preU_step (by rw [← hx1, ← hmi]; exact hk))
        have hPN : Hid (preU M G i mi = preU M G (i + 1) 0) := Lib.hid (by
          rw [hmi, hx1]
          exact preU_next (by rw [← hm.out]; exact hlt))
        replace hx1 := Lib.hid hx1
        replace hui := Lib.hid hui
        replace hmi := Lib.hid hmi
        replace hAi := Lib.hid hAi
        go_wp2_with fail
        go_loopg [14] mi (fun kx s14 wr => ∃ (k : Nat) (ss : Bool) (sa sb : ByteArray), s14 = .int .i64 (k : Int) ∧ k ≤ mi ∧ mi - k ≤ kx ∧ Hid (Blk wr gS 26 #[.bool ss, .string sa, .string sb]) ∧ Hid (FrV M ss sa sb (preU M G i k : Int)) ∧ Hid (Blk wr gW 26 #[.bool false, .string (natS 1), .string (natS 1)]) ∧ Hid (Below w3.heap.size w3 wr) ∧ Hid (Below w.heap.size w wr))
        case atStart => exact ⟨0, ss, sa, sb, rfl, Nat.zero_le _, Nat.le_refl _, kS, hF, kW, hC, hB⟩
        case round =>
          clear kS kW hC hB hF
          obtain ⟨k, ss, sa, sb, rfl, hkm, hgk, kS, hF, kW, hC, hB⟩ := hrel
          have c0 := (hr.out wr hC.out).1
          by_cases hlk : k < mi
          case neg =>
            obtain rfl : mi = k := by omega
            have hw1 := hw1.out
            rw [hPN.out] at hF
            go_wp2_with fail
            go_roundg (m - (i + 1))
            case measure => omega
            case rel => exact ⟨i + 1, ss, sa, sb, by simp, by omega, Nat.le_refl _, kS, hF, kW, hC, hB⟩
          case pos =>
            obtain ⟨gi, hgi⟩ := hAi.out (by omega)
            subst hgi
            obtain ⟨y, hy⟩ : ∃ y, y = x1[k]! := ⟨_, rfl⟩
            have hyo : Hid (ArcOk M y) := Lib.hid (by rw [hy]; exact hxi.out.2 k hlk)
            have hPk : Hid (preU M G i (k + 1) = preU M G i k + arcU M y) := Lib.hid (by rw [hy]; exact hPS.out k hlk)
            have hcel : Hid (∀ W, Below w3.heap.size w3 W → W.cell? ⟨gu, i, none⟩ = some (.slice (some ⟨gi, 0, none⟩) mi ci) ∧ ∀ (j : Nat) (u : Value), (leafE y)[j]? = some u → W.cell? ⟨gi, k * 6 + j, none⟩ = some u) := Lib.hid (fun W hb => by
              have h := hr.out W hb
              refine ⟨h.1, ?_⟩
              rw [hy]
              exact row_cell6 h.2 (by rw [← hmi.out]; exact hlk) hmi.out)
            have hkz : (k : Int) < (mi : Int) := by omega
            have hkz0 : (0 : Int) ≤ (k : Int) := by omega
            have hw2 : Hid (IntKind.i64.wrap ((k : Int) + 1) = (k : Int) + 1) := Lib.hid (by rw [IntKind.wrap_i64]; omega)
            replace hy := Lib.hid hy
            have p0 : wr.cell? ⟨gi, k * 6, none⟩ = some (.bool false) := (hcel.out wr hC.out).2 0 _ rfl
            have p1 : wr.cell? ⟨gi, k * 6 + 1, none⟩ = some (.string (natS y.1.1)) := (hcel.out wr hC.out).2 1 _ rfl
            have p2 : wr.cell? ⟨gi, k * 6 + 2, none⟩ = some (.string (natS y.1.2)) := (hcel.out wr hC.out).2 2 _ rfl
            have p3 : wr.cell? ⟨gi, k * 6 + 3, none⟩ = some (.bool false) := (hcel.out wr hC.out).2 3 _ rfl
            have p4 : wr.cell? ⟨gi, k * 6 + 4, none⟩ = some (.string (natS y.2.1)) := (hcel.out wr hC.out).2 4 _ rfl
            have p5 : wr.cell? ⟨gi, k * 6 + 5, none⟩ = some (.string (natS y.2.2)) := (hcel.out wr hC.out).2 5 _ rfl
            have hsz := Lib.hid (Nat.le_trans hgW.out (Nat.le_of_lt kW.out.lt))
            go_upto_region 18 with fail
            go_cut [15, 16] from 57 to 125 (fun s15 s16 wx => ∃ (gD : Nat) (ds : Bool) (da db : ByteArray), s15 = .pointer (some ⟨gD, 0, none⟩) ∧ s16 = .int .i64 0 ∧ Hid (Blk wx gD 26 #[.bool ds, .string da, .string db]) ∧ Hid (FrV M ds da db ((un M y.2 : Int) - (un M y.1 : Int))) ∧ Hid (wr.heap.size ≤ gD) ∧ Hid (Below wr.heap.size wr wx))
            case first =>
              have hE0 := Lib.hid (show Below wr.heap.size wr wr.drew from (Below.refl _ wr).drew)
              have hE1 := Lib.hid (show Below wr.heap.size wr (wr.alloc (.cells #[.bool false, .string ⟨#[]⟩, .string ⟨#[]⟩] 26)).drew from ((Below.refl _ wr).alloc (Nat.le_refl _) _).drew)
              have hA := Lib.hid (fun W => cSub.out y W hyo.out)
              have hgu0 : gu < wr.heap.size := block_lt_of_cell c0
              have hgi0 : gi < wr.heap.size := block_lt_of_cell p0
              go_region_held3 (fun w' => w'.cell? ⟨gu, i, none⟩ = some (.slice (some ⟨gi, 0, none⟩) mi ci) ∧ w'.cell? ⟨gi, k * 6, none⟩ = some (.bool false) ∧ w'.cell? ⟨gi, k * 6 + 1, none⟩ = some (.string (natS y.1.1)) ∧ w'.cell? ⟨gi, k * 6 + 2, none⟩ = some (.string (natS y.1.2)) ∧ w'.cell? ⟨gi, k * 6 + 3, none⟩ = some (.bool false) ∧ w'.cell? ⟨gi, k * 6 + 4, none⟩ = some (.string (natS y.2.1)) ∧ w'.cell? ⟨gi, k * 6 + 5, none⟩ = some (.string (natS y.2.2))) (first | (have hq0 := x0; with_reducible exact ⟨keep_set3 z0 (by simp; omega), keep_set3 z1 (by simp; omega), keep_set3 z2 (by simp; omega), keep_set3 z3 (by simp; omega), keep_set3 z4 (by simp; omega), keep_set3 z5 (by simp; omega), keep_set3 z6 (by simp; omega)⟩) | go_keep)
                (first
                  | (go_at_call 32; (with_reducible refine Calls.mono (hA.out wr.drew) ?_); rintro en w5 ⟨ds, da, db, rfl, hD, hb⟩; have hE := Lib.hid (hE0.out.trans (hb.mono hE0.out.size)); have hC5 := hC.out.trans (hE.out.mono hC.out.size); replace hD := Lib.hid hD; have z0 := (hcel.out w5 hC5).1; have z1 : w5.cell? ⟨gi, k * 6, none⟩ = some (.bool false) := (hcel.out w5 hC5).2 0 _ rfl; have z2 : w5.cell? ⟨gi, k * 6 + 1, none⟩ = some (.string (natS y.1.1)) := (hcel.out w5 hC5).2 1 _ rfl; have z3 : w5.cell? ⟨gi, k * 6 + 2, none⟩ = some (.string (natS y.1.2)) := (hcel.out w5 hC5).2 2 _ rfl; have z4 : w5.cell? ⟨gi, k * 6 + 3, none⟩ = some (.bool false) := (hcel.out w5 hC5).2 3 _ rfl; have z5 : w5.cell? ⟨gi, k * 6 + 4, none⟩ = some (.string (natS y.2.1)) := (hcel.out w5 hC5).2 4 _ rfl; have z6 : w5.cell? ⟨gi, k * 6 + 5, none⟩ = some (.string (natS y.2.2)) := (hcel.out w5 hC5).2 5 _ rfl; clear hb hC5)
                  | (go_at_call 32; (with_reducible refine Calls.mono (hA.out (wr.alloc (.cells #[.bool false, .string ⟨#[]⟩, .string ⟨#[]⟩] 26)).drew) ?_); rintro en w5 ⟨ds, da, db, rfl, hD, hb⟩; have hX := Lib.hid (show Blk w5 wr.heap.size 26 #[.bool false, .string ⟨#[]⟩, .string ⟨#[]⟩] from Blk.below (show Blk (wr.alloc (.cells #[.bool false, .string ⟨#[]⟩, .string ⟨#[]⟩] 26)).drew wr.heap.size 26 #[.bool false, .string ⟨#[]⟩, .string ⟨#[]⟩] from Blk.new wr 26 #[.bool false, .string ⟨#[]⟩, .string ⟨#[]⟩]) hb); have x0 : w5.cell? ⟨wr.heap.size, 0, none⟩ = some (.bool false) := hX.out.cell 0; have xf0 := hX.out.frozen 0; have x1 : w5.cell? ⟨wr.heap.size, 1, none⟩ = some (.string ⟨#[]⟩) := hX.out.cell 1; have xf1 := hX.out.frozen 1; have x2 : w5.cell? ⟨wr.heap.size, 2, none⟩ = some (.string ⟨#[]⟩) := hX.out.cell 2; have xf2 := hX.out.frozen 2; have hE := Lib.hid (hE1.out.trans (hb.mono hE1.out.size)); have hC5 := hC.out.trans (hE.out.mono hC.out.size); replace hD := Lib.hid hD; have z0 := (hcel.out w5 hC5).1; have z1 : w5.cell? ⟨gi, k * 6, none⟩ = some (.bool false) := (hcel.out w5 hC5).2 0 _ rfl; have z2 : w5.cell? ⟨gi, k * 6 + 1, none⟩ = some (.string (natS y.1.1)) := (hcel.out w5 hC5).2 1 _ rfl; have z3 : w5.cell? ⟨gi, k * 6 + 2, none⟩ = some (.string (natS y.1.2)) := (hcel.out w5 hC5).2 2 _ rfl; have z4 : w5.cell? ⟨gi, k * 6 + 3, none⟩ = some (.bool false) := (hcel.out w5 hC5).2 3 _ rfl; have z5 : w5.cell? ⟨gi, k * 6 + 4, none⟩ = some (.string (natS y.2.1)) := (hcel.out w5 hC5).2 4 _ rfl; have z6 : w5.cell? ⟨gi, k * 6 + 5, none⟩ = some (.string (natS y.2.2)) := (hcel.out w5 hC5).2 5 _ rfl; clear hb hC5))
              · have kD := Lib.hid (Blk.new w5 26 #[.bool ds, .string da, .string db])
                have hE5 := Lib.hid (show Below wr.heap.size wr (w5.alloc (.cells #[.bool ds, .string da, .string db] 26)) from hE.out.alloc hE.out.size _)
                have hgD := Lib.hid hE.out.size
                go_wp2_with fail
                go_meet
                case rel => exact ⟨_, ds, da, db, rfl, rfl, kD, hD, hgD, hE5⟩
              · have kD := Lib.hid (show Blk (((w5.setCell ⟨wr.heap.size, 0, none⟩ (.bool ds)).setCell ⟨wr.heap.size, 1, none⟩ (.string da)).setCell ⟨wr.heap.size, 2, none⟩ (.string db)) wr.heap.size 26 #[.bool ds, .string da, .string db] from ((hX.out.set_ 0 (.bool ds)).set_ 1 (.string da)).set_ 2 (.string db))
                have hE5 := Lib.hid (show Below wr.heap.size wr (((w5.setCell ⟨wr.heap.size, 0, none⟩ (.bool ds)).setCell ⟨wr.heap.size, 1, none⟩ (.string da)).setCell ⟨wr.heap.size, 2, none⟩ (.string db)) from ((hE.out.setCell (p := ⟨wr.heap.size, 0, none⟩) (by simp) _).setCell (p := ⟨wr.heap.size, 1, none⟩) (by simp) _).setCell (p := ⟨wr.heap.size, 2, none⟩) (by simp) _)
                go_wp2_with fail
                go_meet
                case rel => exact ⟨_, ds, da, db, rfl, rfl, kD, hD, Lib.hid (Nat.le_refl _), hE5⟩
            obtain ⟨gD, ds, da, db, rfl, rfl, kD, hD, hgD, hE⟩ := hcut
            have hgDS := Lib.hid (Nat.lt_of_lt_of_le kS.out.lt hgD.out)
            have hgDW := Lib.hid (Nat.lt_of_lt_of_le kW.out.lt hgD.out)
            have hgDC := Lib.hid (Nat.le_trans hsz.out hgD.out)
            replace kS := Lib.hid (Blk.below kS.out hE.out)
            replace kW := Lib.hid (Blk.below kW.out hE.out)
            replace hC := Lib.hid (hC.out.trans (hE.out.mono hC.out.size))
            replace hB := Lib.hid (hB.out.trans (hE.out.mono hB.out.size))
            clear c0 p0 p1 p2 p3 p4 p5 hE hgD
            obtain ⟨cc, hcc⟩ : ∃ x, x = cmpI (y.2.1 * y.1.2) (y.1.1 * y.2.2) := ⟨_, rfl⟩
            have hcu : cc ≤ 0 ↔ un M y.2 ≤ un M y.1 := by rw [hcc]; exact cmp_un hyo.out.b hyo.out.a hM0.out hyo.out.db hyo.out.da
            have cM : ∀ d os, Calls Tryz.prog 33 #[.agg #[.bool false, .string (natS y.2.1), .string (natS y.2.2)], .agg #[.bool false, .string (natS y.1.1), .string (natS y.1.2)]] (grow (redrawn wc d) os) fun e w'' => e = .returned (.tuple #[.int .i64 cc, .int .i64 0]) ∧ ∃ p : Regrown, w'' = grow (redrawn wc p.d) p.os := fun d os => by
              have h := cCmp.out y (grow (redrawn wc d) os) hyo.out
              rw [← hcc] at h
              exact Calls.regrown_of h
            replace hcc := Lib.hid hcc
            have c0r : ∀ d os, (grow (redrawn wc d) os).cell? ⟨gu, i, none⟩ = some (.slice (some ⟨gi, 0, none⟩) mi ci) := cell_regrown (hcel.out wc hC.out).1
            have p0 : ∀ d os, (grow (redrawn wc d) os).cell? ⟨gi, k * 6, none⟩ = some (.bool false) := cell_regrown ((hcel.out wc hC.out).2 0 _ rfl)
            have p1 : ∀ d os, (grow (redrawn wc d) os).cell? ⟨gi, k * 6 + 1, none⟩ = some (.string (natS y.1.1)) := cell_regrown ((hcel.out wc hC.out).2 1 _ rfl)
            have p2 : ∀ d os, (grow (redrawn wc d) os).cell? ⟨gi, k * 6 + 2, none⟩ = some (.string (natS y.1.2)) := cell_regrown ((hcel.out wc hC.out).2 2 _ rfl)
            have p3 : ∀ d os, (grow (redrawn wc d) os).cell? ⟨gi, k * 6 + 3, none⟩ = some (.bool false) := cell_regrown ((hcel.out wc hC.out).2 3 _ rfl)
            have p4 : ∀ d os, (grow (redrawn wc d) os).cell? ⟨gi, k * 6 + 4, none⟩ = some (.string (natS y.2.1)) := cell_regrown ((hcel.out wc hC.out).2 4 _ rfl)
            have p5 : ∀ d os, (grow (redrawn wc d) os).cell? ⟨gi, k * 6 + 5, none⟩ = some (.string (natS y.2.2)) := cell_regrown ((hcel.out wc hC.out).2 5 _ rfl)
            replace hcu := Lib.hid hcu
            go_upto_region 21 with fail
            refine wp_region_quiet_below (by kernel_rfl) (by kernel_rfl) ?_
            iterate 16 (quiet_step (fail))
            quiet_step (exact cM _ _)
            iterate 5 (quiet_step (fail))
            refine wpQuiet_nil ?_
            intro w6 hw'
            have hE : Hid (Below wc.heap.size wc w6) := Lib.hid (by
              obtain ⟨p, rfl⟩ := hw'
              exact below_regrown wc p.d p.os)
            replace kS := Lib.hid (Blk.below kS.out hE.out)
            replace kW := Lib.hid (Blk.below kW.out hE.out)
            replace hC := Lib.hid (hC.out.trans (hE.out.mono hC.out.size))
            replace hB := Lib.hid (hB.out.trans (hE.out.mono hB.out.size))
            replace kD := Lib.hid (Blk.below kD.out hE.out)
            clear hw' hE c0r cM p0 p1 p2 p3 p4 p5
            have hdif := Lib.hid (arcU_eq hyo.out hM0.out)
            have hun : un M y.1 < M ∧ un M y.2 < M := ⟨un_lt hyo.out.a hM0.out hyo.out.da, un_lt hyo.out.b hM0.out hyo.out.db⟩
            replace hun := Lib.hid hun
            go_upto_region 22 with fail
            by_cases hcz : cc ≤ 0
            case neg =>
              have hD2 : Hid (FrV M ds da db (arcU M y : Int)) := Lib.hid (by
                rw [hdif.out, if_neg (fun h => hcz (hcu.out.2 h))]; exact hD.out)
              replace hD := hD2
              clear hD2 hcu hdif hun
              have s0 : w6.cell? ⟨gS, 0, none⟩ = some (.bool ss) := kS.out.cell 0
              have s1 : w6.cell? ⟨gS, 1, none⟩ = some (.string sa) := kS.out.cell 1
              have s2 : w6.cell? ⟨gS, 2, none⟩ = some (.string sb) := kS.out.cell 2
              have d0 : w6.cell? ⟨gD, 0, none⟩ = some (.bool ds) := kD.out.cell 0
              have d1 : w6.cell? ⟨gD, 1, none⟩ = some (.string da) := kD.out.cell 1
              have d2 : w6.cell? ⟨gD, 2, none⟩ = some (.string db) := kD.out.cell 2
              have hcA := Lib.hid (cAdd.out ss ds sa sb da db _ _ w6 hF.out hD.out (by have := hP0.out k; omega) (by have := hP0.out (k + 1); rw [hPk.out] at this; omega))
              go_wp2_with fail
              refine hcA.out.mono ?_
              rintro en w8 ⟨fs, fa, fb, rfl, hF2, hb⟩
              have hE := Lib.hid hb
              replace kS := Lib.hid (Blk.below kS.out hE.out)
              replace kW := Lib.hid (Blk.below kW.out hE.out)
              replace hC := Lib.hid (hC.out.trans (hE.out.mono hC.out.size))
              replace hB := Lib.hid (hB.out.trans (hE.out.mono hB.out.size))
              have hF3 : Hid (FrV M fs fa fb (preU M G i (k + 1) : Int)) := Lib.hid (by rw [hPk.out, Int.natCast_add]; exact hF2)
              clear hb hE hF2 hcA s0 s1 s2 d0 d1 d2 kD
              have s0 : w8.cell? ⟨gS, 0, none⟩ = some (.bool ss) := kS.out.cell 0
              have s1 : w8.cell? ⟨gS, 1, none⟩ = some (.string sa) := kS.out.cell 1
              have s2 : w8.cell? ⟨gS, 2, none⟩ = some (.string sb) := kS.out.cell 2
              have f0 := kS.out.frozen 0
              have f1 := kS.out.frozen 1
              have f2 := kS.out.frozen 2
              have kS2 := Lib.hid (show Blk (((w8.setCell ⟨gS, 0, none⟩ (.bool fs)).setCell ⟨gS, 1, none⟩ (.string fa)).setCell ⟨gS, 2, none⟩ (.string fb)) gS 26 #[.bool fs, .string fa, .string fb] from ((kS.out.set_ 0 (.bool fs)).set_ 1 (.string fa)).set_ 2 (.string fb))
              have kW2 := Lib.hid (show Blk (((w8.setCell ⟨gS, 0, none⟩ (.bool fs)).setCell ⟨gS, 1, none⟩ (.string fa)).setCell ⟨gS, 2, none⟩ (.string fb)) gW 26 #[.bool false, .string (natS 1), .string (natS 1)] from blk_set3 kW.out (Nat.ne_of_gt hSW.out))
              have hC2 := Lib.hid (show Below w3.heap.size w3 (((w8.setCell ⟨gS, 0, none⟩ (.bool fs)).setCell ⟨gS, 1, none⟩ (.string fa)).setCell ⟨gS, 2, none⟩ (.string fb)) from ((hC.out.setCell (p := ⟨gS, 0, none⟩) hgS.out _).setCell (p := ⟨gS, 1, none⟩) hgS.out _).setCell (p := ⟨gS, 2, none⟩) hgS.out _)
              have hgSB := Nat.le_trans hw30.out hgS.out
              have hB2 := Lib.hid (show Below w.heap.size w (((w8.setCell ⟨gS, 0, none⟩ (.bool fs)).setCell ⟨gS, 1, none⟩ (.string fa)).setCell ⟨gS, 2, none⟩ (.string fb)) from ((hB.out.setCell (p := ⟨gS, 0, none⟩) hgSB _).setCell (p := ⟨gS, 1, none⟩) hgSB _).setCell (p := ⟨gS, 2, none⟩) hgSB _)
              clear kS kW hC hB hgSB hF
              have hw2 := hw2.out
              go_wp2_with fail
              go_roundg (mi - (k + 1))
              case measure => omega
              case rel => exact ⟨k + 1, fs, fa, fb, by simp, by omega, Nat.le_refl _, kS2, hF3, kW2, hC2, hB2⟩
            case pos =>
              have d0 : w6.cell? ⟨gD, 0, none⟩ = some (.bool ds) := kD.out.cell 0
              have d1 : w6.cell? ⟨gD, 1, none⟩ = some (.string da) := kD.out.cell 1
              have d2 : w6.cell? ⟨gD, 2, none⟩ = some (.string db) := kD.out.cell 2
              have o0 : w6.cell? ⟨gW, 0, none⟩ = some (.bool false) := kW.out.cell 0
              have o1 : w6.cell? ⟨gW, 1, none⟩ = some (.string (natS 1)) := kW.out.cell 1
              have o2 : w6.cell? ⟨gW, 2, none⟩ = some (.string (natS 1)) := kW.out.cell 2
              have hle := hcu.out.1 hcz
              have hcA := Lib.hid (cAdd.out ds false da db (natS 1) (natS 1) _ _ w6 hD.out (FrV.one M) (by have := hun.out; omega) (by omega))
              replace hle := Lib.hid hle
              go_wp2_with fail
              refine hcA.out.mono ?_
              rintro en w7 ⟨es, ea, eb, rfl, hF2, hb⟩
              have hE := Lib.hid hb
              replace kS := Lib.hid (Blk.below kS.out hE.out)
              replace kW := Lib.hid (Blk.below kW.out hE.out)
              replace hC := Lib.hid (hC.out.trans (hE.out.mono hC.out.size))
              replace hB := Lib.hid (hB.out.trans (hE.out.mono hB.out.size))
              replace kD := Lib.hid (Blk.below kD.out hE.out)
              have hD2 : Hid (FrV M es ea eb (arcU M y : Int)) := Lib.hid (by rw [hdif.out, if_pos hle.out]; exact hF2)
              clear hb hE hF2 hcA d0 d1 d2 o0 o1 o2
              have d0 : w7.cell? ⟨gD, 0, none⟩ = some (.bool ds) := kD.out.cell 0
              have d1 : w7.cell? ⟨gD, 1, none⟩ = some (.string da) := kD.out.cell 1
              have d2 : w7.cell? ⟨gD, 2, none⟩ = some (.string db) := kD.out.cell 2
              have f0 := kD.out.frozen 0
              have f1 := kD.out.frozen 1
              have f2 := kD.out.frozen 2
              have kD2 := Lib.hid (show Blk (((w7.setCell ⟨gD, 0, none⟩ (.bool es)).setCell ⟨gD, 1, none⟩ (.string ea)).setCell ⟨gD, 2, none⟩ (.string eb)) gD 26 #[.bool es, .string ea, .string eb] from ((kD.out.set_ 0 (.bool es)).set_ 1 (.string ea)).set_ 2 (.string eb))
              have kS2 := Lib.hid (show Blk (((w7.setCell ⟨gD, 0, none⟩ (.bool es)).setCell ⟨gD, 1, none⟩ (.string ea)).setCell ⟨gD, 2, none⟩ (.string eb)) gS 26 #[.bool ss, .string sa, .string sb] from blk_set3 kS.out (Nat.ne_of_lt hgDS.out))
              have kW2 := Lib.hid (show Blk (((w7.setCell ⟨gD, 0, none⟩ (.bool es)).setCell ⟨gD, 1, none⟩ (.string ea)).setCell ⟨gD, 2, none⟩ (.string eb)) gW 26 #[.bool false, .string (natS 1), .string (natS 1)] from blk_set3 kW.out (Nat.ne_of_lt hgDW.out))
              have hC2 := Lib.hid (show Below w3.heap.size w3 (((w7.setCell ⟨gD, 0, none⟩ (.bool es)).setCell ⟨gD, 1, none⟩ (.string ea)).setCell ⟨gD, 2, none⟩ (.string eb)) from ((hC.out.setCell (p := ⟨gD, 0, none⟩) hgDC.out _).setCell (p := ⟨gD, 1, none⟩) hgDC.out _).setCell (p := ⟨gD, 2, none⟩) hgDC.out _)
              have hgDB := Nat.le_trans hw30.out hgDC.out
              have hB2 := Lib.hid (show Below w.heap.size w (((w7.setCell ⟨gD, 0, none⟩ (.bool es)).setCell ⟨gD, 1, none⟩ (.string ea)).setCell ⟨gD, 2, none⟩ (.string eb)) from ((hB.out.setCell (p := ⟨gD, 0, none⟩) hgDB _).setCell (p := ⟨gD, 1, none⟩) hgDB _).setCell (p := ⟨gD, 2, none⟩) hgDB _)
              clear kD kS kW hC hB hgDB hD hcu hdif hun hle
              go_upto_region 24 with fail
              generalize hW : (((w7.setCell ⟨gD, 0, none⟩ (.bool es)).setCell ⟨gD, 1, none⟩ (.string ea)).setCell ⟨gD, 2, none⟩ (.string eb)) = w7b at kD2 kS2 kW2 hC2 hB2 ⊢
              clear hW
              have kD := kD2
              have kS := kS2
              have kW := kW2
              have hC := hC2
              have hB := hB2
              have hD := hD2
              clear kD2 kS2 kW2 hC2 hB2 hD2
              clear d0 d1 d2 f0 f1 f2
              have s0 : w7b.cell? ⟨gS, 0, none⟩ = some (.bool ss) := kS.out.cell 0
              have s1 : w7b.cell? ⟨gS, 1, none⟩ = some (.string sa) := kS.out.cell 1
              have s2 : w7b.cell? ⟨gS, 2, none⟩ = some (.string sb) := kS.out.cell 2
              have d0 : w7b.cell? ⟨gD, 0, none⟩ = some (.bool es) := kD.out.cell 0
              have d1 : w7b.cell? ⟨gD, 1, none⟩ = some (.string ea) := kD.out.cell 1
              have d2 : w7b.cell? ⟨gD, 2, none⟩ = some (.string eb) := kD.out.cell 2
              have hcA := Lib.hid (cAdd.out ss es sa sb ea eb _ _ w7b hF.out hD.out (by have := hP0.out k; omega) (by have := hP0.out (k + 1); rw [hPk.out] at this; omega))
              go_wp2_with fail
              refine hcA.out.mono ?_
              rintro en w8 ⟨fs, fa, fb, rfl, hF2, hb⟩
              have hE := Lib.hid hb
              replace kS := Lib.hid (Blk.below kS.out hE.out)
              replace kW := Lib.hid (Blk.below kW.out hE.out)
              replace hC := Lib.hid (hC.out.trans (hE.out.mono hC.out.size))
              replace hB := Lib.hid (hB.out.trans (hE.out.mono hB.out.size))
              have hF3 : Hid (FrV M fs fa fb (preU M G i (k + 1) : Int)) := Lib.hid (by rw [hPk.out, Int.natCast_add]; exact hF2)
              clear hb hE hF2 hcA s0 s1 s2 d0 d1 d2 kD
              have s0 : w8.cell? ⟨gS, 0, none⟩ = some (.bool ss) := kS.out.cell 0
              have s1 : w8.cell? ⟨gS, 1, none⟩ = some (.string sa) := kS.out.cell 1
              have s2 : w8.cell? ⟨gS, 2, none⟩ = some (.string sb) := kS.out.cell 2
              have f0 := kS.out.frozen 0
              have f1 := kS.out.frozen 1
              have f2 := kS.out.frozen 2
              have kS2 := Lib.hid (show Blk (((w8.setCell ⟨gS, 0, none⟩ (.bool fs)).setCell ⟨gS, 1, none⟩ (.string fa)).setCell ⟨gS, 2, none⟩ (.string fb)) gS 26 #[.bool fs, .string fa, .string fb] from ((kS.out.set_ 0 (.bool fs)).set_ 1 (.string fa)).set_ 2 (.string fb))
              have kW2 := Lib.hid (show Blk (((w8.setCell ⟨gS, 0, none⟩ (.bool fs)).setCell ⟨gS, 1, none⟩ (.string fa)).setCell ⟨gS, 2, none⟩ (.string fb)) gW 26 #[.bool false, .string (natS 1), .string (natS 1)] from blk_set3 kW.out (Nat.ne_of_gt hSW.out))
              have hC2 := Lib.hid (show Below w3.heap.size w3 (((w8.setCell ⟨gS, 0, none⟩ (.bool fs)).setCell ⟨gS, 1, none⟩ (.string fa)).setCell ⟨gS, 2, none⟩ (.string fb)) from ((hC.out.setCell (p := ⟨gS, 0, none⟩) hgS.out _).setCell (p := ⟨gS, 1, none⟩) hgS.out _).setCell (p := ⟨gS, 2, none⟩) hgS.out _)
              have hgSB := Nat.le_trans hw30.out hgS.out
              have hB2 := Lib.hid (show Below w.heap.size w (((w8.setCell ⟨gS, 0, none⟩ (.bool fs)).setCell ⟨gS, 1, none⟩ (.string fa)).setCell ⟨gS, 2, none⟩ (.string fb)) from ((hB.out.setCell (p := ⟨gS, 0, none⟩) hgSB _).setCell (p := ⟨gS, 1, none⟩) hgSB _).setCell (p := ⟨gS, 2, none⟩) hgSB _)
              clear kS kW hC hB hgSB hF
              have hw2 := hw2.out
              go_wp2_with fail
              go_roundg (mi - (k + 1))
              case measure => omega
              case rel => exact ⟨k + 1, fs, fa, fb, by simp, by omega, Nat.le_refl _, kS2, hF3, kW2, hC2, hB2⟩
end Go.Proofs.YtoaggmegmgdgbaaGreat
