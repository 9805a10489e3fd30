import Derived.Test.YtoaggmegmgdgbaaGreatRRise
import Derived.Test.YtoaggmegmgdgbaaGreatTail
import Derived.Test.YtoaggmegmgdgbaaGreatNestR
import Derived.Test.YtoaggmegmgdgbaaGreatRPutB
import Derived.Test.YtoaggmegmgdgbaaGreatGrd
import Derived.Test.YtoaggmegmgdgbaaGreatLeavF
import Derived.Test.YtoaggmegmgdgbaaGreatLamL
namespace Go.Proofs.YtoaggmegmgdgbaaGreat
open Go.RowKit Go.Sort
theorem putS_len (L : List Lf) (l : Lf) : (putS L l).length ≤ L.length + 1 := by
  unfold putS
  split
  · omega
  · rw [putL_length (plcL_le L l)]; exact Nat.le_refl _
theorem foldl_putS_len : ∀ (l L : List Lf), (l.foldl putS L).length ≤ L.length + l.length
  | [], L => by simp
  | a :: r, L => by
    have h1 := foldl_putS_len r (putS L a)
    have h2 := putS_len L a
    rw [List.foldl_cons, List.length_cons]
    omega
set_option maxRecDepth 100000 in
set_option maxHeartbeats 8000000 in
theorem rhull_any (B : Nat) (v : Value) (L : List PT) (w : World) (hv : QRow w B v L) (hM : ∀ p, p ∈ L → Ang p) (hlen : L.length ≤ 4000) :
    Calls Tryz.prog 14 #[v] w (fun e w' => ∃ v', e = .returned v' ∧ RRow w' w.heap.size v' (hullL (riseL L)) ∧ Below w.heap.size w w') := by
  have hE0 := Lib.hid (riseL_rises hM)
  have hEa : ∀ p, p ∈ riseL L → Ang p := fun p hp => hM p (riseL_mem.1 hp)
  have hEl := riseL_len L
  have cR := Lib.hid (rrising_any B v L w hv hM (by omega))
  obtain ⟨E, hE⟩ : ∃ E, E = riseL L := ⟨_, rfl⟩
  rw [← hE] at cR hE0 hEa hEl ⊢
  obtain ⟨n, hn⟩ : ∃ n, n = E.length := ⟨_, rfl⟩
  rw [← hn] at hEl
  have hn4 : n ≤ 4000 := by omega
  replace hEa := Lib.hid hEa
  obtain ⟨A, c, rfl, -⟩ := QRow.form hv
  have hRaw : Hid (hullRaw E = ((List.range (n - 1)).map fun k => mkL E[k]! E[k + 1]!) ++ (if 2 < n then [mkL E[0]! E[n - 1]!] else [])) := Lib.hid (by unfold hullRaw; rw [← hn])
  have hang : Hid (∀ k, k < n → Ang E[k]!) := Lib.hid (fun k hk => hEa.out _ (by rw [getElem!_pos E k (by omega)]; exact List.getElem_mem _))
  have hmk : Hid (∀ a b, a < b → b < n → mkL E[a]! E[b]! = (E[a]!, E[b]!)) := Lib.hid (fun a b h1 h2 => mkL_ky (hang.out a (by omega)) (hang.out b h2) (rise_ky hEa.out hE0.out h1 (by omega)))
  have hFa : Hid (∀ i, i + 1 ≤ n ∨ i = 0 → ∀ m, m ∈ ((List.range i).map fun k => mkL E[k]! E[k + 1]!) → AngL m) := Lib.hid (fun i hi m hm => by
    obtain ⟨k, hk, rfl⟩ := List.mem_map.1 hm
    rw [List.mem_range] at hk
    rw [hmk.out k (k + 1) (Nat.lt_succ_self k) (by omega)]
    exact ⟨hang.out k (by omega), hang.out (k + 1) (by omega)⟩)
  have hput : Hid (∀ (i : Nat) (u : Value) (p q : PT) W, i + 1 ≤ n ∨ i = 0 → Ang p → Ang q → RRow W w.heap.size u (((List.range i).map fun k => mkL E[k]! E[k + 1]!).foldl putS []) → w.heap.size ≤ W.heap.size → Calls Tryz.prog 63 #[u, .agg #[.int .u64 (p.1 : Int), .int .u64 (p.2 : Int), .int .u64 (q.1 : Int), .int .u64 (q.2 : Int)]] W fun e w' => ∃ v', e = .returned v' ∧ RRow w' w.heap.size v' (putS (((List.range i).map fun k => mkL E[k]! E[k + 1]!).foldl putS []) (p, q)) ∧ Below W.heap.size W w') := Lib.hid (fun i u p q W hi hp hq h1 h2 => by
    have hf := foldl_putS ((List.range i).map fun k => mkL E[k]! E[k + 1]!) up_nil (hFa.out i hi)
    have hl := foldl_putS_len ((List.range i).map fun k => mkL E[k]! E[k + 1]!) []
    rw [List.length_map, List.length_range] at hl
    exact rlput_any w.heap.size u _ (p, q) W h1 h2 hf.1.1 ⟨hp, hq⟩ hf.1.2 (by rw [List.length_nil] at hl; omega))
  replace hE := Lib.hid hE
  replace hn := Lib.hid hn
  clear hv hM hFa hEl
  go_enter Tryz.func14, Tryz.ntmps14
  go_wp2_with fail
  refine cR.out.mono ?_
  rintro en w2 ⟨v2, rfl, hQ, hb⟩
  have hQ2 := Lib.hid hQ
  have hB := Lib.hid hb
  clear hb hQ cR
  obtain ⟨AE, cE, rfl, hAE⟩ := QRow.form hQ2.out
  rw [← hn.out] at hQ2 hAE ⊢
  go_wp2_with fail
  go_loopg [4, 3] n (fun kx s4 s3 wr => ∃ (i : Nat) (v3 : Value), s4 = .int .i64 (i : Int) ∧ v3 = s3 ∧ (i + 1 ≤ n ∨ i = 0) ∧ n - (i + 1) ≤ kx ∧ Hid (RRow wr w.heap.size v3 (((List.range i).map fun k => mkL E[k]! E[k + 1]!).foldl putS [])) ∧ Hid (QRow wr w.heap.size (.slice AE n cE) E) ∧ Hid (Below w.heap.size w wr))
  case atStart => exact ⟨0, _, rfl, rfl, .inr rfl, by omega, Lib.hid (World.ownsRow_nil _ _ _ _), hQ2, hB⟩
  case round =>
    clear hQ2 hB
    obtain ⟨i, v3, rfl, rfl, hin, hg, hR, hQ, hB⟩ := hrel
    have hw1 : IntKind.i64.wrap ((i : Int) + 1) = (i : Int) + 1 := by rw [IntKind.wrap_i64]; omega
    by_cases hlt : i + 1 < n
    case pos =>
      have hil : i + 1 < E.length := by rw [← hn.out]; exact hlt
      obtain ⟨g, rfl⟩ := hAE (by omega)
      obtain ⟨p, hp⟩ : ∃ m, m = E[i]! := ⟨_, rfl⟩
      obtain ⟨q, hq⟩ : ∃ m, m = E[i + 1]! := ⟨_, rfl⟩
      have hCp := QRow.cell hQ.out (show i < E.length by omega)
      have hCq := QRow.cell hQ.out hil
      rw [← hp] at hCp
      rw [← hq] at hCq
      have p0 : ∀ d os, (grow (redrawn wr d) os).cell? ⟨g, i * 2, none⟩ = some (.int .u64 (p.1 : Int)) := cell_regrown (hCp 0 _ rfl)
      have p1 : ∀ d os, (grow (redrawn wr d) os).cell? ⟨g, i * 2 + 1, none⟩ = some (.int .u64 (p.2 : Int)) := cell_regrown (hCp 1 _ rfl)
      have q0 : ∀ d os, (grow (redrawn wr d) os).cell? ⟨g, (i + 1) * 2, none⟩ = some (.int .u64 (q.1 : Int)) := cell_regrown (hCq 0 _ rfl)
      have q1 : ∀ d os, (grow (redrawn wr d) os).cell? ⟨g, (i + 1) * 2 + 1, none⟩ = some (.int .u64 (q.2 : Int)) := cell_regrown (hCq 1 _ rfl)
      have hiz : (i : Int) + 1 < (n : Int) := by omega
      have hs4 : ((i : Int) + 1).toNat = i + 1 := by omega
      have hs5 : (0 : Int) ≤ (i : Int) + 1 := by omega
      have hs6 : (i : Int) < (n : Int) := by omega
      have hpA : Ang p := by rw [hp]; exact hang.out i (by omega)
      have hqA : Ang q := by rw [hq]; exact hang.out (i + 1) (by omega)
      have hsn : Hid (((List.range (i + 1)).map fun k => mkL E[k]! E[k + 1]!).foldl putS [] = putS (((List.range i).map fun k => mkL E[k]! E[k + 1]!).foldl putS []) (p, q)) := Lib.hid (by
        rw [List.range_succ, List.map_append, List.foldl_append, List.map_singleton, hmk.out i (i + 1) (Nat.lt_succ_self i) hlt, ← hp, ← hq]; rfl)
      replace hp := Lib.hid hp
      replace hq := Lib.hid hq
      clear hCp hCq hil
      go_upto_region 6 with fail
      refine wp_region_tail_below 11 (by kernel_rfl) (by kernel_rfl) ?_
      simp only [List.take_succ_cons, List.take_zero, List.drop_succ_cons, List.drop_zero]
      iterate 11 (quiet_step (fail))
      refine wpQuiet_nil ?_
      intro w3 hb2
      have hR3 := Lib.hid (RRow.below hR.out hb2)
      have hQ3 := Lib.hid (QRow.below hQ.out hb2)
      have hB3 := Lib.hid (hB.out.trans (hb2.mono hB.out.size))
      have cP := Lib.hid (hput.out i v3 p q w3 hin hpA hqA hR3.out hB3.out.size)
      rw [← hsn.out] at cP
      clear hb2 p0 p1 q0 q1 hR hQ hB hR3 hpA hqA
      go_wp2_with fail
      refine cP.out.mono ?_
      rintro en w4 ⟨v4, rfl, hR4, hb4⟩
      replace hR4 := Lib.hid hR4
      have hQ4 := Lib.hid (QRow.below hQ3.out hb4)
      have hB4 := Lib.hid (hB3.out.trans (hb4.mono hB3.out.size))
      clear hb4 cP hQ3 hB3
      go_wp2_with fail
      go_roundg (n - (i + 1 + 1))
      case measure => omega
      case rel => exact ⟨i + 1, v4, by simp, rfl, by omega, Nat.le_refl _, hR4, hQ4, hB4⟩
    case neg =>
      have hi1 : i = n - 1 := by omega
      have hiz : ¬ (i : Int) + 1 < (n : Int) := by omega
      by_cases hn2 : 2 < n
      case neg =>
        have hfin : Hid (RRow wr w.heap.size v3 (hullL E)) := Lib.hid (by
          rw [hullL, hRaw.out, if_neg hn2, List.append_nil, ← hi1]
          exact hR.out)
        have hn2z : ¬ (2 : Int) < (n : Int) := by omega
        clear hR hQ hRaw hmk hang hput hi1 hg hin
        go_wp2_with fail
        go_ret
        exact ⟨_, rfl, hfin.out, hB.out⟩
      case pos =>
        obtain ⟨g, rfl⟩ := hAE (by omega)
        obtain ⟨p, hp⟩ : ∃ m, m = E[0]! := ⟨_, rfl⟩
        obtain ⟨q, hq⟩ : ∃ m, m = E[n - 1]! := ⟨_, rfl⟩
        have hCp := QRow.cell hQ.out (show 0 < E.length by rw [← hn.out]; omega)
        have hCq := QRow.cell hQ.out (show n - 1 < E.length by rw [← hn.out]; omega)
        rw [← hp] at hCp
        rw [← hq] at hCq
        have p0 : ∀ d os, (grow (redrawn wr d) os).cell? ⟨g, 0, none⟩ = some (.int .u64 (p.1 : Int)) := cell_regrown (by have h := hCp 0 _ rfl; simpa using h)
        have p1 : ∀ d os, (grow (redrawn wr d) os).cell? ⟨g, 1, none⟩ = some (.int .u64 (p.2 : Int)) := cell_regrown (by have h := hCp 1 _ rfl; simpa using h)
        have q0 : ∀ d os, (grow (redrawn wr d) os).cell? ⟨g, (n - 1) * 2, none⟩ = some (.int .u64 (q.1 : Int)) := cell_regrown (hCq 0 _ rfl)
        have q1 : ∀ d os, (grow (redrawn wr d) os).cell? ⟨g, (n - 1) * 2 + 1, none⟩ = some (.int .u64 (q.2 : Int)) := cell_regrown (hCq 1 _ rfl)
        have hn2z : (2 : Int) < (n : Int) := by omega
        have hn0z : (0 : Int) < (n : Int) := by omega
        have hn0 : 0 < n := by omega
        have hs3 : IntKind.i64.wrap ((n : Int) - 1) = (n : Int) - 1 := by rw [IntKind.wrap_i64]; omega
        have hs4 : ((n : Int) - 1).toNat = n - 1 := by omega
        have hs5 : (0 : Int) ≤ (n : Int) - 1 := by omega
        have hs6 : (n : Int) - 1 < (n : Int) := by omega
        have hs7 : (1 : Int) ≤ (n : Int) := by omega
        have hs8 : 1 ≤ n := by omega
        have hpA : Ang p := by rw [hp]; exact hang.out 0 (by omega)
        have hqA : Ang q := by rw [hq]; exact hang.out (n - 1) (by omega)
        have hsn : Hid (hullL E = putS (((List.range i).map fun k => mkL E[k]! E[k + 1]!).foldl putS []) (p, q)) := Lib.hid (by
          rw [hullL, hRaw.out, if_pos hn2, List.foldl_append, ← hi1, hi1, hmk.out 0 (n - 1) (by omega) (by omega), ← hp, ← hq, ← hi1]; rfl)
        replace hp := Lib.hid hp
        replace hq := Lib.hid hq
        replace hi1 := Lib.hid hi1
        clear hCp hCq hRaw
        go_upto_region 8 with fail
        refine wp_region_tail_below 11 (by kernel_rfl) (by kernel_rfl) ?_
        simp only [List.take_succ_cons, List.take_zero, List.drop_succ_cons, List.drop_zero]
        iterate 11 (quiet_step (fail))
        refine wpQuiet_nil ?_
        intro w3 hb2
        have hR3 := Lib.hid (RRow.below hR.out hb2)
        have hB3 := Lib.hid (hB.out.trans (hb2.mono hB.out.size))
        have cP := Lib.hid (hput.out i v3 p q w3 hin hpA hqA hR3.out hB3.out.size)
        rw [← hsn.out] at cP
        clear hb2 p0 p1 q0 q1 hR hQ hB hR3 hpA hqA hs3 hs4 hs5 hs6 hs7 hs8
        go_wp2_with fail
        refine cP.out.mono ?_
        rintro en w4 ⟨v4, rfl, hR4, hb4⟩
        replace hR4 := Lib.hid hR4
        have hB4 := Lib.hid (hB3.out.trans (hb4.mono hB3.out.size))
        clear hb4 cP hB3
        go_wp2_with fail
        go_ret
        exact ⟨_, rfl, hR4.out, hB4.out⟩
end Go.Proofs.YtoaggmegmgdgbaaGreat
namespace Go.Proofs.YtoaggmegmgdgbaaGreat
open Go.RowKit Go.Sort Go.Maps
set_option maxRecDepth 100000 in
set_option maxHeartbeats 8000000 in
theorem lsameGroups_eq (B B2 : Nat) (u v : Value) (us vs : List Value) (G : List (List PT)) (w : World) (hu : NestR w B 22 26 3 encP u us G) (hv : NestR w B2 31 42 2 enc2 v vs G) (hA : ∀ g, g ∈ G → ∀ p, p ∈ g → Ang p) (hl : G.length ≤ 8192) (hx : ∀ g, g ∈ G → g.length ≤ 8192) :
    Calls Tryz.prog 57 #[u, v] w (RetVal (.bool true) w) := by
  have hU0 : Hid (∀ W, Below w.heap.size w W → NestR W B 22 26 3 encP u us G) := Lib.hid (fun W hb => hu.below hb)
  have hV0 : Hid (∀ W, Below w.heap.size w W → NestR W B2 31 42 2 enc2 v vs G) := Lib.hid (fun W hb => hv.below hb)
  obtain ⟨n, hn⟩ : ∃ n, n = G.length := ⟨_, rfl⟩
  have hul : us.length = n := by rw [hu.len, hn]
  have hvl : vs.length = n := by rw [hv.len, hn]
  obtain ⟨Au, cu, rfl, -, hAu⟩ := own_form hu.row
  obtain ⟨Av, cv, rfl, -, hAv⟩ := own_form hv.row
  rw [hul] at hU0 hAu ⊢
  rw [hvl] at hV0 hAv ⊢
  rw [← hn] at hl
  have hxl : Hid (∀ i, i < n → G[i]!.length ≤ 8192) := Lib.hid (fun i hi => hx _ (getBang_memP (by omega)))
  have hag : Hid (∀ i, i < n → ∀ p, p ∈ G[i]! → Ang p) := Lib.hid (fun i hi => hA _ (getBang_memP (by omega)))
  have hfu : Hid (∀ i, i < n → ∃ A c, us[i]! = .slice A G[i]!.length c ∧ (0 < G[i]!.length → ∃ g, A = some ⟨g, 0, none⟩)) := Lib.hid (fun i hi => by
    obtain ⟨A, c, h1, -, h2⟩ := own_form (hu.inn i (by omega))
    exact ⟨A, c, h1, h2⟩)
  have hfv : Hid (∀ i, i < n → ∃ A c, vs[i]! = .slice A G[i]!.length c ∧ (0 < G[i]!.length → ∃ g, A = some ⟨g, 0, none⟩)) := Lib.hid (fun i hi => by
    obtain ⟨A, c, h1, -, h2⟩ := own_form (hv.inn i (by omega))
    exact ⟨A, c, h1, h2⟩)
  have hB := Lib.hid (Below.refl w.heap.size w)
  replace hn := Lib.hid hn
  replace hAu := Lib.hid hAu
  replace hAv := Lib.hid hAv
  clear hu hv hx hA hul hvl
  go_enter Tryz.func57, Tryz.ntmps57
  go_wp2_with fail
  go_loopg [5] n (fun kx s5 wr => ∃ i : Nat, s5 = .int .i64 (i : Int) ∧ i ≤ n ∧ n - i ≤ kx ∧ Hid (Below w.heap.size w wr))
  case atStart => exact ⟨0, rfl, Nat.zero_le _, Nat.le_refl _, hB⟩
  case round =>
    clear hB
    obtain ⟨i, rfl, hin, hg, hB⟩ := hrel
    by_cases hlt : i < n
    case neg =>
      obtain rfl : n = i := by omega
      go_wp2_with fail
      go_ret
      exact ⟨rfl, hB.out⟩
    case pos =>
      obtain ⟨gu, hgu⟩ := hAu.out (by omega)
      subst hgu
      obtain ⟨gv, hgv⟩ := hAv.out (by omega)
      subst hgv
      have hiG : i < G.length := by rw [← hn.out]; exact hlt
      obtain ⟨Ai, ci, hui, hAi⟩ := hfu.out i hlt
      obtain ⟨Ci, di, hvi, hCi⟩ := hfv.out i hlt
      have hm8 := hxl.out i hlt
      obtain ⟨x, hx⟩ : ∃ x, x = G[i]! := ⟨_, rfl⟩
      have hxa : Hid (∀ p, p ∈ x → Ang p) := Lib.hid (by rw [hx]; exact hag.out i hlt)
      have hcu : Hid (∀ W, Below w.heap.size w W → W.cell? ⟨gu, i, none⟩ = some (.slice Ai x.length ci) ∧ ∀ g, Ai = some ⟨g, 0, none⟩ → ∀ k, k < x.length → ∀ (j : Nat) (v : Value), (encP x[k]!)[j]? = some v → W.cell? ⟨g, k * 3 + j, none⟩ = some v) := Lib.hid (fun W hb => by
        have h := hU0.out W hb
        rw [hx, ← hui]
        refine ⟨h.outer hiG, fun g e k hk => h.cell encP_len hiG (by rw [hui, e]) hk⟩)
      have hcv : Hid (∀ W, Below w.heap.size w W → W.cell? ⟨gv, i, none⟩ = some (.slice Ci x.length di) ∧ ∀ g, Ci = some ⟨g, 0, none⟩ → ∀ k, k < x.length → ∀ (j : Nat) (v : Value), (enc2 x[k]!)[j]? = some v → W.cell? ⟨g, k * 2 + j, none⟩ = some v) := Lib.hid (fun W hb => by
        have h := hV0.out W hb
        rw [hx, ← hvi]
        refine ⟨h.outer hiG, fun g e k hk => h.cell (fun _ => rfl) hiG (by rw [hvi, e]) hk⟩)
      rw [← hx] at hui hvi hAi hCi hm8
      obtain ⟨m, hm⟩ : ∃ m, m = x.length := ⟨_, rfl⟩
      rw [← hm] at hcu hcv hm8 hAi hCi
      have c0r : ∀ d os, (grow (redrawn wr d) os).cell? ⟨gu, i, none⟩ = some (.slice Ai m ci) := cell_regrown (hcu.out wr hB.out).1
      have c1r : ∀ d os, (grow (redrawn wr d) os).cell? ⟨gv, i, none⟩ = some (.slice Ci m di) := cell_regrown (hcv.out wr hB.out).1
      have hiz : (i : Int) < (n : Int) := by omega
      have hiz0 : (0 : Int) ≤ (i : Int) := by omega
      have hwi : Hid (IntKind.i64.wrap ((i : Int) + 1) = (i : Int) + 1) := Lib.hid (by rw [IntKind.wrap_i64]; omega)
      replace hx := Lib.hid hx
      replace hui := Lib.hid hui
      replace hvi := Lib.hid hvi
      replace hm := Lib.hid hm
      replace hAi := Lib.hid hAi
      replace hCi := Lib.hid hCi
      go_upto_region 6 with fail
      refine wp_region_quiet_below (by kernel_rfl) (by kernel_rfl) ?_
      iterate 11 (quiet_step (fail))
      refine wpQuiet_nil ?_
      intro w3 hw'
      replace hB : Hid (Below w.heap.size w w3) := Lib.hid (by
        obtain ⟨p, rfl⟩ := hw'
        exact hB.out.trans ((below_regrown wr p.d p.os).mono hB.out.size))
      clear hw' c0r c1r
      go_wp2_with fail
      go_loopg [6] m (fun kx s6 wr => ∃ k : Nat, s6 = .int .i64 (k : Int) ∧ k ≤ m ∧ m - k ≤ kx ∧ Hid (Below w.heap.size w wr))
      case atStart => exact ⟨0, rfl, Nat.zero_le _, Nat.le_refl _, hB⟩
      case round =>
        clear hB
        obtain ⟨k, rfl, hkm, hgk, hB⟩ := hrel
        have c1 := (hcv.out wr hB.out).1
        by_cases hlk : k < m
        case neg =>
          obtain rfl : m = k := by omega
          have hwi := hwi.out
          go_wp2_with fail
          go_roundg (n - (i + 1))
          case measure => omega
          case rel => exact ⟨i + 1, by simp, by omega, Nat.le_refl _, hB⟩
        case pos =>
          obtain ⟨gi, hgi⟩ := hAi.out (by omega)
          subst hgi
          obtain ⟨gj, hgj⟩ := hCi.out (by omega)
          subst hgj
          have hkx : k < x.length := by rw [← hm.out]; exact hlk
          obtain ⟨a, ha⟩ : ∃ a, a = x[k]! := ⟨_, rfl⟩
          have haA : Ang a := by rw [ha]; exact hxa.out _ (getBang_memP hkx)
          have hC1 := (hcu.out wr hB.out).2 gi rfl k hlk
          have hC2 := (hcv.out wr hB.out).2 gj rfl k hlk
          rw [← ha] at hC1 hC2
          have c0r : ∀ d os, (grow (redrawn wr d) os).cell? ⟨gu, i, none⟩ = some (.slice (some ⟨gi, 0, none⟩) m ci) := cell_regrown (hcu.out wr hB.out).1
          have c1r : ∀ d os, (grow (redrawn wr d) os).cell? ⟨gv, i, none⟩ = some (.slice (some ⟨gj, 0, none⟩) m di) := cell_regrown c1
          have p0 : ∀ d os, (grow (redrawn wr d) os).cell? ⟨gi, k * 3, none⟩ = some (.bool false) := cell_regrown (hC1 0 _ rfl)
          have p1 : ∀ d os, (grow (redrawn wr d) os).cell? ⟨gi, k * 3 + 1, none⟩ = some (.string (natS a.1)) := cell_regrown (hC1 1 _ rfl)
          have p2 : ∀ d os, (grow (redrawn wr d) os).cell? ⟨gi, k * 3 + 2, none⟩ = some (.string (natS a.2)) := cell_regrown (hC1 2 _ rfl)
          have q0 : ∀ d os, (grow (redrawn wr d) os).cell? ⟨gj, k * 2, none⟩ = some (.int .u64 (a.1 : Int)) := cell_regrown (hC2 0 _ rfl)
          have q1 : ∀ d os, (grow (redrawn wr d) os).cell? ⟨gj, k * 2 + 1, none⟩ = some (.int .u64 (a.2 : Int)) := cell_regrown (hC2 1 _ rfl)
          have cM : ∀ d os, Calls Tryz.prog 72 #[.agg #[.int .u64 (a.1 : Int), .int .u64 (a.2 : Int)]] (grow (redrawn wr d) os) fun e w'' => e = .returned (.agg #[.bool false, .string (natS a.1), .string (natS a.2)]) ∧ ∃ p : Regrown, w'' = grow (redrawn wr p.d) p.os := fun d os => Calls.regrown_of (rratio_any a.1 a.2 _ (by have h1 := haA.2.1; have h2 := haA.2.2; omega) (by have h2 := haA.2.2; omega))
          have hkz : (k : Int) < (m : Int) := by omega
          have hkz0 : (0 : Int) ≤ (k : Int) := by omega
          have hwk : Hid (IntKind.i64.wrap ((k : Int) + 1) = (k : Int) + 1) := Lib.hid (by rw [IntKind.wrap_i64]; omega)
          replace ha := Lib.hid ha
          replace haA := Lib.hid haA
          clear hC1 hC2
          go_upto_region 11 with fail
          refine wp_region_quiet_below (by kernel_rfl) (by kernel_rfl) ?_
          iterate 14 (quiet_step (fail))
          quiet_step (exact cM _ _)
          iterate 1 (quiet_step (fail))
          refine wpQuiet_nil ?_
          intro w4 hw'
          replace hB : Hid (Below w.heap.size w w4) := Lib.hid (by
            obtain ⟨p, rfl⟩ := hw'
            exact hB.out.trans ((below_regrown wr p.d p.os).mono hB.out.size))
          have hwk := hwk.out
          clear hw' c0r c1r c1 p0 p1 p2 q0 q1 cM
          go_wp2_with fail
          go_roundg (m - (k + 1))
          case measure => omega
          case rel => exact ⟨k + 1, by simp, by omega, Nat.le_refl _, hB⟩
end Go.Proofs.YtoaggmegmgdgbaaGreat
namespace Go.Proofs.YtoaggmegmgdgbaaGreat
open Go.RowKit Go.Sort
set_option maxRecDepth 100000 in
set_option maxHeartbeats 4000000 in
theorem lsame23_any (B B2 : Nat) (u v : Value) (L : List Lf) (w : World) (hu : LRow w B u L) (hv : RRow w B2 v L) (hM : ∀ m, m ∈ L → AngL m) (hlen : L.length ≤ 1048576) :
    Calls Tryz.prog 15 #[u, v] w (RetVal (.bool true) w) := by
  obtain ⟨A, c, rfl, hA⟩ := LRow.form hu
  obtain ⟨A2, c2, rfl, hA2⟩ := RRow.form hv
  have cT : Hid (∀ i, i < L.length → ∀ W, Calls Tryz.prog 23 #[.agg #[.int .u64 (L[i]!.1.1 : Int), .int .u64 (L[i]!.1.2 : Int), .int .u64 (L[i]!.2.1 : Int), .int .u64 (L[i]!.2.2 : Int)]] W (RetVal (.agg #[.bool false, .string (natS L[i]!.1.1), .string (natS L[i]!.1.2), .bool false, .string (natS L[i]!.2.1), .string (natS L[i]!.2.2)]) W)) := Lib.hid (fun i hi W => by
    have h := rlTold_any L[i]! W (hM _ (getBang_mem hi))
    exact h)
  have hU := Lib.hid hu
  have hV := Lib.hid hv
  obtain ⟨n, hn⟩ : ∃ n, n = L.length := ⟨_, rfl⟩
  rw [← hn] at cT hU hV hA hA2 hlen ⊢
  replace hn := Lib.hid hn
  have hB := Lib.hid (Below.refl w.heap.size w)
  clear hu hv hM
  go_enter Tryz.func15, Tryz.ntmps15
  go_wp2_with fail
  go_loopg [5] n (fun kx s5 wr => ∃ i : Nat, s5 = .int .i64 (i : Int) ∧ i ≤ n ∧ n - i ≤ kx ∧ Hid (Below w.heap.size w wr))
  case atStart => exact ⟨0, rfl, Nat.zero_le _, Nat.le_refl _, hB⟩
  case round =>
    clear hB
    obtain ⟨i, rfl, hin, hg, hB⟩ := hrel
    by_cases hlt : i < n
    case neg =>
      obtain rfl : i = n := by omega
      clear cT hU hV
      go_wp2_with fail
      go_ret
      exact ⟨rfl, hB.out⟩
    case pos =>
      obtain ⟨g, rfl⟩ := hA (by omega)
      obtain ⟨g2, rfl⟩ := hA2 (by omega)
      have hil : i < L.length := by rw [← hn.out]; exact hlt
      obtain ⟨l, hl⟩ : ∃ l, l = L[i]! := ⟨_, rfl⟩
      have hC := LRow.cell (LRow.below hU.out hB.out) hil
      have hD := RRow.cell (RRow.below hV.out hB.out) hil
      rw [← hl] at hC hD
      have cM : ∀ d os, Calls Tryz.prog 23 #[.agg #[.int .u64 (l.1.1 : Int), .int .u64 (l.1.2 : Int), .int .u64 (l.2.1 : Int), .int .u64 (l.2.2 : Int)]] (grow (redrawn wr d) os) fun e w'' => e = .returned (.agg #[.bool false, .string (natS l.1.1), .string (natS l.1.2), .bool false, .string (natS l.2.1), .string (natS l.2.2)]) ∧ ∃ p : Regrown, w'' = grow (redrawn wr p.d) p.os := fun d os => by
        have h := cT.out i hlt (grow (redrawn wr d) os)
        rw [← hl] at h
        exact Calls.regrown_of h
      have m0 : ∀ d os, (grow (redrawn wr d) os).cell? ⟨g, i * 6, none⟩ = some (.bool false) := cell_regrown (hC 0 _ rfl)
      have m1 : ∀ d os, (grow (redrawn wr d) os).cell? ⟨g, i * 6 + 1, none⟩ = some (.string (natS l.1.1)) := cell_regrown (hC 1 _ rfl)
      have m2 : ∀ d os, (grow (redrawn wr d) os).cell? ⟨g, i * 6 + 2, none⟩ = some (.string (natS l.1.2)) := cell_regrown (hC 2 _ rfl)
      have m3 : ∀ d os, (grow (redrawn wr d) os).cell? ⟨g, i * 6 + 3, none⟩ = some (.bool false) := cell_regrown (hC 3 _ rfl)
      have m4 : ∀ d os, (grow (redrawn wr d) os).cell? ⟨g, i * 6 + 4, none⟩ = some (.string (natS l.2.1)) := cell_regrown (hC 4 _ rfl)
      have m5 : ∀ d os, (grow (redrawn wr d) os).cell? ⟨g, i * 6 + 5, none⟩ = some (.string (natS l.2.2)) := cell_regrown (hC 5 _ rfl)
      have r0 : ∀ d os, (grow (redrawn wr d) os).cell? ⟨g2, i * 4, none⟩ = some (.int .u64 (l.1.1 : Int)) := cell_regrown (hD 0 _ rfl)
      have r1 : ∀ d os, (grow (redrawn wr d) os).cell? ⟨g2, i * 4 + 1, none⟩ = some (.int .u64 (l.1.2 : Int)) := cell_regrown (hD 1 _ rfl)
      have r2 : ∀ d os, (grow (redrawn wr d) os).cell? ⟨g2, i * 4 + 2, none⟩ = some (.int .u64 (l.2.1 : Int)) := cell_regrown (hD 2 _ rfl)
      have r3 : ∀ d os, (grow (redrawn wr d) os).cell? ⟨g2, i * 4 + 3, none⟩ = some (.int .u64 (l.2.2 : Int)) := cell_regrown (hD 3 _ rfl)
      have hiz : (i : Int) < (n : Int) := by omega
      have hw1 : IntKind.i64.wrap ((i : Int) + 1) = (i : Int) + 1 := by rw [IntKind.wrap_i64]; omega
      replace hl := Lib.hid hl
      clear hC hD hil
      go_upto_region 6 with fail
      refine wp_region_quiet_below (by kernel_rfl) (by kernel_rfl) ?_
      iterate 8 (quiet_step (fail))
      quiet_step (exact cM _ _)
      quiet_step (fail)
      refine wpQuiet_nil ?_
      intro w3 hw'
      have hb : Below wr.heap.size wr w3 := by
        obtain ⟨p, rfl⟩ := hw'
        exact below_regrown wr p.d p.os
      have hB2 := Lib.hid (hB.out.trans (hb.mono hB.out.size))
      clear hw' hb cM m0 m1 m2 m3 m4 m5 r0 r1 r2 r3 hB
      go_wp2_with fail
      go_roundg (n - (i + 1))
      case measure => omega
      case rel => exact ⟨i + 1, by simp, by omega, Nat.le_refl _, hB2⟩
end Go.Proofs.YtoaggmegmgdgbaaGreat
namespace Go.Proofs.YtoaggmegmgdgbaaGreat
open Go.RowKit Go.Sort Go.Maps
def negR : List Value := [.bool true, .string ⟨#[]⟩, .string ⟨#[]⟩]
def zx (x : List PT) (k : Nat) : List Value := (List.replicate k negR).flatten ++ (x.drop k).flatMap encP
theorem zx_zero (x : List PT) : zx x 0 = x.flatMap encP := by simp [zx]
theorem neg_len (k : Nat) : (List.replicate k negR).flatten.length = k * 3 := by
  induction k with
  | zero => rfl
  | succ k ih => rw [List.replicate_succ, List.flatten_cons, List.length_append, ih]; show 3 + k * 3 = _; omega
theorem zx_split {x : List PT} {k : Nat} (hk : k < x.length) : zx x k = (List.replicate k negR).flatten ++ (encP x[k]! ++ (x.drop (k + 1)).flatMap encP) := by
  unfold zx
  rw [List.drop_eq_getElem_cons hk, List.flatMap_cons, getElem!_pos x k hk]
theorem zx_get {x : List PT} {k j : Nat} (hk : k < x.length) (hj : j < 3) : (zx x k)[k * 3 + j]? = (encP x[k]!)[j]? := by
  rw [zx_split hk, List.getElem?_append_right (by rw [neg_len]; omega), neg_len, Nat.add_sub_cancel_left, List.getElem?_append_left (by rw [encP_len]; exact hj)]
theorem zx_set {x : List PT} {k : Nat} (hk : k < x.length) : (((zx x k).set (k * 3) (.bool true)).set (k * 3 + 1) (.string ⟨#[]⟩)).set (k * 3 + 2) (.string ⟨#[]⟩) = zx x (k + 1) := by
  have hs : ∀ (r : List Value) (j : Nat) (v : Value), ((List.replicate k negR).flatten ++ r).set (k * 3 + j) v = (List.replicate k negR).flatten ++ r.set j v := fun r j v => by
    rw [List.set_append, if_neg (by rw [neg_len]; omega), neg_len, Nat.add_sub_cancel_left]
  rw [zx_split hk, show k * 3 = k * 3 + 0 from rfl, hs, show k * 3 + 0 + 1 = k * 3 + 1 from rfl, hs, show k * 3 + 0 + 2 = k * 3 + 2 from rfl, hs]
  unfold zx
  rw [List.replicate_succ', List.flatten_append, List.append_assoc]
  rfl
structure OvS (W : World) (B : Nat) (va : Value) (m i : Nat) (us usA : List Value) (G : List (List PT)) : Prop where
  row : W.ownsRow B 22 1 va m us
  len : us.length = m
  same : ∀ j, i ≤ j → j < m → us[j]! = usA[j]!
  inn : ∀ j, i ≤ j → j < m → W.ownsRow B 26 3 usA[j]! G[j]!.length (G[j]!.flatMap encP)
section
variable {W W' : World} {B m i : Nat} {va : Value} {us usA : List Value} {G : List (List PT)}
theorem OvS.below (h : OvS W B va m i us usA G) (hb : Below W.heap.size W W') : OvS W' B va m i us usA G :=
  ⟨row_but h.row (But.of_below (r := fun _ => False) hb) (fun _ _ h => h), h.len, h.same, fun j h1 h2 => row_but (h.inn j h1 h2) (But.of_below (r := fun _ => False) hb) (fun _ _ h => h)⟩
theorem OvS.start {N : Nat} (h : NestP W B 22 26 3 encP [] va usA G) (hN : usA.length = N) : OvS W B va N 0 usA usA G := by
  subst hN
  exact ⟨h.row, rfl, fun _ _ _ => rfl, fun j _ hj => h.reads.inn j (by rw [← h.1]; exact hj)⟩
theorem nest_far (h : NestP W B 22 26 3 encP [] va usA G) : ∀ i j, i < usA.length → j < usA.length → i ≠ j → ∀ k, usA[i]!.ownBlock = some k → usA[j]!.ownBlock ≠ some k := by
  have key : ∀ i j, i < j → j < usA.length → ∀ k, usA[i]!.ownBlock = some k → usA[j]!.ownBlock = some k → False := fun i j hij hj k h1 h2 => by
    have hp : List.Pairwise Far ([] ++ itRow B 22 1 va usA.length usA :: inIts B 26 3 encP usA G) := h.2.2
    rw [List.nil_append, List.pairwise_cons] at hp
    have h3 := List.pairwise_iff_getElem.1 hp.2 i j (by rw [inIts_len h.1]; omega) (by rw [inIts_len h.1]; omega) hij
    rw [inIts_get h.1 (by omega), inIts_get h.1 hj] at h3
    rw [getElem!_pos usA i (by omega)] at h1
    rw [getElem!_pos usA j hj] at h2
    exact h3 k h1 h2
  intro i j hi hj hne k h1 h2
  rcases Nat.lt_or_ge i j with h | h
  · exact key i j h hj k h1 h2
  · exact key j i (by omega) hi k h2 h1
end
end Go.Proofs.YtoaggmegmgdgbaaGreat
namespace Go.Proofs.YtoaggmegmgdgbaaGreat
open Go.RowKit Go.Sort Go.Maps
theorem info_ratQ : (Tryz.prog.info? 26).map (fun i => (i.zero, i.size, i.bytes)) = some (some (.agg #[.bool false, .string ⟨#[]⟩, .string ⟨#[]⟩]), 3, 40) := by kernel_rfl
theorem z_one : ∀ u ∈ ([.bool false, .string ⟨#[]⟩, .string ⟨#[]⟩, .bool false, .string ⟨#[]⟩, .string ⟨#[]⟩, .bool false, .string ⟨#[]⟩, .string ⟨#[]⟩] : List Value), u.oneCell' = true := by
  intro u hu
  simp only [List.mem_cons, List.not_mem_nil, or_false] at hu
  rcases hu with rfl | rfl | rfl | rfl | rfl | rfl | rfl | rfl | rfl <;> rfl
theorem rise_same {g : List PT} (hA : ∀ p, p ∈ g → Ang p) (hr : Rises below_ g) : riseL g = g := by
  have hky : ∀ {l : List PT}, (∀ p, p ∈ l → Ang p) → Rises below_ l → Rises (fun p q => ky p < ky q) l := fun hl hr => List.Pairwise.imp_of_mem (fun {a b} ha hb hab => (ky_lt (hl a ha) (hl b hb)).1 hab) hr
  exact rises_ext (lt := fun p q => ky p < ky q) (fun x => Nat.lt_irrefl _) (fun x y z h1 h2 => Nat.lt_trans h1 h2) (hky (fun p hp => hA p (riseL_mem.1 hp)) (riseL_rises hA)) (hky hA hr) (fun x => riseL_mem)
set_option maxRecDepth 100000 in
set_option maxHeartbeats 16000000 in
theorem laminGroups_any (n1 : Bool) (a1 d1 : ByteArray) (d : Int) (v : Value) (Ls : List RawQ) (w : World) (z1 : a1.size ≤ 9223372036854775807) (y1 : d1.size ≤ 9223372036854775807) (hv : RdK 3 encQ w v Ls) (hz : ∀ r, r ∈ Ls → szQ r) (hnl : ∀ n c, v = .slice none n c → c = 0) :
    Calls Tryz.prog 9 #[.agg #[.bool n1, .string a1, .string d1], .int .i64 d, v] w (RetVal (.bool true) w) := by
  have hB := Lib.hid (show Below w.heap.size w (w.alloc (.cells #[.bool n1, .string a1, .string d1] 26)) from (Below.refl _ w).alloc (Nat.le_refl _) _)
  have kBy := Lib.hid (Blk.new w 26 #[.bool n1, .string a1, .string d1])
  have cAw := Lib.hid (fun W => lawake_any W)
  have hnf : ∃ A c, v = .slice A Ls.length c := by
    obtain ⟨A, c, hv2, -⟩ := hv
    exact ⟨A, c, hv2⟩
  obtain ⟨n, hn⟩ : ∃ n, n = Ls.length := ⟨_, rfl⟩
  have cG := Lib.hid (fun W (hb : Below w.heap.size w W) (hl : n ≤ 200) => lGroups_any v Ls n1 a1 d1 d W (hv.below hb) hz hnl z1 y1 (by omega))
  have cO := Lib.hid (fun W (hb : Below w.heap.size w W) (hl : n ≤ 200) => lOf_any v Ls n1 a1 d1 d W (hv.below hb) hz hnl z1 y1 (by omega))
  have cR := Lib.hid (fun W (hb : Below w.heap.size w W) (hl : n ≤ 200) => lgrouped_any v Ls n1 a1 d1 d W (hv.below hb) hz z1 y1 (by omega))
  have hAll := grp_all (n1 := n1) (a1 := a1) (d1 := d1) (d := d) (Ls := Ls)
  obtain ⟨EG, hEG⟩ : ∃ e, e = errG (okA n1 a1 d1) d Ls := ⟨_, rfl⟩
  obtain ⟨G, hG⟩ : ∃ G, G = grpE (rowK (be (sl a1)) (be (sl d1)) d.toNat) (riseL (angQ Ls)) := ⟨_, rfl⟩
  rw [← hEG, ← hG] at cG cO cR hAll
  clear hEG hG hv hz hnl
  obtain ⟨ri, ri0, ri1, ri2, ri3⟩ := info_parts info_ratQ
  obtain ⟨A, c, rfl⟩ := hnf
  rw [← hn] at cG cO cR hAll ⊢
  replace hn := Lib.hid hn
  go_enter Tryz.func9, Tryz.ntmps9
  go_upto_region 1 with fail
  generalize hW : w.alloc (.cells #[.bool n1, .string a1, .string d1] 26) = w1 at kBy hB ⊢
  clear hW
  by_cases h200 : 200 < n
  case pos =>
    have h2z : (200 : Int) < (n : Int) := by omega
    go_wp2_with fail
    refine (cAw.out _).mono ?_
    rintro en w2 ⟨rfl, hb⟩
    replace hB := Lib.hid (hB.out.trans (hb.mono hB.out.size))
    clear hb
    go_wp2_with fail
    go_ret
    exact ⟨rfl, hB.out⟩
  case neg =>
    have h2z : ¬ (200 : Int) < (n : Int) := by omega
    have hn2 : n ≤ 200 := by omega
    have b0 : w1.cell? ⟨w.heap.size, 0, none⟩ = some (.bool n1) := kBy.out.cell 0
    have b1' : w1.cell? ⟨w.heap.size, 1, none⟩ = some (.string a1) := kBy.out.cell 1
    have b2 : w1.cell? ⟨w.heap.size, 2, none⟩ = some (.string d1) := kBy.out.cell 2
    by_cases hE : EG = 0
    case neg =>
      have hEb : (EG == 0) = false := by simpa using hE
      have hEbb : (EG == EG) = true := by simp
      have hEn : (EG != 0) = true := by simp [bne, hEb]
      have hEnn : (!EG != 0) = false := by simp [bne, hEb]
      have cG1 : Hid (∀ W, Below w.heap.size w W → Calls Tryz.prog 54 #[.agg #[.bool n1, .string a1, .string d1], .int .i64 d, .slice A n c] W (RetVal (.tuple #[.slice none 0 0, .int .i64 EG]) W)) := Lib.hid (fun W hb => (cG.out W hb hn2).mono (fun e w' h => by
        rcases h with h | h
        · exact absurd h.1 hE
        · exact ⟨h.2.1, h.2.2⟩))
      have cO1 : Hid (∀ W, Below w.heap.size w W → Calls Tryz.prog 55 #[.agg #[.bool n1, .string a1, .string d1], .int .i64 d, .slice A n c] W (RetVal (.tuple #[.pointer none, .int .i64 EG]) W)) := Lib.hid (fun W hb => (cO.out W hb hn2).mono (fun e w' h => by
        rcases h with h | h
        · exact absurd h.1 hE
        · exact ⟨h.2.1, h.2.2⟩))
      have cR1 : Hid (∀ W, Below w.heap.size w W → Calls Tryz.prog 56 #[.agg #[.bool n1, .string a1, .string d1], .int .i64 d, .slice A n c] W (RetVal (.tuple #[.slice none 0 0, .int .i64 EG]) W)) := Lib.hid (fun W hb => (cR.out W hb hn2).mono (fun e w' h => by
        rcases h with h | h
        · exact absurd h.1 hE
        · exact ⟨h.2.1, h.2.2⟩))
      have cS1 : Hid (∀ W, Calls Tryz.prog 57 #[.slice none 0 0, .slice none 0 0] W (RetVal (.bool true) W)) := Lib.hid (fun W => lsameGroups_eq 0 0 _ _ [] [] [] W (NestR.nil_ _ _ _ _ _ _) (NestR.nil_ _ _ _ _ _ _) (fun g hg => (List.not_mem_nil hg).elim) (Nat.zero_le _) (fun g hg => (List.not_mem_nil hg).elim))
      clear cG cO cR hAll
      go_wp2_with fail
      refine (cG1.out w1 hB.out).mono ?_
      rintro en w2 ⟨rfl, hb⟩
      replace hB := Lib.hid (hB.out.trans (hb.mono hB.out.size))
      replace kBy := Lib.hid (Blk.below kBy.out hb)
      clear hb b0 b1' b2
      have b0 : w2.cell? ⟨w.heap.size, 0, none⟩ = some (.bool n1) := kBy.out.cell 0
      have b1' : w2.cell? ⟨w.heap.size, 1, none⟩ = some (.string a1) := kBy.out.cell 1
      have b2 : w2.cell? ⟨w.heap.size, 2, none⟩ = some (.string d1) := kBy.out.cell 2
      go_wp2_with fail
      refine (cG1.out w2 hB.out).mono ?_
      rintro en w3 ⟨rfl, hb⟩
      replace hB := Lib.hid (hB.out.trans (hb.mono hB.out.size))
      replace kBy := Lib.hid (Blk.below kBy.out hb)
      clear hb b0 b1' b2
      have b0 : w3.cell? ⟨w.heap.size, 0, none⟩ = some (.bool n1) := kBy.out.cell 0
      have b1' : w3.cell? ⟨w.heap.size, 1, none⟩ = some (.string a1) := kBy.out.cell 1
      have b2 : w3.cell? ⟨w.heap.size, 2, none⟩ = some (.string d1) := kBy.out.cell 2
      go_wp2_with fail
      refine (cO1.out w3 hB.out).mono ?_
      rintro en w4 ⟨rfl, hb⟩
      replace hB := Lib.hid (hB.out.trans (hb.mono hB.out.size))
      replace kBy := Lib.hid (Blk.below kBy.out hb)
      clear hb b0 b1' b2
      have b0 : w4.cell? ⟨w.heap.size, 0, none⟩ = some (.bool n1) := kBy.out.cell 0
      have b1' : w4.cell? ⟨w.heap.size, 1, none⟩ = some (.string a1) := kBy.out.cell 1
      have b2 : w4.cell? ⟨w.heap.size, 2, none⟩ = some (.string d1) := kBy.out.cell 2
      go_wp2_with fail
      refine (cR1.out w4 hB.out).mono ?_
      rintro en w5 ⟨rfl, hb⟩
      replace hB := Lib.hid (hB.out.trans (hb.mono hB.out.size))
      replace kBy := Lib.hid (Blk.below kBy.out hb)
      clear hb b0 b1' b2
      go_wp2_with fail
      refine (cS1.out _).mono ?_
      rintro en w6 ⟨rfl, hb⟩
      replace hB := Lib.hid (hB.out.trans (hb.mono hB.out.size))
      clear hb
      go_wp2_with fail
      refine (cAw.out _).mono ?_
      rintro en w7 ⟨rfl, hb⟩
      replace hB := Lib.hid (hB.out.trans (hb.mono hB.out.size))
      clear hb
      go_wp2_with fail
      go_ret
      exact ⟨rfl, hB.out⟩
    case pos =>
      subst hE
      have h01 := hB.out.size
      obtain ⟨hH, hGo, hGs, -⟩ := hAll rfl
      have cG0 : Hid (∀ W, Below w.heap.size w W → Calls Tryz.prog 54 #[.agg #[.bool n1, .string a1, .string d1], .int .i64 d, .slice A n c] W (fun e w' => ∃ v' vs, e = .returned (.tuple #[v', .int .i64 0]) ∧ NestP w' W.heap.size 22 26 3 encP [] v' vs G ∧ Below W.heap.size W w')) := Lib.hid (fun W hb => (cG.out W hb hn2).mono (fun e w' h => by
        rcases h with h | h
        · exact h.2
        · exact absurd rfl h.1))
      have cO0 : Hid (∀ W, Below w.heap.size w W → Calls Tryz.prog 55 #[.agg #[.bool n1, .string a1, .string d1], .int .i64 d, .slice A n c] W (fun e w' => ∃ x vL, e = .returned (.tuple #[.pointer (some ⟨x, 0, none⟩), .int .i64 0]) ∧ LamS w' W.heap.size x vL (addF (G.flatMap hullL)) ∧ Below W.heap.size W w')) := Lib.hid (fun W hb => (cO.out W hb hn2).mono (fun e w' h => by
        rcases h with h | h
        · exact h.2
        · exact absurd rfl h.1))
      have cR0 : Hid (∀ W, Below w.heap.size w W → Calls Tryz.prog 56 #[.agg #[.bool n1, .string a1, .string d1], .int .i64 d, .slice A n c] W (fun e w' => ∃ v' vs, e = .returned (.tuple #[v', .int .i64 0]) ∧ NestR w' W.heap.size 31 42 2 enc2 v' vs G ∧ Below W.heap.size W w')) := Lib.hid (fun W hb => (cR.out W hb hn2).mono (fun e w' h => by
        rcases h with h | h
        · exact h.2
        · exact absurd rfl h.1))
      have hHl : (G.flatMap hullL).length ≤ 200 := Nat.le_trans (allH_len G) (Nat.le_trans hGs hn2)
      have hsz : ∀ g, g ∈ G → g.length ≤ 200 := fun g hg => by
        have h1 : g.length ≤ (G.map List.length).sum := mem_le_sum (List.mem_map.2 ⟨_, hg, rfl⟩)
        omega
      have hGn : G.length ≤ 200 := by
        have h1 : G.length ≤ (G.map List.length).sum := len_le_sum (fun g hg => List.length_pos_iff.2 (hGo.ne g hg))
        omega
      have cS : Hid (∀ W B B2 u us v vs, NestR W B 22 26 3 encP u us G → NestR W B2 31 42 2 enc2 v vs G → Calls Tryz.prog 57 #[u, v] W (RetVal (.bool true) W)) := Lib.hid (fun W B B2 u us v vs h1 h2 => lsameGroups_eq B B2 u v us vs G W h1 h2 hGo.ang (by omega) (fun g hg => Nat.le_trans (hsz g hg) (by decide)))
      have hNe : Hid (∀ i, i < G.length → 0 < G[i]!.length ∧ G[i]!.length ≤ 200 ∧ (hullL G[i]!).length ≤ 200) := Lib.hid (fun i hi => ⟨List.length_pos_iff.2 (hGo.ne _ (getBang_memP hi)), hsz _ (getBang_memP hi), Nat.le_trans (hull_len _) (hsz _ (getBang_memP hi))⟩)
      have cHu : Hid (∀ (i b : Nat) (u : Value) (W : World), i < G.length → W.ownsRow b 42 2 u G[i]!.length (G[i]!.flatMap enc2) → Calls Tryz.prog 14 #[u] W (fun e w' => ∃ v', e = .returned v' ∧ RRow w' W.heap.size v' (hullL G[i]!) ∧ Below W.heap.size W w')) := Lib.hid (fun i b u W hi hr => by
        have h := rhull_any b u G[i]! W hr (hGo.ang _ (getBang_memP hi)) (by have := hsz _ (getBang_memP hi); omega)
        rw [rise_same (hGo.ang _ (getBang_memP hi)) (hGo.rise _ (getBang_memP hi))] at h
        exact h)
      have hHf := addF_pre hH.lf hH.nc hH.nd (by omega)
      have hHst : Hid (∀ i j, i < G.length → j < (hullL G[i]!).length → LOk (addF (preH G i j)) ∧ (addF (preH G i j)).length ≤ 200 ∧ Lfp (hullL G[i]!)[j]! ∧ addL (addF (preH G i j)) (hullL G[i]!)[j]! = (addF (preH G i (j + 1)), 0)) := Lib.hid (fun i j hi hj => by
        obtain ⟨k1, k2, -⟩ := hHf _ (preH G i j) rfl (preH_pre hi)
        refine ⟨k1, by rw [k2]; exact Nat.le_trans (preH_pre hi).length_le hHl, hH.lf _ (List.mem_flatMap.2 ⟨_, getBang_memP hi, getBang_memP hj⟩), ?_⟩
        have hp : preH G i j ++ [(hullL G[i]!)[j]!] <+: G.flatMap hullL := by rw [← preH_step hj]; exact preH_pre hi
        rw [preH_step hj]
        exact addF_step hH.lf hH.nc hH.nd (by omega) hp)
      have hHlen : Hid (∀ i, i ≤ G.length → (addF (preH G i 0)).length ≤ 200) := Lib.hid (fun i hi => by
        rcases Nat.lt_or_ge i G.length with h | h
        · rw [(hHf _ (preH G i 0) rfl (preH_pre h)).2.1]; exact Nat.le_trans (preH_pre h).length_le hHl
        · obtain rfl : i = G.length := by omega
          rw [preH_end, (hHf _ (G.flatMap hullL) rfl (List.prefix_refl _)).2.1]; exact hHl)
      have hPl : Hid (∀ i, i < G.length → (preH G i (hullL G[i]!).length) = preH G (i + 1) 0) := Lib.hid (fun i hi => preH_next hi)
      have hEnd : Hid (addF (preH G G.length 0) = addF (G.flatMap hullL)) := Lib.hid (by rw [preH_end])
      have hFl := hHf _ (G.flatMap hullL) rfl (List.prefix_refl _)
      have hLAng : Hid (∀ m, m ∈ addF (G.flatMap hullL) → AngL m) := Lib.hid (fun m hm => (hH.lf m ((hFl.2.2 m).1 hm)).1)
      have hLlen : (addF (G.flatMap hullL)).length ≤ 200 := by rw [hFl.2.1]; exact hHl
      obtain ⟨LL, hLL⟩ : ∃ L, L = addF (G.flatMap hullL) := ⟨_, rfl⟩
      rw [← hLL] at cO0 hEnd hLAng hLlen
      clear cG cO cR hAll hH hGo hGs hHl hsz hHf hFl hLL
      go_wp2_with fail
      refine (cG0.out w1 hB.out).mono ?_
      rintro en w2 ⟨va, usA, rfl, hA0, hb⟩
      replace hB := Lib.hid (hB.out.trans (hb.mono hB.out.size))
      replace kBy := Lib.hid (Blk.below kBy.out hb)
      obtain ⟨m, hm⟩ : ∃ m, m = G.length := ⟨_, rfl⟩
      have hul : usA.length = m := by rw [hA0.1, hm]
      have hfar := nest_far hA0
      have hOv0 := OvS.start hA0 hul
      have hltA : ∀ j, j < m → ∀ k, usA[j]!.ownBlock = some k → w1.heap.size ≤ k ∧ k < w2.heap.size := fun j hj k hk => World.ownsRow.lt (hA0.reads.inn j (by omega)) k hk
      have hltV : ∀ k, va.ownBlock = some k → w1.heap.size ≤ k ∧ k < w2.heap.size := fun k hk => World.ownsRow.lt hA0.row k hk
      have hRa := Lib.hid hA0.reads
      obtain ⟨Aa, ca, hva, -, hAa⟩ := own_form hA0.row
      rw [hul] at hva hAa
      subst hva
      clear hA0 hb b0 b1' b2
      replace hul := Lib.hid hul
      replace hfar := Lib.hid hfar
      replace hOv0 := Lib.hid hOv0
      replace hltA := Lib.hid hltA
      replace hltV := Lib.hid hltV
      replace hm := Lib.hid hm
      have b0 : w2.cell? ⟨w.heap.size, 0, none⟩ = some (.bool n1) := kBy.out.cell 0
      have b1' : w2.cell? ⟨w.heap.size, 1, none⟩ = some (.string a1) := kBy.out.cell 1
      have b2 : w2.cell? ⟨w.heap.size, 2, none⟩ = some (.string d1) := kBy.out.cell 2
      go_wp2_with fail
      refine (cG0.out w2 hB.out).mono ?_
      rintro en w3 ⟨vb, usB, rfl, hA0, hb⟩
      replace hB := Lib.hid (hB.out.trans (hb.mono hB.out.size))
      replace kBy := Lib.hid (Blk.below kBy.out hb)
      replace hOv0 := Lib.hid (hOv0.out.below hb)
      replace hRa := Lib.hid (hRa.out.below hb)
      have hRb := Lib.hid hA0.reads
      have hbl : usB.length = m := by rw [hA0.1, hm.out]
      obtain ⟨Ab, cb, hvb, -, -⟩ := own_form hA0.row
      rw [hbl] at hvb
      subst hvb
      have h23 := hb.size
      clear hA0 hb b0 b1' b2 hbl
      have b0 : w3.cell? ⟨w.heap.size, 0, none⟩ = some (.bool n1) := kBy.out.cell 0
      have b1' : w3.cell? ⟨w.heap.size, 1, none⟩ = some (.string a1) := kBy.out.cell 1
      have b2 : w3.cell? ⟨w.heap.size, 2, none⟩ = some (.string d1) := kBy.out.cell 2
      go_wp2_with fail
      refine (cO0.out w3 hB.out).mono ?_
      rintro en w4 ⟨x, vL, rfl, hS, hb⟩
      replace hB := Lib.hid (hB.out.trans (hb.mono hB.out.size))
      replace kBy := Lib.hid (Blk.below kBy.out hb)
      replace hOv0 := Lib.hid (hOv0.out.below hb)
      replace hRa := Lib.hid (hRa.out.below hb)
      replace hRb := Lib.hid (hRb.out.below hb)
      replace hS := Lib.hid hS
      have h34 := hb.size
      clear hb b0 b1' b2
      have b0 : w4.cell? ⟨w.heap.size, 0, none⟩ = some (.bool n1) := kBy.out.cell 0
      have b1' : w4.cell? ⟨w.heap.size, 1, none⟩ = some (.string a1) := kBy.out.cell 1
      have b2 : w4.cell? ⟨w.heap.size, 2, none⟩ = some (.string d1) := kBy.out.cell 2
      go_wp2_with fail
      refine (cR0.out w4 hB.out).mono ?_
      rintro en w5 ⟨vw, usW, rfl, hRw, hb⟩
      replace hB := Lib.hid (hB.out.trans (hb.mono hB.out.size))
      replace hOv0 := Lib.hid (hOv0.out.below hb)
      replace hRa := Lib.hid (hRa.out.below hb)
      replace hRb := Lib.hid (hRb.out.below hb)
      replace hS := Lib.hid (hS.out.below hb)
      have hwl : usW.length = m := by rw [hRw.len, hm.out]
      obtain ⟨Aw, cw, hvw, -, hAw⟩ := own_form hRw.row
      rw [hwl] at hvw hAw
      subst hvw
      replace hRw := Lib.hid hRw
      have h45 := hb.size
      clear hb b0 b1' b2 kBy hwl
      rw [← hm.out] at hGn
      replace hAw := Lib.hid hAw
      replace hAa := Lib.hid hAa
      go_wp2_with fail
      refine (cS.out w5 _ _ _ _ _ _ hRa.out hRw.out).mono ?_
      rintro en w6 ⟨rfl, hb⟩
      replace hB := Lib.hid (hB.out.trans (hb.mono hB.out.size))
      replace hOv0 := Lib.hid (hOv0.out.below hb)
      replace hRb := Lib.hid (hRb.out.below hb)
      replace hS := Lib.hid (hS.out.below hb)
      replace hRw := Lib.hid (hRw.out.below hb)
      have h56 := hb.size
      clear hb hRa
      have hC : Hid (∀ W, But (fun k => w1.heap.size ≤ k ∧ k < w2.heap.size) w6 W → Below w.heap.size w W ∧ NestR W w2.heap.size 22 26 3 encP (.slice Ab m cb) usB G ∧ LamS W w3.heap.size x vL LL ∧ NestR W w4.heap.size 31 42 2 enc2 (.slice Aw m cw) usW G) := Lib.hid (fun W hb => by
        have hno : ∀ k, w2.heap.size ≤ k → ¬ (w1.heap.size ≤ k ∧ k < w2.heap.size) := fun k h1 h2 => by omega
        refine ⟨hB.out.trans (hb.toBelow hB.out.size (fun k hk h => by omega)), hRb.out.but hb (fun k h1 _ => hno k h1), ?_, hRw.out.but hb (fun k h1 _ => hno k (by omega))⟩
        exact hS.out.but hb (hno x (by have := hS.out.lam.base; omega)) (fun k hk => hno k (by have := (World.ownsRow.lt hS.out.lam.row k hk).1; omega)))
      clear hRb hS hRw hB
      have hF := Lib.hid (But.refl (fun k => w1.heap.size ≤ k ∧ k < w2.heap.size) w6)
      have h26 : w2.heap.size ≤ w6.heap.size := by omega
      go_wp2_with fail
      go_loopg [15] m (fun kx s15 wr => ∃ (i : Nat) (us : List Value), s15 = .int .i64 (i : Int) ∧ i ≤ m ∧ m - i ≤ kx ∧ Hid (OvS wr w1.heap.size (.slice Aa m ca) m i us usA G) ∧ Hid (But (fun k => w1.heap.size ≤ k ∧ k < w2.heap.size) w6 wr))
      case atStart => exact ⟨0, usA, rfl, Nat.zero_le _, Nat.le_refl _, hOv0, hF⟩
      case round =>
        clear hF hOv0
        obtain ⟨i, us, rfl, hin, hg, hOv, hF⟩ := hrel
        by_cases hlt : i < m
        case pos =>
          obtain ⟨gu, hgu⟩ := hAa.out (by omega)
          subst hgu
          have hiG : i < G.length := by rw [← hm.out]; exact hlt
          obtain ⟨ei, hei⟩ : ∃ e, e = G[i]!.length := ⟨_, rfl⟩
          obtain ⟨ne1, ne2, -⟩ := hNe.out i hiG
          rw [← hei] at ne1 ne2
          obtain ⟨ui, hui⟩ : ∃ u, u = usA[i]! := ⟨_, rfl⟩
          obtain ⟨X, hX⟩ : ∃ x, x = G[i]! := ⟨_, rfl⟩
          rw [← hX] at hei
          have hri := hOv.out.inn i (Nat.le_refl _) hlt
          rw [← hui, ← hX, ← hei] at hri
          obtain ⟨Ai, ci, rfl, -, hAi⟩ := own_form hri
          obtain ⟨gi, rfl⟩ := hAi (by omega)
          have hgi := hltA.out i hlt gi (by rw [← hui]; rfl)
          have hguL := hltV.out gu rfl
          have hOuter : Hid (∀ W, OvS W w1.heap.size (.slice (some ⟨gu, 0, none⟩) m ca) m i us usA G → W.cell? ⟨gu, i, none⟩ = some (.slice (some ⟨gi, 0, none⟩) ei ci)) := Lib.hid (fun W h => by
            have hl : i < us.length := by rw [h.len]; exact hlt
            rw [World.ownsRow.cellAt h.row i (by omega), List.getElem?_eq_getElem hl, hui, ← h.same i (Nat.le_refl _) hlt, getElem!_pos us i hl])
          have hgiu : gi ≠ gu := fun e => by
            subst e
            obtain ⟨c1, k1⟩ := row_typ hri (k := gi) rfl
            obtain ⟨c2, k2⟩ := row_typ hOv.out.row (k := gi) rfl
            exact blk_ne k1 k2 (by decide) rfl
          have hz0 : Hid (wr.ownsRow w1.heap.size 26 3 (.slice (some ⟨gi, 0, none⟩) ei ci) ei (zx X 0)) := Lib.hid (by rw [zx_zero]; exact hri)
          -- the others: what is not in gi stays
          have hOth : Hid (∀ W, But (fun k => k = gi) wr W → W.ownsRow w1.heap.size 22 1 (.slice (some ⟨gu, 0, none⟩) m ca) m us ∧ ∀ j, i < j → j < m → W.ownsRow w1.heap.size 26 3 usA[j]! G[j]!.length (G[j]!.flatMap encP)) := Lib.hid (fun W hb => ⟨row_but hOv.out.row hb (fun k hk e => by
              have hk : some gu = some k := hk
              injection hk with hk
              exact hgiu (by rw [← e, hk])), fun j h1 h2 => row_but (hOv.out.inn j (by omega) h2) hb (fun k hk e => by
              refine hfar.out i j (by rw [hul.out]; exact hlt) (by rw [hul.out]; exact h2) (by omega) gi (by rw [← hui]; rfl) ?_
              rw [hk, e])⟩)
          have hlen := hOv.out.len
          have hsame := hOv.out.same
          have hF0 := Lib.hid (But.refl (fun k => k = gi) wr)
          have hFw := Lib.hid (fun W (hb : But (fun k => k = gi) wr W) => hF.out.trans (hb.wide (r' := fun k => w1.heap.size ≤ k ∧ k < w2.heap.size) (fun k _ e => by rw [e]; exact hgi)))
          have hcu : Hid (∀ W, But (fun k => k = gi) wr W → W.cell? ⟨gu, i, none⟩ = some (.slice (some ⟨gi, 0, none⟩) ei ci)) := Lib.hid (fun W hb => by
            have hl : i < us.length := by rw [hlen]; exact hlt
            rw [World.ownsRow.cellAt (hOth.out W hb).1 i (by omega), List.getElem?_eq_getElem hl, hui, ← hsame i (Nat.le_refl _) hlt, getElem!_pos us i hl])
          have hiz : (i : Int) < (m : Int) := by omega
          have hiz0 : (0 : Int) ≤ (i : Int) := by omega
          have hwi : Hid (IntKind.i64.wrap ((i : Int) + 1) = (i : Int) + 1) := Lib.hid (by rw [IntKind.wrap_i64]; omega)
          replace hlen := Lib.hid hlen
          replace hsame := Lib.hid hsame
          replace hui := Lib.hid hui
          replace hX := Lib.hid hX
          replace hei := Lib.hid hei
          clear hOuter hri hAi hOv hF
          generalize hWr : wr = wz at hz0 hOth hF0 hFw hcu ⊢
          clear hWr
          go_wp2_with fail
          go_loopg [16] ei (fun kx s16 wq => ∃ k : Nat, s16 = .int .i64 (k : Int) ∧ k ≤ ei ∧ ei - k ≤ kx ∧ Hid (wq.ownsRow w1.heap.size 26 3 (.slice (some ⟨gi, 0, none⟩) ei ci) ei (zx X k)) ∧ Hid (But (fun k => k = gi) wz wq))
          case atStart => exact ⟨0, rfl, Nat.zero_le _, Nat.le_refl _, hz0, hF0⟩
          case round =>
            clear hz0 hF0
            obtain ⟨k, rfl, hkm, hgk, hZ, hF⟩ := hrel
            have c1 := hcu.out wr hF.out
            by_cases hlk : k < ei
            case pos =>
              have hkX : k < X.length := by rw [← hei.out]; exact hlk
              obtain ⟨q, hq⟩ : ∃ q, q = X[k]! := ⟨_, rfl⟩
              have hcl : ∀ (j : Nat) (u : Value), j < 3 → (encP q)[j]? = some u → wr.cell? ⟨gi, k * 3 + j, none⟩ = some u := fun j u hj hu => by
                rw [World.ownsRow.cellAt hZ.out _ (by omega), zx_get hkX hj, ← hq]
                exact hu
              have p0 : wr.cell? ⟨gi, k * 3, none⟩ = some (.bool false) := hcl 0 _ (by decide) rfl
              have p1 : wr.cell? ⟨gi, k * 3 + 1, none⟩ = some (.string (natS q.1)) := hcl 1 _ (by decide) rfl
              have p2 : wr.cell? ⟨gi, k * 3 + 2, none⟩ = some (.string (natS q.2)) := hcl 2 _ (by decide) rfl
              have f0 : wr.frozen? ⟨gi, k * 3, none⟩ = false := World.ownsRow.frozenAt hZ.out _
              have f1 : wr.frozen? ⟨gi, k * 3 + 1, none⟩ = false := World.ownsRow.frozenAt hZ.out _
              have f2 : wr.frozen? ⟨gi, k * 3 + 2, none⟩ = false := World.ownsRow.frozenAt hZ.out _
              have hZ2 : Hid ((((wr.setCell ⟨gi, k * 3, none⟩ (.bool true)).setCell ⟨gi, k * 3 + 1, none⟩ (.string ⟨#[]⟩)).setCell ⟨gi, k * 3 + 2, none⟩ (.string ⟨#[]⟩)).ownsRow w1.heap.size 26 3 (.slice (some ⟨gi, 0, none⟩) ei ci) ei (zx X (k + 1))) := Lib.hid (by
                rw [← zx_set hkX]
                exact (World.ownsRow.stored (World.ownsRow.stored (World.ownsRow.stored hZ.out _ _).1 _ _).1 _ _).1)
              have hF2 : Hid (But (fun k => k = gi) wz (((wr.setCell ⟨gi, k * 3, none⟩ (.bool true)).setCell ⟨gi, k * 3 + 1, none⟩ (.string ⟨#[]⟩)).setCell ⟨gi, k * 3 + 2, none⟩ (.string ⟨#[]⟩))) := Lib.hid (((hF.out.setCell (p := ⟨gi, k * 3, none⟩) (.inl rfl) _).setCell (p := ⟨gi, k * 3 + 1, none⟩) (.inl rfl) _).setCell (p := ⟨gi, k * 3 + 2, none⟩) (.inl rfl) _)
              have hkz : (k : Int) < (ei : Int) := by omega
              have hkz0 : (0 : Int) ≤ (k : Int) := by omega
              have hwk : IntKind.i64.wrap ((k : Int) + 1) = (k : Int) + 1 := by rw [IntKind.wrap_i64]; omega
              replace hq := Lib.hid hq
              clear hcl hZ hF
              go_wp2_with fail
              go_roundg (ei - (k + 1))
              case measure => omega
              case rel => exact ⟨k + 1, by simp, by omega, Nat.le_refl _, hZ2, hF2⟩
            case neg =>
              obtain rfl : ei = k := by omega
              have hsz := (hFw.out wr hF.out).size
              have hnew := news_new wr 26 [.bool false, .string ⟨#[]⟩, .string ⟨#[]⟩, .bool false, .string ⟨#[]⟩, .string ⟨#[]⟩, .bool false, .string ⟨#[]⟩, .string ⟨#[]⟩]
              go_wp2_with (at_builtin; refine wpList_append_own_at _ rfl _ _ 22 rfl w1.heap.size 26 ri (.agg #[.bool false, .string ⟨#[]⟩, .string ⟨#[]⟩]) 3 40 Tryz.underlying22 ri0 ri1 ri2 ri3 rfl (by decide) _ _ _ rfl (World.ownsRow.alloc hZ.out _) ⟨wr.heap.size, 0, none⟩ 3 3 [.bool false, .string ⟨#[]⟩, .string ⟨#[]⟩, .bool false, .string ⟨#[]⟩, .string ⟨#[]⟩, .bool false, .string ⟨#[]⟩, .string ⟨#[]⟩] rfl rfl hnew z_one (by unfold maxLen; omega) (by omega) (by simp; omega) ?_)
              intro v8 w8 hown8 hgrow8 _ _
              obtain ⟨A8, c8, hv8, -, -⟩ := own_form hown8
              subst hv8
              have hF8 : Hid (But (fun k => k = gi) wz w8) := Lib.hid ((hF.out.alloc _).grown hgrow8 (fun k hk => by
                have hk : some gi = some k := hk
                injection hk with hk
                exact hk.symm))
              have hO8 := hOth.out w8 hF8.out
              have c1' := hcu.out w8 hF8.out
              have f1' : w8.frozen? ⟨gu, i, none⟩ = false := World.ownsRow.frozenAt hO8.1 i
              have hOv2 : Hid (OvS (w8.setCell ⟨gu, i, none⟩ (.slice A8 (ei + 3) c8)) w1.heap.size (.slice (some ⟨gu, 0, none⟩) m ca) m (i + 1) (us.set i (.slice A8 (ei + 3) c8)) usA G) := Lib.hid ⟨(World.ownsRow.stored hO8.1 i _).1, by rw [List.length_set]; exact hlen.out, fun j h1 h2 => by
                  rw [getElem!_pos _ j (by rw [List.length_set, hlen.out]; exact h2), List.getElem_set_ne (by omega), ← getElem!_pos us j (by rw [hlen.out]; exact h2)]
                  exact hsame.out j (by omega) h2, fun j h1 h2 => by
                  refine row_but (hO8.2 j (by omega) h2) ((But.refl (fun q => q = gu) w8).setCell (p := ⟨gu, i, none⟩) (.inl rfl) _) (fun k hk e => ?_)
                  subst e
                  obtain ⟨t1, k1⟩ := row_typ (hO8.2 j (by omega) h2) hk
                  obtain ⟨t2, k2⟩ := row_typ hO8.1 (k := k) rfl
                  exact blk_ne k1 k2 (by decide) rfl⟩
              have hF9 : Hid (But (fun k => w1.heap.size ≤ k ∧ k < w2.heap.size) w6 (w8.setCell ⟨gu, i, none⟩ (.slice A8 (ei + 3) c8))) := Lib.hid ((hFw.out w8 hF8.out).setCell (p := ⟨gu, i, none⟩) (.inl hguL) _)
              have hwi := hwi.out
              clear hO8 hown8 hgrow8 hF hZ hnew
              go_wp2_with fail
              go_roundg (m - (i + 1))
              case measure => omega
              case rel => exact ⟨i + 1, _, by simp, by omega, Nat.le_refl _, hOv2, hF9⟩
        case neg =>
          obtain rfl : m = i := by omega
          obtain ⟨hB, hRb, hS, hRw⟩ := hC.out wr hF.out
          replace hB := Lib.hid hB
          replace hS := Lib.hid hS
          replace hRw := Lib.hid hRw
          have cSb := Lib.hid (cS.out wr _ _ _ _ _ _ hRb hRw.out)
          clear hRb hOv hF hC
          go_wp2_with fail
          refine cSb.out.mono ?_
          rintro en w7 ⟨rfl, hb⟩
          replace hB := Lib.hid (hB.out.trans (hb.mono hB.out.size))
          replace hS := Lib.hid (hS.out.below hb)
          replace hRw := Lib.hid (hRw.out.below hb)
          clear hb cSb
          have hWc : Hid (∀ W, Below w7.heap.size w7 W → NestR W w4.heap.size 31 42 2 enc2 (.slice Aw m cw) usW G ∧ LamS W w3.heap.size x vL LL ∧ Below w.heap.size w W) := Lib.hid (fun W hb => ⟨hRw.out.below hb, hS.out.below hb, hB.out.trans (hb.mono hB.out.size)⟩)
          have hD := Lib.hid (Below.refl w7.heap.size w7)
          have hQ0 : Hid (RRow w7 w7.heap.size (.slice none 0 0) (addF (preH G 0 0))) := Lib.hid (by rw [preH_zero]; exact World.ownsRow_nil _ _ _ _)
          clear hB hS hRw
          go_wp2_with fail
          go_loopg [17, 18] m (fun kx s17 s18 wr => ∃ (i : Nat) (vq : Value), vq = s17 ∧ s18 = .int .i64 (i : Int) ∧ i ≤ m ∧ m - i ≤ kx ∧ Hid (RRow wr w7.heap.size vq (addF (preH G i 0))) ∧ Hid (Below w7.heap.size w7 wr))
          case atStart => exact ⟨0, _, rfl, rfl, Nat.zero_le _, Nat.le_refl _, hQ0, hD⟩
          case round =>
            clear hD hQ0
            obtain ⟨i, vq, rfl, rfl, hin2, hg2, hQ, hD⟩ := hrel
            by_cases hlt2 : i < m
            case pos =>
              obtain ⟨gw, hgw⟩ := hAw.out (by omega)
              subst hgw
              have hiG : i < G.length := by rw [← hm.out]; exact hlt2
              obtain ⟨hRw, -, -⟩ := hWc.out wr hD.out
              have hri := hRw.inn i hiG
              obtain ⟨ui, hui⟩ : ∃ u, u = usW[i]! := ⟨_, rfl⟩
              have c0 : wr.cell? ⟨gw, i, none⟩ = some ui := by rw [hui]; exact hRw.outer hiG
              rw [← hui] at hri
              have cH := Lib.hid (cHu.out i _ ui wr hiG hri)
              obtain ⟨Ai, ci, hvi, -, -⟩ := own_form hri
              subst hvi
              obtain ⟨ei, hei⟩ : ∃ e, e = G[i]!.length := ⟨_, rfl⟩
              rw [← hei] at cH c0
              obtain ⟨H, hHd⟩ : ∃ H, H = hullL G[i]! := ⟨_, rfl⟩
              have hst := fun j => hHst.out i j hiG
              have hpl := hPl.out i hiG
              have hn200 := (hNe.out i hiG).2.2
              rw [← hHd] at cH hpl hn200
              simp only [← hHd] at hst
              replace hst := Lib.hid hst
              obtain ⟨Aq, cq, hvq, -⟩ := RRow.form hQ.out
              have hiz : (i : Int) < (m : Int) := by omega
              have hiz0 : (0 : Int) ≤ (i : Int) := by omega
              have hwi : Hid (IntKind.i64.wrap ((i : Int) + 1) = (i : Int) + 1) := Lib.hid (by rw [IntKind.wrap_i64]; omega)
              replace hvq := Lib.hid hvq
              replace hui := Lib.hid hui
              replace hei := Lib.hid hei
              replace hHd := Lib.hid hHd
              replace hpl := Lib.hid hpl
              clear hRw hri
              go_wp2_with fail
              refine cH.out.mono ?_
              rintro en w8 ⟨vh, rfl, hh, hb⟩
              replace hQ := Lib.hid (hQ.out.below hb)
              replace hD := Lib.hid (hD.out.trans (hb.mono hD.out.size))
              obtain ⟨nh, hnh⟩ : ∃ k, k = H.length := ⟨_, rfl⟩
              obtain ⟨Ah, ch, hvh, hAh⟩ := RRow.form hh
              subst hvh
              have hHc : Hid (∀ W, Below w8.heap.size w8 W → ∀ (q : Nat), q < nh → ∃ g, Ah = some ⟨g, 0, none⟩ ∧ ∀ (j : Nat) (u : Value), (rlE H[q]!)[j]? = some u → W.cell? ⟨g, q * 4 + j, none⟩ = some u) := Lib.hid (fun W hb2 q hq => by
                obtain ⟨g, rfl⟩ := hAh (by omega)
                exact ⟨g, rfl, RRow.cell (RRow.below hh hb2) (by omega)⟩)
              rw [← hnh] at hn200 ⊢
              replace hnh := Lib.hid hnh
              have hD8 := Lib.hid (Below.refl w8.heap.size w8)
              have hDb := Lib.hid hD.out
              clear hb hh cH c0 hAh hD
              go_wp2_with fail
              go_loopg [17, 20] nh (fun kx s17 s20 wr => ∃ (k : Nat) (vq : Value), vq = s17 ∧ s20 = .int .i64 (k : Int) ∧ k ≤ nh ∧ nh - k ≤ kx ∧ Hid (RRow wr w7.heap.size vq (addF (preH G i k))) ∧ Hid (Below w8.heap.size w8 wr))
              case atStart => exact ⟨0, _, rfl, rfl, Nat.zero_le _, Nat.le_refl _, hQ, hD8⟩
              case round =>
                clear hQ hD8
                obtain ⟨k, vq2, rfl, rfl, hkm, hgk, hQ, hD⟩ := hrel
                by_cases hlk : k < nh
                case neg =>
                  obtain rfl : nh = k := by omega
                  have hQ2 : Hid (RRow wr w7.heap.size vq2 (addF (preH G (i + 1) 0))) := Lib.hid (by rw [← hpl.out, ← hnh.out]; exact hQ.out)
                  have hD2 : Hid (Below w7.heap.size w7 wr) := Lib.hid (hDb.out.trans (hD.out.mono hDb.out.size))
                  have hwi := hwi.out
                  go_wp2_with fail
                  go_roundg (m - (i + 1))
                  case measure => omega
                  case rel => exact ⟨i + 1, _, rfl, by simp, by omega, Nat.le_refl _, hQ2, hD2⟩
                case pos =>
                  obtain ⟨g, hg, hc⟩ := hHc.out wr hD.out k hlk
                  subst hg
                  obtain ⟨t1, t2, t3, t4⟩ := hst.out k (by rw [← hnh.out]; exact hlk)
                  obtain ⟨l, hl⟩ : ∃ l, l = H[k]! := ⟨_, rfl⟩
                  rw [← hl] at t3 t4 hc
                  have cA := rladd_any w7.heap.size vq2 _ l wr hQ.out (by have := hDb.out.size; have := hD.out.size; omega) t1 t3 (by omega)
                  rw [t4] at cA
                  replace cA := Lib.hid cA
                  obtain ⟨Aq2, cq2, hvq2, -⟩ := RRow.form hQ.out
                  have p0 : wr.cell? ⟨g, k * 4, none⟩ = some (.int .u64 (l.1.1 : Int)) := hc 0 _ rfl
                  have p1 : wr.cell? ⟨g, k * 4 + 1, none⟩ = some (.int .u64 (l.1.2 : Int)) := hc 1 _ rfl
                  have p2 : wr.cell? ⟨g, k * 4 + 2, none⟩ = some (.int .u64 (l.2.1 : Int)) := hc 2 _ rfl
                  have p3 : wr.cell? ⟨g, k * 4 + 3, none⟩ = some (.int .u64 (l.2.2 : Int)) := hc 3 _ rfl
                  have hkz : (k : Int) < (nh : Int) := by omega
                  have hkz0 : (0 : Int) ≤ (k : Int) := by omega
                  have hwk : Hid (IntKind.i64.wrap ((k : Int) + 1) = (k : Int) + 1) := Lib.hid (by rw [IntKind.wrap_i64]; omega)
                  replace hl := Lib.hid hl
                  replace hvq2 := Lib.hid hvq2
                  replace t1 := Lib.hid t1
                  replace t3 := Lib.hid t3
                  clear hc t4 t2
                  go_wp2_with fail
                  refine cA.out.mono ?_
                  rintro en w9 ⟨v9, rfl, hQ2, hb⟩
                  replace hD := Lib.hid (hD.out.trans (hb.mono hD.out.size))
                  replace hQ2 := Lib.hid hQ2
                  have hwk := hwk.out
                  clear hb cA hQ p0 p1 p2 p3
                  go_wp2_with fail
                  go_roundg (nh - (k + 1))
                  case measure => omega
                  case rel => exact ⟨k + 1, _, rfl, by simp, by omega, Nat.le_refl _, hQ2, hD⟩
            case neg =>
              obtain rfl : m = i := by omega
              rw [hm.out, hEnd.out] at hQ
              obtain ⟨-, hS, hB⟩ := hWc.out wr hD.out
              obtain ⟨Aq, cq, hvq, -⟩ := RRow.form hQ.out
              subst hvq
              have cL := Lib.hid (lleaves_any w3.heap.size x vL LL wr hS)
              replace hB := Lib.hid hB
              clear hS hD hWc
              go_wp2_with fail
              refine cL.out.mono ?_
              rintro en w8 ⟨vl, rfl, hl, hb⟩
              replace hQ := Lib.hid (hQ.out.below hb)
              replace hB := Lib.hid (hB.out.trans (hb.mono hB.out.size))
              obtain ⟨Al, cl, hvl, -⟩ := LRow.form hl
              subst hvl
              have cE := Lib.hid (lsame23_any wr.heap.size w7.heap.size _ _ LL w8 hl hQ.out hLAng.out (by omega))
              obtain ⟨nL, hnL⟩ : ∃ k, k = LL.length := ⟨_, rfl⟩
              rw [← hnL] at cE ⊢
              clear hb hl cL hQ hnL
              go_wp2_with fail
              refine cE.out.mono ?_
              rintro en w9 ⟨rfl, hb⟩
              replace hB := Lib.hid (hB.out.trans (hb.mono hB.out.size))
              clear hb cE
              go_wp2_with fail
              refine (cAw.out _).mono ?_
              rintro en wx ⟨rfl, hb⟩
              replace hB := Lib.hid (hB.out.trans (hb.mono hB.out.size))
              clear hb
              go_wp2_with fail
              go_ret
              exact ⟨rfl, hB.out⟩
end Go.Proofs.YtoaggmegmgdgbaaGreat
