/- filigreeref23.Hull. -/
import Derived.Test.YtoaggmegmgdgbaaGreatRRise
import Derived.Test.YtoaggmegmgdgbaaGreatTail
namespace Go.Proofs.YtoaggmegmgdgbaaGreat
open Go.RowKit Go.Sort

theorem putS_len (L : List Lf) (l : Lf) : (putS L l).length ≤ L.length + 1 := by
  unfold putS
  split
  · omega
  · rw [putL_length (plcL_le L l)]; exact Nat.le_refl _
theorem foldl_putS_len : ∀ (l L : List Lf), (l.foldl putS L).length ≤ L.length + l.length
  | [], L => by simp
  | a :: r, L => by
    have h1 := foldl_putS_len r (putS L a)
    have h2 := putS_len L a
    rw [List.foldl_cons, List.length_cons]
    omega

set_option maxRecDepth 100000 in
set_option maxHeartbeats 8000000 in
/-- filigreeref23.Hull -/
theorem rhull_any (B : Nat) (v : Value) (L : List PT) (w : World) (hv : QRow w B v L) (hM : ∀ p, p ∈ L → Ang p) (hlen : L.length ≤ 4000) :
    Calls Tryz.prog 14 #[v] w (fun e w' => ∃ v', e = .returned v' ∧ RRow w' w.heap.size v' (hullL (riseL L)) ∧ Below w.heap.size w w') := by
  have hE0 := Lib.hid (riseL_rises hM)
  have hEa : ∀ p, p ∈ riseL L → Ang p := fun p hp => hM p (riseL_mem.1 hp)
  have hEl := riseL_len L
  have cR := Lib.hid (rrising_any B v L w hv hM (by omega))
  obtain ⟨E, hE⟩ : ∃ E, E = riseL L := ⟨_, rfl⟩
  rw [← hE] at cR hE0 hEa hEl ⊢
  obtain ⟨n, hn⟩ : ∃ n, n = E.length := ⟨_, rfl⟩
  rw [← hn] at hEl
  have hn4 : n ≤ 4000 := by omega
  replace hEa := Lib.hid hEa
  obtain ⟨A, c, rfl, -⟩ := QRow.form hv
  have hRaw : Hid (hullRaw E = ((List.range (n - 1)).map fun k => mkL E[k]! E[k + 1]!) ++ (if 2 < n then [mkL E[0]! E[n - 1]!] else [])) := Lib.hid (by unfold hullRaw; rw [← hn])
  have hang : Hid (∀ k, k < n → Ang E[k]!) := Lib.hid (fun k hk => hEa.out _ (by rw [getElem!_pos E k (by omega)]; exact List.getElem_mem _))
  have hmk : Hid (∀ a b, a < b → b < n → mkL E[a]! E[b]! = (E[a]!, E[b]!)) := Lib.hid (fun a b h1 h2 => mkL_ky (hang.out a (by omega)) (hang.out b h2) (rise_ky hEa.out hE0.out h1 (by omega)))
  have hFa : Hid (∀ i, i + 1 ≤ n ∨ i = 0 → ∀ m, m ∈ ((List.range i).map fun k => mkL E[k]! E[k + 1]!) → AngL m) := Lib.hid (fun i hi m hm => by
    obtain ⟨k, hk, rfl⟩ := List.mem_map.1 hm
    rw [List.mem_range] at hk
    rw [hmk.out k (k + 1) (Nat.lt_succ_self k) (by omega)]
    exact ⟨hang.out k (by omega), hang.out (k + 1) (by omega)⟩)
  have hput : Hid (∀ (i : Nat) (u : Value) (p q : PT) W, i + 1 ≤ n ∨ i = 0 → Ang p → Ang q → RRow W w.heap.size u (((List.range i).map fun k => mkL E[k]! E[k + 1]!).foldl putS []) → w.heap.size ≤ W.heap.size → Calls Tryz.prog 63 #[u, .agg #[.int .u64 (p.1 : Int), .int .u64 (p.2 : Int), .int .u64 (q.1 : Int), .int .u64 (q.2 : Int)]] W fun e w' => ∃ v', e = .returned v' ∧ RRow w' w.heap.size v' (putS (((List.range i).map fun k => mkL E[k]! E[k + 1]!).foldl putS []) (p, q)) ∧ Below W.heap.size W w') := Lib.hid (fun i u p q W hi hp hq h1 h2 => by
    have hf := foldl_putS ((List.range i).map fun k => mkL E[k]! E[k + 1]!) up_nil (hFa.out i hi)
    have hl := foldl_putS_len ((List.range i).map fun k => mkL E[k]! E[k + 1]!) []
    rw [List.length_map, List.length_range] at hl
    exact rlput_any w.heap.size u _ (p, q) W h1 h2 hf.1.1 ⟨hp, hq⟩ hf.1.2 (by rw [List.length_nil] at hl; omega))
  replace hE := Lib.hid hE
  replace hn := Lib.hid hn
  clear hv hM hFa hEl
  go_enter Tryz.func14, Tryz.ntmps14
  go_wp2_with fail
  refine cR.out.mono ?_
  rintro en w2 ⟨v2, rfl, hQ, hb⟩
  have hQ2 := Lib.hid hQ
  have hB := Lib.hid hb
  clear hb hQ cR
  obtain ⟨AE, cE, rfl, hAE⟩ := QRow.form hQ2.out
  rw [← hn.out] at hQ2 hAE ⊢
  go_wp2_with fail
  go_loopg [4, 3] n (fun kx s4 s3 wr => ∃ (i : Nat) (v3 : Value), s4 = .int .i64 (i : Int) ∧ v3 = s3 ∧ (i + 1 ≤ n ∨ i = 0) ∧ n - (i + 1) ≤ kx ∧ Hid (RRow wr w.heap.size v3 (((List.range i).map fun k => mkL E[k]! E[k + 1]!).foldl putS [])) ∧ Hid (QRow wr w.heap.size (.slice AE n cE) E) ∧ Hid (Below w.heap.size w wr))
  case atStart => exact ⟨0, _, rfl, rfl, .inr rfl, by omega, Lib.hid (World.ownsRow_nil _ _ _ _), hQ2, hB⟩
  case round =>
    clear hQ2 hB
    obtain ⟨i, v3, rfl, rfl, hin, hg, hR, hQ, hB⟩ := hrel
    have hw1 : IntKind.i64.wrap ((i : Int) + 1) = (i : Int) + 1 := by rw [IntKind.wrap_i64]; omega
    by_cases hlt : i + 1 < n
    case pos =>
      have hil : i + 1 < E.length := by rw [← hn.out]; exact hlt
      obtain ⟨g, rfl⟩ := hAE (by omega)
      obtain ⟨p, hp⟩ : ∃ m, m = E[i]! := ⟨_, rfl⟩
      obtain ⟨q, hq⟩ : ∃ m, m = E[i + 1]! := ⟨_, rfl⟩
      have hCp := QRow.cell hQ.out (show i < E.length by omega)
      have hCq := QRow.cell hQ.out hil
      rw [← hp] at hCp
      rw [← hq] at hCq
      have p0 : ∀ d os, (grow (redrawn wr d) os).cell? ⟨g, i * 2, none⟩ = some (.int .u64 (p.1 : Int)) := cell_regrown (hCp 0 _ rfl)
      have p1 : ∀ d os, (grow (redrawn wr d) os).cell? ⟨g, i * 2 + 1, none⟩ = some (.int .u64 (p.2 : Int)) := cell_regrown (hCp 1 _ rfl)
      have q0 : ∀ d os, (grow (redrawn wr d) os).cell? ⟨g, (i + 1) * 2, none⟩ = some (.int .u64 (q.1 : Int)) := cell_regrown (hCq 0 _ rfl)
      have q1 : ∀ d os, (grow (redrawn wr d) os).cell? ⟨g, (i + 1) * 2 + 1, none⟩ = some (.int .u64 (q.2 : Int)) := cell_regrown (hCq 1 _ rfl)
      have hiz : (i : Int) + 1 < (n : Int) := by omega
      have hs4 : ((i : Int) + 1).toNat = i + 1 := by omega
      have hs5 : (0 : Int) ≤ (i : Int) + 1 := by omega
      have hs6 : (i : Int) < (n : Int) := by omega
      have hpA : Ang p := by rw [hp]; exact hang.out i (by omega)
      have hqA : Ang q := by rw [hq]; exact hang.out (i + 1) (by omega)
      have hsn : Hid (((List.range (i + 1)).map fun k => mkL E[k]! E[k + 1]!).foldl putS [] = putS (((List.range i).map fun k => mkL E[k]! E[k + 1]!).foldl putS []) (p, q)) := Lib.hid (by
        rw [List.range_succ, List.map_append, List.foldl_append, List.map_singleton, hmk.out i (i + 1) (Nat.lt_succ_self i) hlt, ← hp, ← hq]; rfl)
      replace hp := Lib.hid hp
      replace hq := Lib.hid hq
      clear hCp hCq hil
      go_upto_region 6 with fail
      refine wp_region_tail_below 11 (by kernel_rfl) (by kernel_rfl) ?_
      simp only [List.take_succ_cons, List.take_zero, List.drop_succ_cons, List.drop_zero]
      iterate 11 (quiet_step (fail))
      refine wpQuiet_nil ?_
      intro w3 hb2
      have hR3 := Lib.hid (RRow.below hR.out hb2)
      have hQ3 := Lib.hid (QRow.below hQ.out hb2)
      have hB3 := Lib.hid (hB.out.trans (hb2.mono hB.out.size))
      have cP := Lib.hid (hput.out i v3 p q w3 hin hpA hqA hR3.out hB3.out.size)
      rw [← hsn.out] at cP
      clear hb2 p0 p1 q0 q1 hR hQ hB hR3 hpA hqA
      go_wp2_with fail
      refine cP.out.mono ?_
      rintro en w4 ⟨v4, rfl, hR4, hb4⟩
      replace hR4 := Lib.hid hR4
      have hQ4 := Lib.hid (QRow.below hQ3.out hb4)
      have hB4 := Lib.hid (hB3.out.trans (hb4.mono hB3.out.size))
      clear hb4 cP hQ3 hB3
      go_wp2_with fail
      go_roundg (n - (i + 1 + 1))
      case measure => omega
      case rel => exact ⟨i + 1, v4, by simp, rfl, by omega, Nat.le_refl _, hR4, hQ4, hB4⟩
    case neg =>
      have hi1 : i = n - 1 := by omega
      have hiz : ¬ (i : Int) + 1 < (n : Int) := by omega
      by_cases hn2 : 2 < n
      case neg =>
        have hfin : Hid (RRow wr w.heap.size v3 (hullL E)) := Lib.hid (by
          rw [hullL, hRaw.out, if_neg hn2, List.append_nil, ← hi1]
          exact hR.out)
        have hn2z : ¬ (2 : Int) < (n : Int) := by omega
        clear hR hQ hRaw hmk hang hput hi1 hg hin
        go_wp2_with fail
        go_ret
        exact ⟨_, rfl, hfin.out, hB.out⟩
      case pos =>
        obtain ⟨g, rfl⟩ := hAE (by omega)
        obtain ⟨p, hp⟩ : ∃ m, m = E[0]! := ⟨_, rfl⟩
        obtain ⟨q, hq⟩ : ∃ m, m = E[n - 1]! := ⟨_, rfl⟩
        have hCp := QRow.cell hQ.out (show 0 < E.length by rw [← hn.out]; omega)
        have hCq := QRow.cell hQ.out (show n - 1 < E.length by rw [← hn.out]; omega)
        rw [← hp] at hCp
        rw [← hq] at hCq
        have p0 : ∀ d os, (grow (redrawn wr d) os).cell? ⟨g, 0, none⟩ = some (.int .u64 (p.1 : Int)) := cell_regrown (by have h := hCp 0 _ rfl; simpa using h)
        have p1 : ∀ d os, (grow (redrawn wr d) os).cell? ⟨g, 1, none⟩ = some (.int .u64 (p.2 : Int)) := cell_regrown (by have h := hCp 1 _ rfl; simpa using h)
        have q0 : ∀ d os, (grow (redrawn wr d) os).cell? ⟨g, (n - 1) * 2, none⟩ = some (.int .u64 (q.1 : Int)) := cell_regrown (hCq 0 _ rfl)
        have q1 : ∀ d os, (grow (redrawn wr d) os).cell? ⟨g, (n - 1) * 2 + 1, none⟩ = some (.int .u64 (q.2 : Int)) := cell_regrown (hCq 1 _ rfl)
        have hn2z : (2 : Int) < (n : Int) := by omega
        have hn0z : (0 : Int) < (n : Int) := by omega
        have hn0 : 0 < n := by omega
        have hs3 : IntKind.i64.wrap ((n : Int) - 1) = (n : Int) - 1 := by rw [IntKind.wrap_i64]; omega
        have hs4 : ((n : Int) - 1).toNat = n - 1 := by omega
        have hs5 : (0 : Int) ≤ (n : Int) - 1 := by omega
        have hs6 : (n : Int) - 1 < (n : Int) := by omega
        have hs7 : (1 : Int) ≤ (n : Int) := by omega
        have hs8 : 1 ≤ n := by omega
        have hpA : Ang p := by rw [hp]; exact hang.out 0 (by omega)
        have hqA : Ang q := by rw [hq]; exact hang.out (n - 1) (by omega)
        have hsn : Hid (hullL E = putS (((List.range i).map fun k => mkL E[k]! E[k + 1]!).foldl putS []) (p, q)) := Lib.hid (by
          rw [hullL, hRaw.out, if_pos hn2, List.foldl_append, ← hi1, hi1, hmk.out 0 (n - 1) (by omega) (by omega), ← hp, ← hq, ← hi1]; rfl)
        replace hp := Lib.hid hp
        replace hq := Lib.hid hq
        replace hi1 := Lib.hid hi1
        clear hCp hCq hRaw
        go_upto_region 8 with fail
        refine wp_region_tail_below 11 (by kernel_rfl) (by kernel_rfl) ?_
        simp only [List.take_succ_cons, List.take_zero, List.drop_succ_cons, List.drop_zero]
        iterate 11 (quiet_step (fail))
        refine wpQuiet_nil ?_
        intro w3 hb2
        have hR3 := Lib.hid (RRow.below hR.out hb2)
        have hB3 := Lib.hid (hB.out.trans (hb2.mono hB.out.size))
        have cP := Lib.hid (hput.out i v3 p q w3 hin hpA hqA hR3.out hB3.out.size)
        rw [← hsn.out] at cP
        clear hb2 p0 p1 q0 q1 hR hQ hB hR3 hpA hqA hs3 hs4 hs5 hs6 hs7 hs8
        go_wp2_with fail
        refine cP.out.mono ?_
        rintro en w4 ⟨v4, rfl, hR4, hb4⟩
        replace hR4 := Lib.hid hR4
        have hB4 := Lib.hid (hB3.out.trans (hb4.mono hB3.out.size))
        clear hb4 cP hB3
        go_wp2_with fail
        go_ret
        exact ⟨_, rfl, hR4.out, hB4.out⟩
end Go.Proofs.YtoaggmegmgdgbaaGreat
