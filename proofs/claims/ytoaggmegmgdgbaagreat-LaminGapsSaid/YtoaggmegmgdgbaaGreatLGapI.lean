import Derived.Test.YtoaggmegmgdgbaaGreatGapM
import Derived.Test.YtoaggmegmgdgbaaGreatPlay0
namespace Go.Proofs.YtoaggmegmgdgbaaGreat
open Go.RowKit Go.Sort Go.Maps
theorem ins_hit {G : List (List (PT × PT))} {a : PT} {i : Nat} (hi : i < G.length) (h : (G[i]!).any (inA a) = true) (h0 : ∀ j, j < i → (G[j]!).any (inA a) = false) : insG G a = (i : Int) := by
  have e : G.findIdx (fun g => g.any (inA a)) = i := (List.findIdx_eq hi).2 ⟨by rw [← getElem!_pos G i hi]; exact h, fun j hj => by rw [← getElem!_pos G j (by omega)]; exact h0 j hj⟩
  unfold insG
  rw [e, if_pos hi]
theorem ins_no {G : List (List (PT × PT))} {a : PT} (h : ∀ j, j < G.length → (G[j]!).any (inA a) = false) : insG G a = -1 := by
  unfold insG
  rw [if_neg]
  intro hlt
  have h1 := List.findIdx_getElem (w := hlt)
  have h2 := h _ hlt
  rw [getElem!_pos G _ hlt] at h2
  rw [h2] at h1
  exact Bool.noConfusion h1
theorem anyA_no {x : List (PT × PT)} {a : PT} (h : ∀ k, k < x.length → inA a x[k]! = false) : x.any (inA a) = false := List.any_eq_false.2 fun y hy => by
  obtain ⟨k, hk, rfl⟩ := List.mem_iff_getElem.1 hy
  have := h k hk
  rw [getElem!_pos x k hk] at this
  rw [this]; exact Bool.false_ne_true
theorem anyA_hit {x : List (PT × PT)} {a : PT} {k : Nat} (hk : k < x.length) (h : inA a x[k]! = true) : x.any (inA a) = true := List.any_eq_true.2 ⟨x[k]!, by rw [getElem!_pos x k hk]; exact List.getElem_mem hk, h⟩
theorem betw_lf {x : PT × PT} {a : PT} (hx : AngL x) (ha : Ang a) : betweenV false (natS x.1.1) (natS x.1.2) false (natS a.1) (natS a.2) false (natS x.2.1) (natS x.2.2) = .tuple #[.bool (inA a x), .int .i64 0] := by
  unfold betweenV
  rw [hx.1.ok, hx.2.ok, ha.ok, be_natS, be_natS, be_natS, be_natS, be_natS, be_natS]
  rfl
set_option maxRecDepth 100000 in
set_option maxHeartbeats 4000000 in
theorem linside_any (B : Nat) (v : Value) (vs : List Value) (G : List (List (PT × PT))) (a : PT) (w : World) (hv : NestP w B 71 74 6 leafE [] v vs G) (hG : ∀ g, g ∈ G → ∀ x, x ∈ g → AngL x) (ha : Ang a) (hlen : G.length ≤ 8192) (hx : ∀ g, g ∈ G → g.length ≤ 8192) :
    Calls Tryz.prog 36 #[v, .agg #[.bool false, .string (natS a.1), .string (natS a.2)]] w (RetVal (.int .i64 (insG G a)) w) := by
  obtain ⟨n, hn⟩ : ∃ n, n = G.length := ⟨_, rfl⟩
  have hvl : vs.length = n := by rw [hv.1, hn]
  obtain ⟨Au, cu, rfl, -, hAu⟩ := own_form hv.row
  rw [hvl] at hv hAu ⊢
  have cBt : Hid (∀ (x : PT × PT) (W : World), AngL x → Calls Tryz.prog 88 #[.agg #[.bool false, .string (natS x.1.1), .string (natS x.1.2)], .agg #[.bool false, .string (natS a.1), .string (natS a.2)], .agg #[.bool false, .string (natS x.2.1), .string (natS x.2.2)]] W (RetVal (.tuple #[.bool (inA a x), .int .i64 0]) W)) := Lib.hid (fun x W hx => by
    have h := between_any false (natS x.1.1) (natS x.1.2) false (natS a.1) (natS a.2) false (natS x.2.1) (natS x.2.2) W (okA_size hx.1.ok).1 (okA_size hx.1.ok).2 (okA_size ha.ok).1 (okA_size ha.ok).2 (okA_size hx.2.ok).1 (okA_size hx.2.ok).2
    rw [betw_lf hx ha] at h
    exact h)
  have hNest := Lib.hid (fun (W : World) (hb : Below w.heap.size w W) => hv.below hb)
  have hGA : Hid (∀ i, i < n → ∀ k, k < G[i]!.length → AngL G[i]![k]!) := Lib.hid (fun i hi k hk => hG _ (by rw [getElem!_pos G i (by omega)]; exact List.getElem_mem _) _ (getBang_mem hk))
  have hxl : Hid (∀ i, i < n → G[i]!.length ≤ 8192) := Lib.hid (fun i hi => hx _ (by rw [getElem!_pos G i (by omega)]; exact List.getElem_mem (by omega)))
  have kk0 := Blk.new w 26 #[.bool false, .string (natS a.1), .string (natS a.2)]
  have K := Lib.hid (KeepT.one kk0)
  have hB := Lib.hid (show Below w.heap.size w (w.alloc (.cells #[.bool false, .string (natS a.1), .string (natS a.2)] 26)) from (Below.refl _ w).alloc (Nat.le_refl _) _)
  rw [← hn] at hlen
  replace hn := Lib.hid hn
  replace hvl := Lib.hid hvl
  clear hv hG hx kk0 ha
  go_enter Tryz.func36, Tryz.ntmps36
  go_upto_region 1 with fail
  generalize hW : w.alloc (.cells #[.bool false, .string (natS a.1), .string (natS a.2)] 26) = w1 at K hB ⊢
  clear hW
  go_wp2_with fail
  go_loopg [5] n (fun kx s5 wr => ∃ i : Nat, s5 = .int .i64 (i : Int) ∧ i ≤ n ∧ n - i ≤ kx ∧ Hid (KeepT wr [(w.heap.size, 26, #[.bool false, .string (natS a.1), .string (natS a.2)])]) ∧ Hid (Below w.heap.size w wr) ∧ Hid (∀ j, j < i → (G[j]!).any (inA a) = false))
  case atStart => exact ⟨0, rfl, Nat.zero_le _, Nat.le_refl _, K, hB, Lib.hid (fun j hj => absurd hj (Nat.not_lt_zero _))⟩
  case round =>
    clear K hB
    obtain ⟨i, rfl, hin, hg, K, hB, I⟩ := hrel
    by_cases hlt : i < n
    case neg =>
      obtain rfl : n = i := by omega
      go_wp2_with fail
      go_ret
      exact ⟨by rw [ins_no (fun j hj => I.out j (by rw [hn.out]; exact hj))]; rfl, hB.out⟩
    case pos =>
      obtain ⟨gu, rfl⟩ := hAu (by omega)
      obtain ⟨x, hx⟩ : ∃ x, x = G[i]! := ⟨_, rfl⟩
      obtain ⟨ui, hui⟩ : ∃ u, u = vs[i]! := ⟨_, rfl⟩
      have hr : Hid (∀ W, Below w.heap.size w W → W.cell? ⟨gu, i, none⟩ = some ui ∧ W.ownsRow B 74 6 ui x.length (x.flatMap leafE)) := Lib.hid (fun W hb => by
        have h := hNest.out W hb
        have hi1 : i < vs.length := by rw [hvl.out]; exact hlt
        refine ⟨?_, ?_⟩
        · have h1 := h.row
          rw [hvl.out] at h1
          rw [World.ownsRow.cellAt h1 i (by omega), List.getElem?_eq_getElem hi1, hui, getElem!_pos vs i hi1]
        · have h1 := h.inner (g := i) hi1
          rw [← getElem!_pos vs i hi1, ← getElem!_pos G i (by rw [← hn.out]; exact hlt), ← hui, ← hx] at h1
          exact h1)
      obtain ⟨m, hm⟩ : ∃ m, m = x.length := ⟨_, rfl⟩
      have hm8 : m ≤ 8192 := by rw [hm, hx]; exact hxl.out i hlt
      have hxa : Hid (∀ k, k < m → AngL x[k]!) := Lib.hid (fun k hk => by rw [hx]; exact hGA.out i hlt k (by rw [← hx, ← hm]; exact hk))
      rw [← hm] at hr
      obtain ⟨Ai, ci, rfl, -, hAi⟩ := own_form (hr.out wr hB.out).2
      have hiz : (i : Int) < (n : Int) := by omega
      have hiz0 : (0 : Int) ≤ (i : Int) := by omega
      have hw1 : IntKind.i64.wrap ((i : Int) + 1) = (i : Int) + 1 := by rw [IntKind.wrap_i64]; omega
      have hw1 := Lib.hid hw1
      replace hx := Lib.hid hx
      replace hui := Lib.hid hui
      replace hm := Lib.hid hm
      replace hAi := Lib.hid hAi
      go_wp2_with fail
      go_loopg [6, 7, 8] m (fun kx s6 s7 s8 wr => ∃ k : Nat, s6 = .int .i64 (k : Int) ∧ s7 = s7 ∧ s8 = s8 ∧ k ≤ m ∧ m - k ≤ kx ∧ Hid (KeepT wr [(w.heap.size, 26, #[.bool false, .string (natS a.1), .string (natS a.2)])]) ∧ Hid (Below w.heap.size w wr) ∧ Hid (∀ j, j < k → inA a x[j]! = false))
      case atStart => exact ⟨0, rfl, rfl, rfl, Nat.zero_le _, Nat.le_refl _, K, hB, Lib.hid (fun j hj => absurd hj (Nat.not_lt_zero _))⟩
      case round =>
        clear K hB
        obtain ⟨k, rfl, -, -, hkm, hgk, K, hB, J⟩ := hrel
        have c0 := (hr.out wr hB.out).1
        by_cases hlk : k < m
        case neg =>
          obtain rfl : m = k := by omega
          have J := Lib.hid (anyA_no (fun j hj => J.out j (by rw [hm.out]; exact hj)))
          have hI : Hid (∀ j, j < i + 1 → (G[j]!).any (inA a) = false) := Lib.hid (fun j hj => by
            rcases Nat.lt_or_ge j i with h | h
            · exact I.out j h
            · obtain rfl : j = i := by omega
              rw [← hx.out]; exact J.out)
          have hw1 := hw1.out
          go_wp2_with fail
          go_roundg (n - (i + 1))
          case measure => omega
          case rel => exact ⟨i + 1, by simp, by omega, Nat.le_refl _, K, hB, hI⟩
        case pos =>
          obtain ⟨gi, hgi⟩ := hAi.out (by omega)
          subst hgi
          obtain ⟨y, hy⟩ : ∃ y, y = x[k]! := ⟨_, rfl⟩
          have hC := row_cell6 (hr.out wr hB.out).2 (i := k) (by rw [← hm.out]; exact hlk) hm.out
          rw [← hy] at hC
          have cM : ∀ d os, Calls Tryz.prog 88 #[.agg #[.bool false, .string (natS y.1.1), .string (natS y.1.2)], .agg #[.bool false, .string (natS a.1), .string (natS a.2)], .agg #[.bool false, .string (natS y.2.1), .string (natS y.2.2)]] (grow (redrawn wr d) os) fun e w'' => e = .returned (.tuple #[.bool (inA a y), .int .i64 0]) ∧ ∃ p : Regrown, w'' = grow (redrawn wr p.d) p.os := fun d os => Calls.regrown_of (cBt.out y _ (by rw [hy]; exact hxa.out k hlk))
          obtain ⟨bb, hbb⟩ : ∃ b, b = inA a y := ⟨_, rfl⟩
          rw [← hbb] at cM
          have c0r : ∀ d os, (grow (redrawn wr d) os).cell? ⟨gu, i, none⟩ = some (.slice (some ⟨gi, 0, none⟩) m ci) := cell_regrown c0
          have hkz : (k : Int) < (m : Int) := by omega
          have hkz0 : (0 : Int) ≤ (k : Int) := by omega
          have hw2 : IntKind.i64.wrap ((k : Int) + 1) = (k : Int) + 1 := by rw [IntKind.wrap_i64]; omega
          replace hy := Lib.hid hy
          replace hbb := Lib.hid hbb
          have b0 : ∀ d os, (grow (redrawn wr d) os).cell? ⟨w.heap.size, 0, none⟩ = some (.bool false) := cell_regrown ((K.out.at_ 0 rfl).cell 0)
          have b1 : ∀ d os, (grow (redrawn wr d) os).cell? ⟨w.heap.size, 1, none⟩ = some (.string (natS a.1)) := cell_regrown ((K.out.at_ 0 rfl).cell 1)
          have b2 : ∀ d os, (grow (redrawn wr d) os).cell? ⟨w.heap.size, 2, none⟩ = some (.string (natS a.2)) := cell_regrown ((K.out.at_ 0 rfl).cell 2)
          have p0 : ∀ d os, (grow (redrawn wr d) os).cell? ⟨gi, k * 6, none⟩ = some (.bool false) := cell_regrown (hC 0 _ rfl)
          have p1 : ∀ d os, (grow (redrawn wr d) os).cell? ⟨gi, k * 6 + 1, none⟩ = some (.string (natS y.1.1)) := cell_regrown (hC 1 _ rfl)
          have p2 : ∀ d os, (grow (redrawn wr d) os).cell? ⟨gi, k * 6 + 2, none⟩ = some (.string (natS y.1.2)) := cell_regrown (hC 2 _ rfl)
          have p3 : ∀ d os, (grow (redrawn wr d) os).cell? ⟨gi, k * 6 + 3, none⟩ = some (.bool false) := cell_regrown (hC 3 _ rfl)
          have p4 : ∀ d os, (grow (redrawn wr d) os).cell? ⟨gi, k * 6 + 4, none⟩ = some (.string (natS y.2.1)) := cell_regrown (hC 4 _ rfl)
          have p5 : ∀ d os, (grow (redrawn wr d) os).cell? ⟨gi, k * 6 + 5, none⟩ = some (.string (natS y.2.2)) := cell_regrown (hC 5 _ rfl)
          clear hC
          go_upto_region 7 with fail
          refine wp_region_quiet_below (by kernel_rfl) (by kernel_rfl) ?_
          iterate 17 (quiet_step (fail))
          quiet_step (exact cM _ _)
          iterate 5 (quiet_step (fail))
          refine wpQuiet_nil ?_
          intro w4 hw'
          have hb : Below wr.heap.size wr w4 := by
            obtain ⟨p, rfl⟩ := hw'
            exact below_regrown wr p.d p.os
          have hB4 := Lib.hid (hB.out.trans (hb.mono hB.out.size))
          replace K := Lib.hid (K.out.below hb)
          clear hw' hb c0r c0 cM p0 p1 p2 p3 p4 p5 b0 b1 b2 hB
          cases bb
          case false =>
            have hJ : Hid (∀ j, j < k + 1 → inA a x[j]! = false) := Lib.hid (fun j hj => by
              rcases Nat.lt_or_ge j k with h | h
              · exact J.out j h
              · obtain rfl : j = k := by omega
                rw [← hy.out]; exact hbb.out.symm)
            go_wp2_with fail
            go_roundg (m - (k + 1))
            case measure => omega
            case rel => exact ⟨k + 1, by simp, trivial, trivial, by omega, Nat.le_refl _, K, hB4, hJ⟩
          case true =>
            have hR : Hid (insG G a = (i : Int)) := Lib.hid (ins_hit (by rw [← hn.out]; exact hlt) (by rw [← hx.out]; exact anyA_hit (by rw [← hm.out]; exact hlk) (by rw [← hy.out]; exact hbb.out.symm)) I.out)
            go_wp2_with fail
            go_ret
            exact ⟨by rw [hR.out]; rfl, hB4.out⟩
end Go.Proofs.YtoaggmegmgdgbaaGreat
