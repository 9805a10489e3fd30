/- filigreelaw23.LaminHulls: the walk. -/
import Derived.Test.YtoaggmegmgdgbaaGreatHullB
import Derived.Test.YtoaggmegmgdgbaaGreatRHull
import Derived.Test.YtoaggmegmgdgbaaGreatSame23
import Derived.Test.YtoaggmegmgdgbaaGreatLamL
import Derived.Test.YtoaggmegmgdgbaaGreatLamO
namespace Go.Proofs.YtoaggmegmgdgbaaGreat
open Go.RowKit Go.Sort

theorem RRow.but {A B : World} {r : Nat → Prop} {base : Nat} {v : Value} {L : List Lf} (h : RRow A base v L) (hb : But r A B) (hr : ∀ k, v.ownBlock = some k → ¬ r k) : RRow B base v L := by
  obtain ⟨h1, h2⟩ := h
  refine ⟨h1, h2.imp id ?_⟩
  rintro ⟨g, cap, cur, rfl, hbs, hg, rest⟩
  have hlt : g < A.heap.size := by
    rcases Nat.lt_or_ge g A.heap.size with h | h
    · exact h
    · rw [Array.getElem?_eq_none h] at hg; cases hg
  exact ⟨g, cap, cur, rfl, hbs, (hb.block g hlt (hr g rfl)).trans hg, rest⟩
theorem hullL_ang {E : List PT} (h : ∀ p, p ∈ E → Ang p) : ∀ m, m ∈ hullL E → AngL m := fun m hm => by
  have h1 := (foldl_putS (hullRaw E) (L := []) up_nil (hullRaw_ang h)).2 m
  exact hullRaw_ang h m (((h1.1 hm).resolve_left (by simp)))
theorem hullRaw_len (E : List PT) : (hullRaw E).length ≤ E.length + 1 := by
  unfold hullRaw
  rw [List.length_append, List.length_map, List.length_range]
  split <;> simp <;> omega
theorem hullL_len (E : List PT) : (hullL E).length ≤ E.length + 1 := by
  have h1 := foldl_putS_len (hullRaw E) []
  have h2 := hullRaw_len E
  rw [List.length_nil, Nat.zero_add] at h1
  exact Nat.le_trans h1 h2
theorem encQ_len (r : RawQ) : (encQ r).length = 3 := rfl
theorem flatQ_len (Ls : List RawQ) : (Ls.flatMap encQ).length = Ls.length * 3 := flatMap_len encQ 3 encQ_len Ls
theorem flatQ_get (Ls : List RawQ) : ∀ i, i < Ls.length → ∀ (j : Nat) (u : Value), (encQ Ls[i]!)[j]? = some u → (Ls.flatMap encQ)[i * 3 + j]? = some u := fun i hi j u hu => by
  have hj : j < 3 := (List.getElem?_eq_some_iff.1 hu).1
  rw [flatMap_get encQ 3 encQ_len Ls i j hi hj, ← getElem!_pos Ls i hi]
  exact hu
theorem flatQ_one (Ls : List RawQ) : ∀ u ∈ Ls.flatMap encQ, u.oneCell' = true := fun u hu => by
  obtain ⟨r, -, h⟩ := List.mem_flatMap.1 hu
  simp only [encQ, List.mem_cons, List.not_mem_nil, or_false] at h
  rcases h with rfl | rfl | rfl <;> rfl
theorem app_raw {P : Program} {w : World} {base : Nat} {t ty e : TypeId} {i : TypeInfo} {z : Value} {bytes : Nat} (ht : P.underlying t = some (.slice e)) (hi : P.info? e = some i) (hz : i.zero = some z)
    (hsize : i.size = 3) (hby : i.bytes = bytes) (hzs : z.cells.size = 3) {A : Option Addr} {n c : Nat} {Ls : List RawQ} (hR : RdK 3 encQ w (.slice A n c) Ls) (h63 : n ≤ maxLen) (hbytes : n * bytes ≤ 140737488355328) (hbase : base ≤ w.heap.size) :
    ∃ v' w', (Builtin.append_ #[t, t] ty #[.slice none 0 0, .slice A n c]).run P w = .ok v' w' ∧ w'.ownsRow base e 3 v' n (Ls.flatMap encQ) ∧ w.grownBy w' none := by
  obtain ⟨A', c', e1, h3⟩ := hR
  injection e1 with e1 e2 e3
  subst e1 e2 e3
  have h0 : w.ownsRow base e 3 (.slice none 0 0) 0 [] := World.ownsRow_nil _ _ _ _
  by_cases hn : Ls = []
  · subst hn
    cases A with
    | none => exact ⟨.slice none 0 0, w, by simp [Builtin.append_, run_underlying ht, sizeOf, typeInfo, hi, Builtin.lenOf, Builtin.firstCells], by simpa using h0, gb_refl _ _⟩
    | some a =>
      obtain ⟨v', w', hr, ho, hg, -⟩ := run_append_own (P := P) w base t ty e i z 3 bytes ht hi hz hsize hby hzs (by decide) _ 0 [] h0 a 0 c [] rfl (fun j u hj => by simp at hj) (fun u hu => by cases hu) (by simp) (by simp) hbase
      exact ⟨v', w', hr, by simpa using ho, hg⟩
  · have hpos : 0 < Ls.length := List.length_pos_iff.2 hn
    obtain ⟨g, o, rfl, h⟩ := h3 hpos
    obtain ⟨v', w', hr, ho, hg, -⟩ := run_append_own (P := P) w base t ty e i z 3 bytes ht hi hz hsize hby hzs (by decide) _ 0 [] h0 ⟨g, o, none⟩ Ls.length c (Ls.flatMap encQ) (flatQ_len Ls) (fun j u hj => by
      have hl : j < Ls.length * 3 := by
        have := (List.getElem?_eq_some_iff.1 hj).1
        rwa [flatQ_len] at this
      have hq : j / 3 < Ls.length := by omega
      have e1 := flatMap_get encQ 3 encQ_len Ls (j / 3) (j % 3) hq (Nat.mod_lt _ (by decide))
      rw [show j / 3 * 3 + j % 3 = j by omega, hj, ← getElem!_pos Ls _ hq] at e1
      have h1 := h (j / 3) hq (j % 3) u e1.symm
      rw [show o + j / 3 * 3 + j % 3 = o + j by omega] at h1
      unfold Addr.add
      split
      · rename_i h0; subst h0; simpa using h1
      · exact h1) (flatQ_one Ls) (by simpa using h63) (by simpa using hbytes) hbase
    exact ⟨v', w', hr, by simpa using ho, hg⟩
theorem wpList_append_raw {P : Program} {w : World} {ops : Array Oper} {rest : List Oper} {o : Oper} {a : Act} {Q : Exit → Act → World → Prop} (hgd : o.guard = none) (s x : Operand) (t : TypeId)
    (ho : o.op = .call { callee := .builtin .append, args := #[s, x], argTypes := #[t, t] })
    (base : Nat) (e : TypeId) (i : TypeInfo) (z : Value) (bytes : Nat) (ht : P.underlying t = some (.slice e)) (hi : P.info? e = some i) (hz : i.zero = some z)
    (hsize : i.size = 3) (hby : i.bytes = bytes) (hzs : z.cells.size = 3) (hs : a.eval s = .slice none 0 0)
    (A : Option Addr) (n c : Nat) (Ls : List RawQ) (hx : a.eval x = .slice A n c) (hR : RdK 3 encQ w (.slice A n c) Ls) (h63 : n ≤ maxLen) (hbytes : n * bytes ≤ 140737488355328) (hbase : base ≤ w.heap.size)
    (h : ∀ v' w', w'.ownsRow base e 3 v' n (Ls.flatMap encQ) → w.grownBy w' none → wpList P ops Q rest (a.put o.dst v') w') : wpList P ops Q (o :: rest) a w := by
  refine wpList_plain hgd fun K hK => ?_
  obtain ⟨v', w', hrun, ho', hg'⟩ := app_raw (P := P) (ty := o.type) ht hi hz hsize hby hzs hR h63 hbytes hbase
  unfold Oper.wp
  simp [execOp, ho, resolve, invoke, builtin, hs, hx, hrun, Result.andThen]
  exact hK _ _ (h v' w' ho' hg')

set_option maxRecDepth 100000 in
set_option maxHeartbeats 8000000 in
theorem laminHulls_any (v : Value) (Ls : List RawQ) (w : World) (hv : RdK 3 encQ w v Ls) (hz : ∀ r, r ∈ Ls → szQ r) :
    Calls Tryz.prog 3 #[v] w (RetVal (.bool true) w) := by
  obtain ⟨i0, hi, hz0, hz1, hz2⟩ := info_parts info_ratio
  have hRd := Lib.hid (fun W (hb : Below w.heap.size w W) => RdK.below hv hb)
  have cAw : Hid (∀ W, Calls Tryz.prog 11 #[] W (RetVal (.bool true) W)) := Lib.hid lawake_any
  have cRead : Hid (Ls.length ≤ 200 → ∀ W, Below w.heap.size w W → Calls Tryz.prog 13 #[v] W fun e w' => (okQ Ls = true ∧ ∃ v', e = .returned (.tuple #[v', .bool true]) ∧ QRow w' W.heap.size v' (angQ Ls) ∧ Below W.heap.size W w') ∨ (okQ Ls = false ∧ e = .returned (.tuple #[.slice none 0 0, .bool false]) ∧ Below W.heap.size W w')) := Lib.hid (fun h2 W hb => lread_any v Ls W (hRd.out W hb) hz (by omega))
  have cRH : Hid (okQ Ls = true → Ls.length ≤ 200 → ∀ W B v, QRow W B v (angQ Ls) → Calls Tryz.prog 14 #[v] W (fun e w' => ∃ v', e = .returned v' ∧ RRow w' W.heap.size v' (hullL (riseL (angQ Ls))) ∧ Below W.heap.size W w')) := Lib.hid (fun h h2 W B v hq => rhull_any B v (angQ Ls) W hq (angQ_ang h) (by rw [angQ_len]; omega))
  have hHa : Hid (okQ Ls = true → ∀ m, m ∈ hullL (riseL (angQ Ls)) → AngL m) := Lib.hid (fun h => hullL_ang (fun p hp => angQ_ang h p (riseL_mem.1 hp)))
  have hHl : Hid (Ls.length ≤ 200 → (hullL (riseL (angQ Ls))).length ≤ 400) := Lib.hid (fun h2 => by
    have h1 := hullL_len (riseL (angQ Ls))
    have h3 := riseL_len (angQ Ls)
    rw [angQ_len] at h3
    omega)
  have cHull : Hid (Ls.length ≤ 200 → ∀ (g cap : Nat) W, (∀ i, i < Ls.length → ∀ (j : Nat) (u : Value), (encQ Ls[i]!)[j]? = some u → W.cell? ⟨g, i * 3 + j, none⟩ = some u) → Calls Tryz.prog 12 #[.slice (some ⟨g, 0, none⟩) Ls.length cap] W fun e w' => ∃ (v' : Value) (ec : Int), e = .returned (.tuple #[v', .int .i64 ec]) ∧ Hid ((okQ Ls = true ∧ ec = 0 ∧ LRow w' W.heap.size v' (hullL (riseL (angQ Ls)))) ∨ (okQ Ls = false ∧ ec = 210 ∧ v' = .slice none 0 0)) ∧ Hid (Below W.heap.size W w')) := Lib.hid (fun h2 g cap W hq => (lHull_any g cap Ls W hq hz (by omega)).mono fun e w' h => by
    rcases h with ⟨h, v', rfl, h1, h3⟩ | ⟨h, rfl, h3⟩
    · exact ⟨v', 0, rfl, Lib.hid (.inl ⟨h, rfl, h1⟩), Lib.hid h3⟩
    · exact ⟨_, 210, rfl, Lib.hid (.inr ⟨h, rfl, rfl⟩), Lib.hid h3⟩)
  obtain ⟨HL, hHL⟩ : ∃ H, H = hullL (riseL (angQ Ls)) := ⟨_, rfl⟩
  rw [← hHL] at cRH hHa hHl cHull
  replace hHL := Lib.hid hHL
  have hFl := flatQ_len Ls
  have hFc := Lib.hid (flatQ_get Ls)
  obtain ⟨A, c, rfl, hA⟩ := hv
  have hC0 : Hid (∀ W, Below w.heap.size w W → 0 < Ls.length → ∃ g o, A = some ⟨g, o, none⟩ ∧ ∀ i, i < Ls.length → ∀ (j : Nat) (u : Value), (encQ Ls[i]!)[j]? = some u → W.cell? ⟨g, o + i * 3 + j, none⟩ = some u) := Lib.hid (fun W hb h0 => by
    obtain ⟨g, o, e, h⟩ := hA h0
    refine ⟨g, o, e, fun i hi j u hu => ?_⟩
    have h1 := h i hi j u hu
    rw [hb.cell (block_lt_of_cell h1)]
    exact h1)
  obtain ⟨FL, hFLe⟩ : ∃ X, X = Ls.flatMap encQ := ⟨_, rfl⟩
  rw [← hFLe] at hFl hFc
  replace hFLe := Lib.hid hFLe
  obtain ⟨n, hn2⟩ : ∃ n, n = Ls.length := ⟨_, rfl⟩
  rw [← hn2] at cRead cRH hHl cHull hFl hFc hC0 hRd ⊢
  replace hn2 := Lib.hid hn2
  replace hFl := Lib.hid hFl
  have hB := Lib.hid (Below.refl w.heap.size w)
  clear hA hz
  go_enter Tryz.func3, Tryz.ntmps3
  by_cases h200 : n ≤ 200
  case neg =>
    have h2 : (200 : Int) < (n : Int) := by omega
    clear cRead cRH hHa hHl cHull hC0 hRd hFc hFl
    go_wp2_with fail
    refine (cAw.out _).mono ?_
    rintro en w2 ⟨rfl, hb⟩
    clear cAw
    go_wp2_with fail
    go_ret
    exact ⟨rfl, hB.out.trans (hb.mono hB.out.size)⟩
  have h2 : ¬ (200 : Int) < (n : Int) := by omega
  replace cRead := Lib.hid (cRead.out h200)
  replace hHl := hHl.out h200
  replace cHull := Lib.hid (cHull.out h200)
  have cRH2 := Lib.hid (fun h => cRH.out h h200)
  clear cRH
  have hR0 := Lib.hid (hRd.out w hB.out)
  clear hRd
  go_wp2_with (at_builtin; refine wpList_append_raw rfl _ _ 22 rfl w.heap.size 26 i0 (.agg #[.bool false, .string ⟨#[]⟩, .string ⟨#[]⟩]) 40 Tryz.underlying22 hi hz0 hz1 hz2 rfl rfl A n c Ls rfl hR0.out ?g5 ?g6 ?g7 ?gK)
  case g5 => unfold maxLen; omega
  case g6 => omega
  case gK =>
    intro v1 w1 hown1 hgrow1
    rw [← hFLe.out] at hown1
    replace hB := Lib.hid (hB.out.grown hgrow1 (Nat.le_refl _) (fun k hk => by cases hk))
    replace hown1 := Lib.hid hown1
    clear hgrow1 hR0
    go_wp2_with (at_builtin; refine wpList_append_own _ rfl _ _ 22 rfl w.heap.size 26 i0 (.agg #[.bool false, .string ⟨#[]⟩, .string ⟨#[]⟩]) 3 40 Tryz.underlying22 hi hz0 hz1 hz2 rfl (by decide) v1 n FL rfl ?z0 ⟨w1.heap.size, 0, none⟩ 1 1 [.bool true, .string ⟨#[]⟩, .string ⟨#[]⟩] ?z1 ?z2 ?z3 ?z4 ?z5 ?z6 ?z7 ?zK)
    case z0 => exact World.ownsRow.alloc hown1.out _
    case z1 => rfl
    case z2 => rfl
    case z3 => exact news_new w1 26 [.bool true, .string ⟨#[]⟩, .string ⟨#[]⟩]
    case z4 => intro u hu; simp only [List.mem_cons, List.not_mem_nil, or_false] at hu; rcases hu with rfl | rfl | rfl <;> rfl
    case z5 => unfold maxLen; omega
    case z6 => omega
    case z7 => have := hB.out.size; simp; omega
    case zK =>
      intro v2 w2 hown2 hgrow2 hiff
      have hB2 := Lib.hid ((hB.out.alloc hB.out.size _).grown hgrow2 (by have := hB.out.size; simp; omega) (fun k hk => (World.ownsRow.lt hown1.out k hk).1))
      have hcl := hown2
      rcases hown2.2 with ⟨rfl, h0⟩ | ⟨g, cap, cur, rfl, hgB, -, hnc, -⟩
      · exact absurd h0 (by omega)
      have hF : Hid (∀ W, Below w2.heap.size w2 W → ∀ (j : Nat) (u : Value), (FL ++ [.bool true, .string ⟨#[]⟩, .string ⟨#[]⟩])[j]? = some u → W.cell? ⟨g, j, none⟩ = some u) := Lib.hid (fun W hb j u hj => by
        have h1 := World.ownsRow.cells hcl (g := g) rfl j u hj
        rw [addr0_add] at h1
        rw [hb.cell (block_lt_of_cell h1)]
        exact h1)
      have hQ : Hid (∀ W, Below w2.heap.size w2 W → ∀ i, i < n → ∀ (j : Nat) (u : Value), (encQ Ls[i]!)[j]? = some u → W.cell? ⟨g, i * 3 + j, none⟩ = some u) := Lib.hid (fun W hb i hi j u hu => hF.out W hb (i * 3 + j) u (by
        have h1 := hFc.out i hi j u hu
        rw [List.getElem?_append_left (List.getElem?_eq_some_iff.1 h1).1]
        exact h1))
      have hN : Hid (∀ W, Below w2.heap.size w2 W → W.cell? ⟨g, n * 3, none⟩ = some (.bool true)) := Lib.hid (fun W hb => hF.out W hb (n * 3) _ (by rw [List.getElem?_append_right (by rw [hFl.out]; exact Nat.le_refl _), hFl.out, Nat.sub_self]; rfl))
      replace cHull := Lib.hid (fun W (hb : Below w2.heap.size w2 W) => cHull.out g cap W (hQ.out W hb))
      have hnc1 : n + 1 ≤ cap := hnc
      have hnc2 : n ≤ cap := by omega
      have hncz : (n : Int) ≤ (cap : Int) := by omega
      clear hF hcl hown2 hgrow2 hiff hgB hnc hown1 hB hFc hFl hi hz0 hz1 hz2
      have hR2 := Lib.hid (Below.refl w2.heap.size w2)
      go_wp2_with fail
      refine (cHull.out _ hR2.out).mono ?_
      rintro en w3 ⟨va, ea, rfl, ha, hb⟩
      replace hR2 := Lib.hid (hR2.out.trans (hb.out.mono hR2.out.size))
      clear hb
      go_wp2_with fail
      refine (cHull.out _ hR2.out).mono ?_
      rintro en w4 ⟨vb, eb, rfl, hb2, hb⟩
      replace hR2 := Lib.hid (hR2.out.trans (hb.out.mono hR2.out.size))
      have hb34 := hb
      clear hb cHull
      go_wp2_with fail
      go_loopg [8] n (fun kx s8 wr => ∃ i : Nat, s8 = .int .i64 (i : Int) ∧ i ≤ n ∧ n - i ≤ kx ∧ Hid (Below w4.heap.size w4 wr))
      case atStart => exact ⟨0, rfl, Nat.zero_le _, Nat.le_refl _, Lib.hid (Below.refl _ _)⟩
      case round =>
        obtain ⟨i, rfl, hin, hgm, hB⟩ := hrel
        have hB0 := Lib.hid (hB2.out.trans ((hR2.out.mono hB2.out.size).trans (hB.out.mono (Nat.le_trans hB2.out.size hR2.out.size))))
        have hBr := Lib.hid (hR2.out.trans (hB.out.mono hR2.out.size))
        by_cases hlt : i < n
        case pos =>
          obtain ⟨gl, o, rfl, hC⟩ := hC0.out wr hB0.out (by omega)
          have hC1 := hC i hlt
          have hD1 := hQ.out wr hBr.out i hlt
          obtain ⟨⟨n1, a1, d1⟩, hr⟩ : ∃ r, r = Ls[i]! := ⟨_, rfl⟩
          rw [← hr] at hC1 hD1
          have m0 : ∀ d os, (grow (redrawn wr d) os).cell? ⟨gl, o + i * 3, none⟩ = some (.bool n1) := cell_regrown (hC1 0 _ rfl)
          have r0 : ∀ d os, (grow (redrawn wr d) os).cell? ⟨g, i * 3, none⟩ = some (.bool n1) := cell_regrown (hD1 0 _ rfl)
          have m1 : ∀ d os, (grow (redrawn wr d) os).cell? ⟨gl, o + i * 3 + 1, none⟩ = some (.string a1) := cell_regrown (hC1 1 _ rfl)
          have r1 : ∀ d os, (grow (redrawn wr d) os).cell? ⟨g, i * 3 + 1, none⟩ = some (.string a1) := cell_regrown (hD1 1 _ rfl)
          have m2 : ∀ d os, (grow (redrawn wr d) os).cell? ⟨gl, o + i * 3 + 2, none⟩ = some (.string d1) := cell_regrown (hC1 2 _ rfl)
          have r2 : ∀ d os, (grow (redrawn wr d) os).cell? ⟨g, i * 3 + 2, none⟩ = some (.string d1) := cell_regrown (hD1 2 _ rfl)
          have hiz : (i : Int) < (n : Int) := by omega
          have hiz2 : (i : Int) < (n : Int) + 1 := by omega
          have hw1 : IntKind.i64.wrap ((i : Int) + 1) = (i : Int) + 1 := by rw [IntKind.wrap_i64]; omega
          replace hr := Lib.hid hr
          clear hC hC1 hD1
          go_upto_region 9 with fail
          refine wp_region_quiet_below (by kernel_rfl) (by kernel_rfl) ?_
          iterate 9 (quiet_step (fail))
          refine wpQuiet_nil ?_
          intro w5 hw'
          have hb : Below wr.heap.size wr w5 := by
            obtain ⟨p, rfl⟩ := hw'
            exact below_regrown wr p.d p.os
          have hB5 := Lib.hid (hB.out.trans (hb.mono hB.out.size))
          clear hw' hb m0 m1 m2 r0 r1 r2 hB
          go_wp2_with fail
          go_roundg (n - (i + 1))
          case measure => omega
          case rel => exact ⟨i + 1, by simp, by omega, Nat.le_refl _, hB5⟩
        case neg =>
          obtain rfl : n = i := by omega
          clear hC0 hQ
          go_wp2_with fail
          refine (cRead.out _ hB0.out).mono ?_
          rintro en w6 (⟨hok, vq, rfl, hq, hb⟩ | ⟨hok, rfl, hb⟩)
          case inr =>
            replace hB0 := Lib.hid (hB0.out.trans (hb.mono hB0.out.size))
            obtain ⟨rfl, rfl⟩ : ea = 210 ∧ va = .slice none 0 0 := by
              rcases ha.out with ⟨h, -⟩ | ⟨-, h1, h2⟩
              · rw [hok] at h; cases h
              · exact ⟨h1, h2⟩
            obtain ⟨rfl, rfl⟩ : eb = 210 ∧ vb = .slice none 0 0 := by
              rcases hb2.out with ⟨h, -⟩ | ⟨-, h1, h2⟩
              · rw [hok] at h; cases h
              · exact ⟨h1, h2⟩
            clear ha hb2 hb hok cRead
            go_wp2_with fail
            refine (cAw.out _).mono ?_
            rintro en w7 ⟨rfl, hb⟩
            go_wp2_with fail
            go_ret
            exact ⟨rfl, hB0.out.trans (hb.mono hB0.out.size)⟩
          case inl =>
            have hBr6 := Lib.hid (hBr.out.trans (hb.mono hBr.out.size))
            have hB46 := Lib.hid (hB.out.trans (hb.mono hB.out.size))
            replace hB0 := Lib.hid (hB0.out.trans (hb.mono hB0.out.size))
            obtain ⟨rfl, ha1⟩ : ea = 0 ∧ Hid (LRow w3 _ va HL) := by
              rcases ha.out with ⟨-, h1, h2⟩ | ⟨h, -⟩
              · exact ⟨h1, Lib.hid h2⟩
              · rw [hok] at h; cases h
            obtain ⟨rfl, hb1⟩ : eb = 0 ∧ Hid (LRow w4 _ vb HL) := by
              rcases hb2.out with ⟨-, h1, h2⟩ | ⟨h, -⟩
              · exact ⟨h1, Lib.hid h2⟩
              · rw [hok] at h; cases h
            have cR := Lib.hid (cRH2.out hok _ _ _ hq)
            have hHa2 := Lib.hid (hHa.out hok)
            have hdv : Hid (∀ k, va.ownBlock = some k → w2.heap.size ≤ k ∧ k < w3.heap.size) := Lib.hid (fun k h => World.ownsRow.lt ha1.out k h)
            have hdvb : Hid (∀ k, va.ownBlock = some k → k < w3.heap.size) := Lib.hid (fun k h => (hdv.out k h).2)
            have hdb : Hid (∀ k, vb.ownBlock = some k → ¬ k < w3.heap.size) := Lib.hid (fun k h h2 => by have := (World.ownsRow.lt hb1.out k h).1; omega)
            have h36 : Hid (w3.heap.size ≤ w6.heap.size) := Lib.hid (Nat.le_trans hb34.out.size hB46.out.size)
            clear ha hb2 hb hok cRead cRH2 hHa hq
            go_wp2_with fail
            refine cR.out.mono ?_
            rintro en w7 ⟨vw, rfl, hw7, hb⟩
            have hBr7 := Lib.hid (hBr6.out.trans (hb.mono hBr6.out.size))
            have hB47 := Lib.hid (hB46.out.trans (hb.mono hB46.out.size))
            replace hB0 := Lib.hid (hB0.out.trans (hb.mono hB0.out.size))
            have ha7 := Lib.hid (LRow.below ha1.out (hb34.out.trans (hB47.out.mono hb34.out.size)))
            have hb7 := Lib.hid (LRow.below hb1.out hB47.out)
            have hw7' := Lib.hid hw7
            have hdw : Hid (∀ k, vw.ownBlock = some k → ¬ k < w3.heap.size) := Lib.hid (fun k h h2 => by have h3 := (World.ownsRow.lt hw7 k h).1; have h4 := h36.out; omega)
            have cS := Lib.hid (lsame23_any _ _ _ _ HL w7 ha7.out hw7 hHa2.out (by omega))
            have hBn := Lib.hid (hBr7.out)
            clear hb cR hw7 hBr6 hB46
            go_wp2_with fail
            refine cS.out.mono ?_
            rintro en w8 ⟨rfl, hb⟩
            have hBr8 := Lib.hid (hBr7.out.trans (hb.mono hBr7.out.size))
            replace hB0 := Lib.hid (hB0.out.trans (hb.mono hB0.out.size))
            have ha8 := Lib.hid (LRow.below ha7.out hb)
            have hb8 := Lib.hid (LRow.below hb7.out hb)
            have hw8 := Lib.hid (RRow.below hw7'.out hb)
            have hM8 := Lib.hid hHa2.out
            have zN : w8.cell? ⟨g, n * 3, none⟩ = some (.bool true) := hN.out w8 hBr8.out
            have hnn : (n : Int) < (n : Int) + 1 := by omega
            have hnn0 : (0 : Int) ≤ (n : Int) := by omega
            have hnz : (n : Int).toNat = n := by omega
            have hvg : Hid (∀ k, va.ownBlock = some k → w.heap.size ≤ k) := Lib.hid (fun k h => Nat.le_trans hB2.out.size (hdv.out k h).1)
            clear hb cS ha7 hb7 hw7' hBr7 hB47 hN hBr hB hBn hHa2 hb34 hBr8 ha1 hb1
            obtain ⟨Aa, ca, hva, hAa⟩ := LRow.form ha8.out
            subst hva
            obtain ⟨m, hm⟩ : ∃ m, m = HL.length := ⟨_, rfl⟩
            have hO8 : Hid (w8.ownsRow w2.heap.size 38 6 (.slice Aa m ca) m (flatL HL)) := Lib.hid (by rw [hm]; exact ha8.out)
            rw [← hm] at hAa hdvb hvg hHl ⊢
            clear ha8 hdv
            replace hm := Lib.hid hm
            go_wp2_with fail
            go_loopg [12] m (fun kx s12 wr => ∃ i : Nat, s12 = .int .i64 (i : Int) ∧ i ≤ m ∧ m - i ≤ kx ∧ Hid (∃ xs, wr.ownsRow w2.heap.size 38 6 (.slice Aa m ca) m xs) ∧ Hid (But (fun k => (Value.slice Aa m ca).ownBlock = some k) w8 wr))
            case atStart => exact ⟨0, rfl, Nat.zero_le _, Nat.le_refl _, Lib.hid ⟨_, hO8.out⟩, Lib.hid (But.refl _ _)⟩
            case round =>
              clear zN
              obtain ⟨i, rfl, him, hgm, hO, hBt⟩ := hrel
              by_cases hlt : i < m
              case pos =>
                obtain ⟨ga, rfl⟩ := hAa (by omega)
                clear hAa
                obtain ⟨xs, hOx⟩ := hO.out
                replace hOx := Lib.hid hOx
                have hcl : Hid (∀ j, j < 6 → ∃ u, wr.cell? ⟨ga, i * 6 + j, none⟩ = some u) := Lib.hid (fun j hj => by
                  have hl : xs.length = m * 6 := hOx.out.1
                  have hji : i * 6 + j < xs.length := by rw [hl]; omega
                  have h1 := World.ownsRow.cells hOx.out (g := ga) rfl (i * 6 + j) _ (List.getElem?_eq_getElem hji)
                  rw [addr0_add] at h1
                  exact ⟨_, h1⟩)
                obtain ⟨u0, r0⟩ := hcl.out 0 (by decide)
                have f0 : wr.frozen? ⟨ga, i * 6, none⟩ = false := World.ownsRow.frozenAt hOx.out _
                rw [Nat.add_zero] at r0
                obtain ⟨u1, r1⟩ := hcl.out 1 (by decide)
                have f1 : wr.frozen? ⟨ga, i * 6 + 1, none⟩ = false := World.ownsRow.frozenAt hOx.out _
                obtain ⟨u2, r2⟩ := hcl.out 2 (by decide)
                have f2 : wr.frozen? ⟨ga, i * 6 + 2, none⟩ = false := World.ownsRow.frozenAt hOx.out _
                obtain ⟨u3, r3⟩ := hcl.out 3 (by decide)
                have f3 : wr.frozen? ⟨ga, i * 6 + 3, none⟩ = false := World.ownsRow.frozenAt hOx.out _
                obtain ⟨u4, r4⟩ := hcl.out 4 (by decide)
                have f4 : wr.frozen? ⟨ga, i * 6 + 4, none⟩ = false := World.ownsRow.frozenAt hOx.out _
                obtain ⟨u5, r5⟩ := hcl.out 5 (by decide)
                have f5 : wr.frozen? ⟨ga, i * 6 + 5, none⟩ = false := World.ownsRow.frozenAt hOx.out _
                have hO6 : Hid (∃ xs, World.ownsRow ((((((wr.setCell ⟨ga, i * 6, none⟩ (.bool false)).setCell ⟨ga, i * 6 + 1, none⟩ (.string ⟨#[]⟩)).setCell ⟨ga, i * 6 + 2, none⟩ (.string ⟨#[]⟩)).setCell ⟨ga, i * 6 + 3, none⟩ (.bool false)).setCell ⟨ga, i * 6 + 4, none⟩ (.string ⟨#[]⟩)).setCell ⟨ga, i * 6 + 5, none⟩ (.string ⟨#[]⟩)) w2.heap.size 38 6 (.slice (some ⟨ga, 0, none⟩) m ca) m xs) := Lib.hid ⟨_, (World.ownsRow.stored (World.ownsRow.stored (World.ownsRow.stored (World.ownsRow.stored (World.ownsRow.stored (World.ownsRow.stored hOx.out (i * 6) (.bool false)).1 (i * 6 + 1) (.string ⟨#[]⟩)).1 (i * 6 + 2) (.string ⟨#[]⟩)).1 (i * 6 + 3) (.bool false)).1 (i * 6 + 4) (.string ⟨#[]⟩)).1 (i * 6 + 5) (.string ⟨#[]⟩)).1⟩
                have hBt6 : Hid (But (fun k => (Value.slice (some ⟨ga, 0, none⟩) m ca).ownBlock = some k) w8 ((((((wr.setCell ⟨ga, i * 6, none⟩ (.bool false)).setCell ⟨ga, i * 6 + 1, none⟩ (.string ⟨#[]⟩)).setCell ⟨ga, i * 6 + 2, none⟩ (.string ⟨#[]⟩)).setCell ⟨ga, i * 6 + 3, none⟩ (.bool false)).setCell ⟨ga, i * 6 + 4, none⟩ (.string ⟨#[]⟩)).setCell ⟨ga, i * 6 + 5, none⟩ (.string ⟨#[]⟩))) := Lib.hid ((((((hBt.out.setCell (p := ⟨ga, i * 6, none⟩) (.inl rfl) (.bool false)).setCell (p := ⟨ga, i * 6 + 1, none⟩) (.inl rfl) (.string ⟨#[]⟩)).setCell (p := ⟨ga, i * 6 + 2, none⟩) (.inl rfl) (.string ⟨#[]⟩)).setCell (p := ⟨ga, i * 6 + 3, none⟩) (.inl rfl) (.bool false)).setCell (p := ⟨ga, i * 6 + 4, none⟩) (.inl rfl) (.string ⟨#[]⟩)).setCell (p := ⟨ga, i * 6 + 5, none⟩) (.inl rfl) (.string ⟨#[]⟩))
                have hiz : (i : Int) < (m : Int) := by omega
                clear hO hOx hBt hcl
                go_wp2_with fail
                go_roundg (m - (i + 1))
                case measure => omega
                case rel => exact ⟨i + 1, by go_num, by omega, Nat.le_refl _, hO6, hBt6⟩
              case neg =>
                obtain rfl : m = i := by omega
                have hbf := Lib.hid (LRow.but hb8.out hBt.out (fun k h h2 => hdb.out k h (hdvb.out k h2)))
                have hwf := Lib.hid (RRow.but hw8.out hBt.out (fun k h h2 => hdw.out k h (hdvb.out k h2)))
                have hBf : Hid (Below w.heap.size w wr) := Lib.hid (hB0.out.trans (hBt.out.toBelow hB0.out.size (fun k hk h => by have := hvg.out k h; omega)))
                have cS2 := Lib.hid (lsame23_any _ _ _ _ HL wr hbf.out hwf.out hM8.out (by have := hm.out; omega))
                clear hO hBt hb8 hw8 hAa hO8
                go_wp2_with fail
                refine cS2.out.mono ?_
                rintro en w9 ⟨rfl, hb⟩
                replace hBf := Lib.hid (hBf.out.trans (hb.mono hBf.out.size))
                clear hb cS2 hbf hwf
                go_wp2_with fail
                refine (cAw.out _).mono ?_
                rintro en wa ⟨rfl, hb⟩
                replace hBf := Lib.hid (hBf.out.trans (hb.mono hBf.out.size))
                clear hb cAw
                go_wp2_with fail
                go_ret
                exact ⟨rfl, hBf.out⟩
end Go.Proofs.YtoaggmegmgdgbaaGreat
