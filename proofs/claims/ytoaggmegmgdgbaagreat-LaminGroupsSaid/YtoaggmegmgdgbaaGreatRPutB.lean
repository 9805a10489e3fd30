import Derived.Test.YtoaggmegmgdgbaaGreatRLfA
import Derived.Test.YtoaggmegmgdgbaaGreatLamP
import Derived.Test.YtoaggmegmgdgbaaGreatLamH
import Derived.Deep.CutBlock
import Derived.Test.YtoaggmegmgdgbaaGreatOnceJ
namespace Go.Proofs.YtoaggmegmgdgbaaGreat
open Go.RowKit Go.Sort
def rlE (l : Lf) : List Value := [.int .u64 (l.1.1 : Int), .int .u64 (l.1.2 : Int), .int .u64 (l.2.1 : Int), .int .u64 (l.2.2 : Int)]
theorem rlE_len (l : Lf) : (rlE l).length = 4 := rfl
def RRow (w : World) (B : Nat) (v : Value) (L : List Lf) : Prop := w.ownsRow B 44 4 v L.length (L.flatMap rlE)
theorem RRow.below {w w' : World} {B : Nat} {v : Value} {L : List Lf} (h : RRow w B v L) (hb : Below w.heap.size w w') : RRow w' B v L := by
  obtain ⟨hl, hc⟩ := h
  refine ⟨hl, ?_⟩
  rcases hc with hc | ⟨g, cap, cur, hv, hbase, hg, rest⟩
  · exact .inl hc
  · have hlt : g < w.heap.size := by
      rcases Nat.lt_or_ge g w.heap.size with h | h
      · exact h
      · rw [Array.getElem?_eq_none h] at hg; cases hg
    exact .inr ⟨g, cap, cur, hv, hbase, (hb.block g hlt).trans hg, rest⟩
theorem RRow.form {w : World} {B : Nat} {v : Value} {L : List Lf} (h : RRow w B v L) : ∃ A c, v = .slice A L.length c ∧ (0 < L.length → ∃ g, A = some ⟨g, 0, none⟩) := by
  rcases h.2 with ⟨rfl, h0⟩ | ⟨g, cap, cur, rfl, -⟩
  · exact ⟨none, 0, by rw [h0], fun h => by omega⟩
  · exact ⟨_, _, rfl, fun _ => ⟨g, rfl⟩⟩
theorem flat4_get (L : List Lf) (i j : Nat) (hi : i < L.length) (hj : j < 4) : (L.flatMap rlE)[i * 4 + j]? = (rlE L[i])[j]? := by
  induction L generalizing i with
  | nil => simp at hi
  | cons a r ih =>
    rw [List.flatMap_cons]
    rcases i with _ | i
    · rw [Nat.zero_mul, Nat.zero_add, List.getElem?_append_left (by rw [rlE_len]; exact hj)]; rfl
    · rw [List.getElem?_append_right (by rw [rlE_len]; omega), rlE_len, show (i + 1) * 4 + j - 4 = i * 4 + j by omega, ih i (by simpa using hi)]; rfl
theorem RRow.cell {w : World} {B g n c : Nat} {L : List Lf} (h : RRow w B (.slice (some ⟨g, 0, none⟩) n c) L) {i : Nat} (hi : i < L.length) : ∀ (j : Nat) (u : Value), (rlE L[i]!)[j]? = some u → w.cell? ⟨g, i * 4 + j, none⟩ = some u := fun j u hu => by
  have hj : j < 4 := by
    have := List.getElem?_eq_some_iff.1 hu
    obtain ⟨h1, -⟩ := this
    rwa [rlE_len] at h1
  have hg : (L.flatMap rlE)[i * 4 + j]? = some u := by
    rw [flat4_get L i j hi hj, ← getElem!_pos L i hi]
    exact hu
  have := World.ownsRow.cells h (g := g) rfl _ _ hg
  rwa [addr0_add] at this
theorem nleaf_cases (m l : Lf) : (m = l ∧ ((m.1.1 : Int) == (l.1.1 : Int)) = true ∧ ((m.1.2 : Int) == (l.1.2 : Int)) = true ∧ ((m.2.1 : Int) == (l.2.1 : Int)) = true ∧ ((m.2.2 : Int) == (l.2.2 : Int)) = true) ∨
    (m ≠ l ∧ ((m.1.1 : Int) == (l.1.1 : Int)) = true ∧ ((m.1.2 : Int) == (l.1.2 : Int)) = true ∧ ((m.2.1 : Int) == (l.2.1 : Int)) = true ∧ ((m.2.2 : Int) == (l.2.2 : Int)) = false) ∨
    (m ≠ l ∧ ((m.1.1 : Int) == (l.1.1 : Int)) = true ∧ ((m.1.2 : Int) == (l.1.2 : Int)) = true ∧ ((m.2.1 : Int) == (l.2.1 : Int)) = false) ∨
    (m ≠ l ∧ ((m.1.1 : Int) == (l.1.1 : Int)) = true ∧ ((m.1.2 : Int) == (l.1.2 : Int)) = false) ∨
    (m ≠ l ∧ ((m.1.1 : Int) == (l.1.1 : Int)) = false) := by
  obtain ⟨⟨a, b⟩, ⟨c, d⟩⟩ := m
  obtain ⟨⟨a', b'⟩, ⟨c', d'⟩⟩ := l
  simp only [Prod.mk.injEq, beq_iff_eq, beq_eq_false_iff_ne, ne_eq, Int.ofNat_inj]
  omega
set_option maxRecDepth 100000 in
set_option maxHeartbeats 4000000 in
theorem rlbefore_any (l m : Lf) (w : World) (hl : AngL l) (hm : AngL m) :
    Calls Tryz.prog 141 #[.agg #[.int .u64 (l.1.1 : Int), .int .u64 (l.1.2 : Int), .int .u64 (l.2.1 : Int), .int .u64 (l.2.2 : Int)], .agg #[.int .u64 (m.1.1 : Int), .int .u64 (m.1.2 : Int), .int .u64 (m.2.1 : Int), .int .u64 (m.2.2 : Int)]] w (RetVal (.bool (decide (ordL l m < 0))) w) := by
  obtain ⟨r, hr⟩ : ∃ r, r = decide (ordL l m < 0) := ⟨_, rfl⟩
  rw [← hr]
  have c1 := Lib.hid (fun W => rcmpP l.1 m.1 W hl.1 hm.1)
  have c2 := Lib.hid (fun W => rcmpP l.2 m.2 W hl.2 hm.2)
  obtain ⟨x, hx⟩ : ∃ x, x = cmpP l.1 m.1 := ⟨_, rfl⟩
  obtain ⟨y, hy⟩ : ∃ y, y = cmpP l.2 m.2 := ⟨_, rfl⟩
  have bx := cmpP_bd l.1 m.1
  have by_ := cmpP_bd l.2 m.2
  rw [ordL, ← hx, ← hy] at hr
  rw [← hx] at c1 bx
  rw [← hy] at c2 by_
  replace hr := Lib.hid hr
  clear hx hy hl hm
  have hBW : Below w.heap.size w ((w.alloc (.cells #[.int .u64 (l.1.1 : Int), .int .u64 (l.1.2 : Int), .int .u64 (l.2.1 : Int), .int .u64 (l.2.2 : Int)] 44)).alloc (.cells #[.int .u64 (m.1.1 : Int), .int .u64 (m.1.2 : Int), .int .u64 (m.2.1 : Int), .int .u64 (m.2.2 : Int)] 44)) := (((Below.refl _ w).alloc (Nat.le_refl _) _).alloc (by simp) _)
  have kk0 := ((Blk.new w 44 #[.int .u64 (l.1.1 : Int), .int .u64 (l.1.2 : Int), .int .u64 (l.2.1 : Int), .int .u64 (l.2.2 : Int)]).alloc (.cells #[.int .u64 (m.1.1 : Int), .int .u64 (m.1.2 : Int), .int .u64 (m.2.1 : Int), .int .u64 (m.2.2 : Int)] 44))
  have kk1 := (Blk.new (w.alloc (.cells #[.int .u64 (l.1.1 : Int), .int .u64 (l.1.2 : Int), .int .u64 (l.2.1 : Int), .int .u64 (l.2.2 : Int)] 44)) 44 #[.int .u64 (m.1.1 : Int), .int .u64 (m.1.2 : Int), .int .u64 (m.2.1 : Int), .int .u64 (m.2.2 : Int)])
  simp only [World.size_alloc] at kk1
  have K := Lib.hid ((KeepT.one kk0).snoc kk1)
  have hB := Lib.hid hBW
  clear hBW kk0 kk1
  go_enter Tryz.func141, Tryz.ntmps141
  go_upto_region 1 with fail
  generalize hW : ((w.alloc (.cells #[.int .u64 (l.1.1 : Int), .int .u64 (l.1.2 : Int), .int .u64 (l.2.1 : Int), .int .u64 (l.2.2 : Int)] 44)).alloc (.cells #[.int .u64 (m.1.1 : Int), .int .u64 (m.1.2 : Int), .int .u64 (m.2.1 : Int), .int .u64 (m.2.2 : Int)] 44)) = w1 at hB K ⊢
  clear hW
  have ll0 : w1.cell? ⟨w.heap.size, 0, none⟩ = some (.int .u64 (l.1.1 : Int)) := (K.out.at_ 0 rfl).cell 0
  have ll1 : w1.cell? ⟨w.heap.size, 1, none⟩ = some (.int .u64 (l.1.2 : Int)) := (K.out.at_ 0 rfl).cell 1
  have ll2 : w1.cell? ⟨w.heap.size, 2, none⟩ = some (.int .u64 (l.2.1 : Int)) := (K.out.at_ 0 rfl).cell 2
  have ll3 : w1.cell? ⟨w.heap.size, 3, none⟩ = some (.int .u64 (l.2.2 : Int)) := (K.out.at_ 0 rfl).cell 3
  have mm0 : w1.cell? ⟨w.heap.size + 1, 0, none⟩ = some (.int .u64 (m.1.1 : Int)) := (K.out.at_ 1 rfl).cell 0
  have mm1 : w1.cell? ⟨w.heap.size + 1, 1, none⟩ = some (.int .u64 (m.1.2 : Int)) := (K.out.at_ 1 rfl).cell 1
  have mm2 : w1.cell? ⟨w.heap.size + 1, 2, none⟩ = some (.int .u64 (m.2.1 : Int)) := (K.out.at_ 1 rfl).cell 2
  have mm3 : w1.cell? ⟨w.heap.size + 1, 3, none⟩ = some (.int .u64 (m.2.2 : Int)) := (K.out.at_ 1 rfl).cell 3
  go_wp2_with fail
  refine (c1.out _).mono ?_
  rintro en w2 ⟨rfl, hb⟩
  replace hB := Lib.hid (hB.out.trans (hb.mono hB.out.size))
  replace K := Lib.hid ((K.out.below hb))
  clear ll0 ll1 ll2 ll3 mm0 mm1 mm2 mm3 hb c1
  have ll0 : w2.cell? ⟨w.heap.size, 0, none⟩ = some (.int .u64 (l.1.1 : Int)) := (K.out.at_ 0 rfl).cell 0
  have ll1 : w2.cell? ⟨w.heap.size, 1, none⟩ = some (.int .u64 (l.1.2 : Int)) := (K.out.at_ 0 rfl).cell 1
  have ll2 : w2.cell? ⟨w.heap.size, 2, none⟩ = some (.int .u64 (l.2.1 : Int)) := (K.out.at_ 0 rfl).cell 2
  have ll3 : w2.cell? ⟨w.heap.size, 3, none⟩ = some (.int .u64 (l.2.2 : Int)) := (K.out.at_ 0 rfl).cell 3
  have mm0 : w2.cell? ⟨w.heap.size + 1, 0, none⟩ = some (.int .u64 (m.1.1 : Int)) := (K.out.at_ 1 rfl).cell 0
  have mm1 : w2.cell? ⟨w.heap.size + 1, 1, none⟩ = some (.int .u64 (m.1.2 : Int)) := (K.out.at_ 1 rfl).cell 1
  have mm2 : w2.cell? ⟨w.heap.size + 1, 2, none⟩ = some (.int .u64 (m.2.1 : Int)) := (K.out.at_ 1 rfl).cell 2
  have mm3 : w2.cell? ⟨w.heap.size + 1, 3, none⟩ = some (.int .u64 (m.2.2 : Int)) := (K.out.at_ 1 rfl).cell 3
  rcases bx with rfl | rfl | rfl
  · have hrt : Hid (r = true) := Lib.hid (by rw [hr.out, if_neg (by decide)]; rfl)
    clear hr by_ c2 K
    go_wp2_with fail
    go_ret
    exact ⟨by rw [hrt.out]; rfl, hB.out⟩
  · have hr2 : Hid (r = decide (y < 0)) := Lib.hid (by rw [hr.out, if_pos rfl])
    clear hr
    go_wp2_with fail
    refine (c2.out _).mono ?_
    rintro en w3 ⟨rfl, hb⟩
    replace hB := Lib.hid (hB.out.trans (hb.mono hB.out.size))
    clear hb c2 K
    rcases by_ with rfl | rfl | rfl
    all_goals
      go_wp2_with fail
      go_ret
      exact ⟨by rw [hr2.out]; rfl, hB.out⟩
  · have hrt : Hid (r = false) := Lib.hid (by rw [hr.out, if_neg (by decide)]; rfl)
    clear hr by_ c2 K
    go_wp2_with fail
    go_ret
    exact ⟨by rw [hrt.out]; rfl, hB.out⟩
set_option maxRecDepth 100000 in
set_option maxHeartbeats 4000000 in
theorem rlplace_any (B Kp : Nat) (v : Value) (L : List Lf) (x : Lf) (w : World) (hv : RRow w B v L) (hM : ∀ m, m ∈ L → AngL m) (hx : AngL x) (hP : Plc L x Kp) (hlen : L.length ≤ 1048576) :
    Calls Tryz.prog 95 #[v, .agg #[.int .u64 (x.1.1 : Int), .int .u64 (x.1.2 : Int), .int .u64 (x.2.1 : Int), .int .u64 (x.2.2 : Int)]] w (RetVal (.int .i64 (Kp : Int)) w) := by
  obtain ⟨A, c, rfl, hA⟩ := RRow.form hv
  have hBe : Hid (∀ i, i < L.length → ∀ W, Calls Tryz.prog 141 #[.agg #[.int .u64 (L[i]!.1.1 : Int), .int .u64 (L[i]!.1.2 : Int), .int .u64 (L[i]!.2.1 : Int), .int .u64 (L[i]!.2.2 : Int)], .agg #[.int .u64 (x.1.1 : Int), .int .u64 (x.1.2 : Int), .int .u64 (x.2.1 : Int), .int .u64 (x.2.2 : Int)]] W (RetVal (.bool (decide (ordL L[i]! x < 0))) W)) := Lib.hid (fun i hi W => rlbefore_any _ x W (hM _ (getBang_mem hi)) hx)
  have hRow := Lib.hid hv
  obtain ⟨n, hn⟩ : ∃ n, n = L.length := ⟨_, rfl⟩
  have hPl := Lib.hid hP
  have hKn := hP.le
  rw [← hn] at hKn hRow hBe hA hlen ⊢
  replace hn := Lib.hid hn
  clear hv hP hM hx
  have hBW : Below w.heap.size w (w.alloc (.cells #[.int .u64 (x.1.1 : Int), .int .u64 (x.1.2 : Int), .int .u64 (x.2.1 : Int), .int .u64 (x.2.2 : Int)] 44)) := ((Below.refl _ w).alloc (Nat.le_refl _) _)
  have kk0 := (Blk.new w 44 #[.int .u64 (x.1.1 : Int), .int .u64 (x.1.2 : Int), .int .u64 (x.2.1 : Int), .int .u64 (x.2.2 : Int)])
  have K := Lib.hid (KeepT.one kk0)
  have hB := Lib.hid hBW
  clear hBW kk0
  go_enter Tryz.func95, Tryz.ntmps95
  go_upto_region 1 with fail
  generalize hW : (w.alloc (.cells #[.int .u64 (x.1.1 : Int), .int .u64 (x.1.2 : Int), .int .u64 (x.2.1 : Int), .int .u64 (x.2.2 : Int)] 44)) = w1 at hB K ⊢
  clear hW
  go_wp2_with fail
  go_loopg [5, 6] n (fun kx s5 s6 wr => ∃ (lo hi : Nat), s5 = .int .i64 lo ∧ s6 = .int .i64 hi ∧ lo ≤ Kp ∧ Kp ≤ hi ∧ hi ≤ n ∧ hi - lo ≤ kx ∧ Hid (KeepT wr [(w.heap.size, 44, #[.int .u64 (x.1.1 : Int), .int .u64 (x.1.2 : Int), .int .u64 (x.2.1 : Int), .int .u64 (x.2.2 : Int)])]) ∧ Hid (Below w.heap.size w wr))
  case atStart => exact ⟨0, n, rfl, rfl, Nat.zero_le _, hKn, Nat.le_refl _, by omega, K, hB⟩
  case round =>
    clear hB K
    obtain ⟨lo, hi, rfl, rfl, h1, h2, h3, hg, K, hB⟩ := hrel
    by_cases hlt : lo < hi
    · obtain ⟨md, hmd⟩ : ∃ md, md = (lo + hi) / 2 := ⟨_, rfl⟩
      have hm1 : lo ≤ md := by omega
      have hm2 : md < hi := by omega
      have hmn : md < n := by omega
      have hmz : ((lo : Int) + (hi : Int)) / 2 = (md : Int) := by omega
      have hmt : ((lo : Int) + (hi : Int)).tdiv 2 = (md : Int) := by rw [Int.tdiv_eq_ediv_of_nonneg (by omega)]; exact hmz
      obtain ⟨g, rfl⟩ := hA (by omega)
      obtain ⟨m, hm⟩ : ∃ m, m = L[md]! := ⟨_, rfl⟩
      obtain ⟨b, hb0⟩ : ∃ b, b = decide (ordL m x < 0) := ⟨_, rfl⟩
      have hil : md < L.length := by rw [← hn.out]; exact hmn
      have hC := RRow.cell (by have h := RRow.below hRow.out hB.out; rw [hn.out] at h; exact h) hil
      rw [← hm] at hC
      have cB : ∀ d os, Calls Tryz.prog 141 #[.agg #[.int .u64 (m.1.1 : Int), .int .u64 (m.1.2 : Int), .int .u64 (m.2.1 : Int), .int .u64 (m.2.2 : Int)], .agg #[.int .u64 (x.1.1 : Int), .int .u64 (x.1.2 : Int), .int .u64 (x.2.1 : Int), .int .u64 (x.2.2 : Int)]] (grow (redrawn wr d) os) fun e w'' => e = .returned (.bool b) ∧ ∃ p : Regrown, w'' = grow (redrawn wr p.d) p.os := fun d os => by
        have h := hBe.out md hmn (grow (redrawn wr d) os)
        rw [← hm, ← hb0] at h
        exact Calls.regrown_of h
      have hK1 : b = true → md < Kp := fun e => by
        rw [hb0, decide_eq_true_eq, hm] at e
        rcases Nat.lt_or_ge md Kp with h | h
        · exact h
        · have := hPl.out.hi md h hil; omega
      have hK2 : b = false → Kp ≤ md := fun e => by
        rw [hb0, decide_eq_false_iff_not, hm] at e
        rcases Nat.lt_or_ge md Kp with h | h
        · exact absurd (hPl.out.lo md h) e
        · exact h
      have m0 : ∀ d os, (grow (redrawn wr d) os).cell? ⟨g, md * 4, none⟩ = some (.int .u64 (m.1.1 : Int)) := cell_regrown (hC 0 _ rfl)
      have m1 : ∀ d os, (grow (redrawn wr d) os).cell? ⟨g, md * 4 + 1, none⟩ = some (.int .u64 (m.1.2 : Int)) := cell_regrown (hC 1 _ rfl)
      have m2 : ∀ d os, (grow (redrawn wr d) os).cell? ⟨g, md * 4 + 2, none⟩ = some (.int .u64 (m.2.1 : Int)) := cell_regrown (hC 2 _ rfl)
      have m3 : ∀ d os, (grow (redrawn wr d) os).cell? ⟨g, md * 4 + 3, none⟩ = some (.int .u64 (m.2.2 : Int)) := cell_regrown (hC 3 _ rfl)
      have x0 : ∀ d os, (grow (redrawn wr d) os).cell? ⟨w.heap.size, 0, none⟩ = some (.int .u64 (x.1.1 : Int)) := cell_regrown ((K.out.at_ 0 rfl).cell 0)
      have x1 : ∀ d os, (grow (redrawn wr d) os).cell? ⟨w.heap.size, 1, none⟩ = some (.int .u64 (x.1.2 : Int)) := cell_regrown ((K.out.at_ 0 rfl).cell 1)
      have x2 : ∀ d os, (grow (redrawn wr d) os).cell? ⟨w.heap.size, 2, none⟩ = some (.int .u64 (x.2.1 : Int)) := cell_regrown ((K.out.at_ 0 rfl).cell 2)
      have x3 : ∀ d os, (grow (redrawn wr d) os).cell? ⟨w.heap.size, 3, none⟩ = some (.int .u64 (x.2.2 : Int)) := cell_regrown ((K.out.at_ 0 rfl).cell 3)
      have hz1 : (md : Int) < (n : Int) := by omega
      have hz2 : IntKind.i64.wrap ((lo : Int) + (hi : Int)) = (lo : Int) + (hi : Int) := by rw [IntKind.wrap_i64]; omega
      have hz3 : IntKind.i64.wrap (md : Int) = (md : Int) := by rw [IntKind.wrap_i64]; omega
      have hz4 : (lo : Int) < (hi : Int) := by omega
      replace hm := Lib.hid hm
      replace hb0 := Lib.hid hb0
      replace hmd := Lib.hid hmd
      clear hC hil hm1 hm2
      go_upto_region 4 with fail
      refine wp_region_quiet_below (by kernel_rfl) (by kernel_rfl) ?_
      iterate 5 (quiet_step (fail))
      quiet_step (exact cB _ _)
      refine wpQuiet_nil ?_
      intro w3 hw'
      have hb : Below wr.heap.size wr w3 := by
        obtain ⟨p, rfl⟩ := hw'
        exact below_regrown wr p.d p.os
      replace K := Lib.hid (K.out.below hb)
      replace hB := Lib.hid (hB.out.trans (hb.mono hB.out.size))
      clear hw' hb cB m0 m1 m2 m3 x0 x1 x2 x3 hz2
      cases b
      · have hk := hK2 rfl
        clear hK1 hK2
        go_wp2_with fail
        go_roundg (md - lo)
        case measure => have := hmd.out; omega
        case rel => exact ⟨lo, md, rfl, rfl, h1, hk, by omega, Nat.le_refl _, K, hB⟩
      · have hk := hK1 rfl
        have hz5 : IntKind.i64.wrap ((md : Int) + 1) = (md : Int) + 1 := by rw [IntKind.wrap_i64]; omega
        clear hK1 hK2
        go_wp2_with fail
        go_roundg (hi - (md + 1))
        case measure => have := hmd.out; omega
        case rel => exact ⟨md + 1, hi, by simp, rfl, hk, h2, h3, Nat.le_refl _, K, hB⟩
    · obtain rfl : lo = Kp := by omega
      obtain rfl : lo = hi := by omega
      have hz : ¬ (lo : Int) < (lo : Int) := by omega
      go_wp2_with fail
      go_ret
      exact ⟨rfl, hB.out⟩
set_option maxRecDepth 100000 in
set_option maxHeartbeats 4000000 in
theorem rlhas_any (B : Nat) (v : Value) (L : List Lf) (x : Lf) (w : World) (hv : RRow w B v L) (hM : ∀ m, m ∈ L → AngL m) (hx : AngL x) (hup : L.Pairwise fun l m => ordL l m < 0) (hlen : L.length ≤ 1048576) :
    Calls Tryz.prog 46 #[v, .agg #[.int .u64 (x.1.1 : Int), .int .u64 (x.1.2 : Int), .int .u64 (x.2.1 : Int), .int .u64 (x.2.2 : Int)]] w (RetVal (.bool (decide (x ∈ L))) w) := by
  obtain ⟨A, c, rfl, hA⟩ := RRow.form hv
  have hP := Plc.of_up hM hx hup
  have hhas := hP.has hM hup
  obtain ⟨Kp, hKp⟩ : ∃ k, k = plcL L x := ⟨_, rfl⟩
  rw [← hKp] at hP hhas
  obtain ⟨r, hr⟩ : ∃ r, r = decide (x ∈ L) := ⟨_, rfl⟩
  rw [← hr]
  have cP := Lib.hid (fun W (h : RRow W B (.slice A L.length c) L) => rlplace_any B Kp _ L x W h hM hx hP hlen)
  have hRow := Lib.hid hv
  obtain ⟨n, hn⟩ : ∃ n, n = L.length := ⟨_, rfl⟩
  have hKn := hP.le
  rw [← hn] at hKn cP hRow hA hlen hhas ⊢
  replace hn := Lib.hid hn
  replace hr := Lib.hid hr
  clear hv hP hM hx hup hKp
  have hBW : Below w.heap.size w (w.alloc (.cells #[.int .u64 (x.1.1 : Int), .int .u64 (x.1.2 : Int), .int .u64 (x.2.1 : Int), .int .u64 (x.2.2 : Int)] 44)) := ((Below.refl _ w).alloc (Nat.le_refl _) _)
  have kk0 := (Blk.new w 44 #[.int .u64 (x.1.1 : Int), .int .u64 (x.1.2 : Int), .int .u64 (x.2.1 : Int), .int .u64 (x.2.2 : Int)])
  have K := Lib.hid (KeepT.one kk0)
  have hB := Lib.hid hBW
  clear hBW kk0
  go_enter Tryz.func46, Tryz.ntmps46
  go_upto_region 1 with fail
  generalize hW : (w.alloc (.cells #[.int .u64 (x.1.1 : Int), .int .u64 (x.1.2 : Int), .int .u64 (x.2.1 : Int), .int .u64 (x.2.2 : Int)] 44)) = w1 at hB K ⊢
  clear hW
  have xx0 : w1.cell? ⟨w.heap.size, 0, none⟩ = some (.int .u64 (x.1.1 : Int)) := (K.out.at_ 0 rfl).cell 0
  have xx1 : w1.cell? ⟨w.heap.size, 1, none⟩ = some (.int .u64 (x.1.2 : Int)) := (K.out.at_ 0 rfl).cell 1
  have xx2 : w1.cell? ⟨w.heap.size, 2, none⟩ = some (.int .u64 (x.2.1 : Int)) := (K.out.at_ 0 rfl).cell 2
  have xx3 : w1.cell? ⟨w.heap.size, 3, none⟩ = some (.int .u64 (x.2.2 : Int)) := (K.out.at_ 0 rfl).cell 3
  go_wp2_with fail
  refine (cP.out _ (RRow.below hRow.out hB.out)).mono ?_
  rintro en w2 ⟨rfl, hb⟩
  replace hB := Lib.hid (hB.out.trans (hb.mono hB.out.size))
  replace K := Lib.hid (K.out.below hb)
  clear hb cP xx0 xx1 xx2 xx3
  have x0 : ∀ d os, (grow (redrawn w2 d) os).cell? ⟨w.heap.size, 0, none⟩ = some (.int .u64 (x.1.1 : Int)) := cell_regrown ((K.out.at_ 0 rfl).cell 0)
  have x1 : ∀ d os, (grow (redrawn w2 d) os).cell? ⟨w.heap.size, 1, none⟩ = some (.int .u64 (x.1.2 : Int)) := cell_regrown ((K.out.at_ 0 rfl).cell 1)
  have x2 : ∀ d os, (grow (redrawn w2 d) os).cell? ⟨w.heap.size, 2, none⟩ = some (.int .u64 (x.2.1 : Int)) := cell_regrown ((K.out.at_ 0 rfl).cell 2)
  have x3 : ∀ d os, (grow (redrawn w2 d) os).cell? ⟨w.heap.size, 3, none⟩ = some (.int .u64 (x.2.2 : Int)) := cell_regrown ((K.out.at_ 0 rfl).cell 3)
  by_cases hk : Kp < n
  case neg =>
    have hrf : Hid (r = false) := Lib.hid (by rw [hr.out]; exact decide_eq_false (fun h => hk (hhas.2 h).1))
    have hkz : ¬ (Kp : Int) < (n : Int) := by omega
    clear hhas
    go_upto_region 2 with fail
    refine wp_region_quiet_below (by kernel_rfl) (by kernel_rfl) ?_
    iterate 13 (quiet_step (fail))
    refine wpQuiet_nil ?_
    intro w3 hw'
    have hb : Below w2.heap.size w2 w3 := by
      obtain ⟨p, rfl⟩ := hw'
      exact below_regrown w2 p.d p.os
    replace hB := Lib.hid (hB.out.trans (hb.mono hB.out.size))
    clear hw' hb x0 x1 x2 x3 K
    go_wp2_with fail
    go_ret
    exact ⟨by rw [hrf.out]; rfl, hB.out⟩
  case pos =>
    obtain ⟨g, rfl⟩ := hA (by omega)
    have hkz : (Kp : Int) < (n : Int) := by omega
    have hkl : Kp < L.length := by rw [← hn.out]; exact hk
    obtain ⟨m, hm⟩ : ∃ m, m = L[Kp]! := ⟨_, rfl⟩
    have hC := RRow.cell (by have h := RRow.below hRow.out hB.out; rw [hn.out] at h; exact h) hkl
    rw [← hm] at hC
    have m0 : ∀ d os, (grow (redrawn w2 d) os).cell? ⟨g, Kp * 4, none⟩ = some (.int .u64 (m.1.1 : Int)) := cell_regrown (hC 0 _ rfl)
    have m1 : ∀ d os, (grow (redrawn w2 d) os).cell? ⟨g, Kp * 4 + 1, none⟩ = some (.int .u64 (m.1.2 : Int)) := cell_regrown (hC 1 _ rfl)
    have m2 : ∀ d os, (grow (redrawn w2 d) os).cell? ⟨g, Kp * 4 + 2, none⟩ = some (.int .u64 (m.2.1 : Int)) := cell_regrown (hC 2 _ rfl)
    have m3 : ∀ d os, (grow (redrawn w2 d) os).cell? ⟨g, Kp * 4 + 3, none⟩ = some (.int .u64 (m.2.2 : Int)) := cell_regrown (hC 3 _ rfl)
    have hrt : Hid (r = decide (m = x)) := Lib.hid (by rw [hr.out]; exact decide_eq_decide.2 ⟨fun h => by rw [hm]; exact (hhas.2 h).2, fun h => hhas.1 ⟨hk, by rw [← hm]; exact h⟩⟩)
    have e0 := nleaf_cases m x
    replace hm := Lib.hid hm
    clear hC hhas hkl hk
    go_upto_region 2 with fail
    rcases e0 with ⟨e0, e1, e2, e3, e4⟩ | ⟨e0, e1, e2, e3, e4⟩ | ⟨e0, e1, e2, e3⟩ | ⟨e0, e1, e2⟩ | ⟨e0, e1⟩
    all_goals
      first | replace hrt := Lib.hid (hrt.out.trans (decide_eq_true e0)) | replace hrt := Lib.hid (hrt.out.trans (decide_eq_false e0))
      clear e0
      refine wp_region_quiet_below (by kernel_rfl) (by kernel_rfl) ?_
      iterate 13 (quiet_step (fail))
      refine wpQuiet_nil ?_
      intro w3 hw'
      have hb : Below w2.heap.size w2 w3 := by
        obtain ⟨p, rfl⟩ := hw'
        exact below_regrown w2 p.d p.os
      replace hB := Lib.hid (hB.out.trans (hb.mono hB.out.size))
      clear hw' hb x0 x1 x2 x3 m0 m1 m2 m3 K
      go_wp2_with fail
      go_ret
      exact ⟨by rw [hrt.out]; rfl, hB.out⟩
open Go.RowKit Go.Sort
theorem info_leaf4 : (Tryz.prog.info? 44).map (fun i => (i.zero, i.size, i.bytes)) = some (some (.agg #[.int .u64 0, .int .u64 0, .int .u64 0, .int .u64 0]), 4, 32) := by kernel_rfl
theorem rl_one (l : Lf) : ∀ u ∈ rlE l, u.oneCell' = true := fun u hu => by
  simp only [rlE, List.mem_cons, List.not_mem_nil, or_false] at hu
  rcases hu with rfl | rfl | rfl | rfl <;> rfl
theorem rlL_one (L : List Lf) : ∀ u ∈ L.flatMap rlE, u.oneCell' = true := fun u hu => by
  obtain ⟨l, -, hl⟩ := List.mem_flatMap.1 hu
  exact rl_one l u hl
theorem row_mono4 {w : World} {B B' : Nat} {e : TypeId} {size : Nat} {v : Value} {n : Nat} {xs : List Value} (h : w.ownsRow B e size v n xs) (hb : B' ≤ B) : w.ownsRow B' e size v n xs := by
  refine ⟨h.1, h.2.imp id ?_⟩
  rintro ⟨g, cap, cur, rfl, h1, rest⟩
  exact ⟨g, cap, cur, rfl, Nat.le_trans hb h1, rest⟩
theorem flat4_len (L : List Lf) : (L.flatMap rlE).length = L.length * 4 := by
  induction L with
  | nil => rfl
  | cons a r ih => rw [List.flatMap_cons, List.length_append, ih, rlE_len, List.length_cons]; omega
theorem rl_news {w : World} {vb : Nat} {l : Lf} (h : Blk w vb 44 (rlE l).toArray) : ∀ (j : Nat) (u : Value), (rlE l)[j]? = some u → w.cell? ((⟨vb, 0, none⟩ : Addr).add j) = some u := fun j u hu => by
  rw [addr0_add, h.cell j]
  simpa using hu
theorem row_old {w w' : World} {B n : Nat} {v : Value} {L : List Lf} (h : RRow w B v L) (hb : Below n w w') (hv : ∀ k, v.ownBlock = some k → k < n) : RRow w' B v L := by
  refine ⟨h.1, h.2.imp id ?_⟩
  rintro ⟨g, cap, cur, rfl, h1, hg, rest⟩
  exact ⟨g, cap, cur, rfl, h1, (hb.block g (hv g rfl)).trans hg, rest⟩
theorem RRow.from_ {w : World} {B g n c : Nat} {L : List Lf} (h : RRow w B (.slice (some ⟨g, 0, none⟩) n c) L) (i m : Nat) : ∀ (j : Nat) (u : Value), (((L.drop i).take m).flatMap rlE)[j]? = some u → w.cell? ((⟨g, i * 4, none⟩ : Addr).add j) = some u := fun j u hu => by
  have hl : j < ((L.drop i).take m).length * 4 := by
    obtain ⟨h1, -⟩ := List.getElem?_eq_some_iff.1 hu
    rwa [flat4_len] at h1
  have hq : j / 4 < ((L.drop i).take m).length := by omega
  have e1 := flat4_get ((L.drop i).take m) (j / 4) (j % 4) hq (Nat.mod_lt _ (by decide))
  rw [show j / 4 * 4 + j % 4 = j by omega, hu] at e1
  have hi : i + j / 4 < L.length := by
    rw [List.length_take, List.length_drop] at hq
    omega
  have e2 := RRow.cell h hi (j % 4) u (by
    rw [getElem!_pos L _ hi, e1, List.getElem_take, List.getElem_drop])
  rw [show (i + j / 4) * 4 + j % 4 = i * 4 + j by omega] at e2
  rw [← e2]
  unfold Addr.add
  by_cases hz : j = 0
  · simp [hz]
  · simp [hz]
set_option maxRecDepth 100000 in
set_option maxHeartbeats 4000000 in
theorem rlput_any (B : Nat) (v : Value) (L : List Lf) (x : Lf) (w : World) (hv : RRow w B v L) (hBase : B ≤ w.heap.size) (hM : ∀ m, m ∈ L → AngL m) (hx : AngL x) (hup : L.Pairwise fun l m => ordL l m < 0) (hlen : L.length ≤ 4096) :
    Calls Tryz.prog 63 #[v, .agg #[.int .u64 (x.1.1 : Int), .int .u64 (x.1.2 : Int), .int .u64 (x.2.1 : Int), .int .u64 (x.2.2 : Int)]] w (fun e w' => ∃ v', e = .returned v' ∧ RRow w' B v' (putS L x) ∧ Below w.heap.size w w') := by
  obtain ⟨i0, hi, hz0, hz1, hz2⟩ := info_parts info_leaf4
  obtain ⟨A, c, rfl, hA⟩ := RRow.form hv
  have hP := Plc.of_up hM hx hup
  obtain ⟨Kp, hKp⟩ : ∃ k, k = plcL L x := ⟨_, rfl⟩
  rw [← hKp] at hP
  have cH := Lib.hid (fun W (h : RRow W B (.slice A L.length c) L) => rlhas_any B _ L x W h hM hx hup (by omega))
  have cP := Lib.hid (fun W (h : RRow W B (.slice A L.length c) L) => rlplace_any B Kp _ L x W h hM hx hP (by omega))
  have hRow := Lib.hid hv
  obtain ⟨n, hn⟩ : ∃ n, n = L.length := ⟨_, rfl⟩
  have hKn := hP.le
  have hnil : (A = none ∧ n = 0 ∧ c = 0) ∨ ∃ g, A = some ⟨g, 0, none⟩ := by
    rcases hv.2 with ⟨e, h0⟩ | ⟨g, cap, cur, e, -⟩
    · injection e with e1 e2 e3; exact .inl ⟨e1, by rw [hn]; exact h0, e3⟩
    · injection e with e1 e2 e3; exact .inr ⟨g, e1⟩
  have hcap : n ≤ c ∨ A = none := by
    rcases hv.2 with ⟨e, -⟩ | ⟨g, cap, cur, e, -, -, h, -⟩
    · injection e with e; exact .inr e
    · injection e with e1 e2 e3; left; rw [hn, e3]; exact h
  rw [← hn] at hKn cP cH hRow hA hlen ⊢
  obtain ⟨R, hR⟩ : ∃ r, r = putS L x := ⟨_, rfl⟩
  rw [← hR]
  replace hn := Lib.hid hn
  replace hR := Lib.hid hR
  replace hKp := Lib.hid hKp
  clear hv hP hM hx hup
  have hBW : Below w.heap.size w (w.alloc (.cells #[.int .u64 (x.1.1 : Int), .int .u64 (x.1.2 : Int), .int .u64 (x.2.1 : Int), .int .u64 (x.2.2 : Int)] 44)) := ((Below.refl _ w).alloc (Nat.le_refl _) _)
  have kk0 := (Blk.new w 44 #[.int .u64 (x.1.1 : Int), .int .u64 (x.1.2 : Int), .int .u64 (x.2.1 : Int), .int .u64 (x.2.2 : Int)])
  have K := Lib.hid (KeepT.one kk0)
  have hB := Lib.hid hBW
  clear hBW kk0
  go_enter Tryz.func63, Tryz.ntmps63
  go_upto_region 1 with fail
  generalize hW : (w.alloc (.cells #[.int .u64 (x.1.1 : Int), .int .u64 (x.1.2 : Int), .int .u64 (x.2.1 : Int), .int .u64 (x.2.2 : Int)] 44)) = w1 at hB K ⊢
  clear hW
  have xx0 : w1.cell? ⟨w.heap.size, 0, none⟩ = some (.int .u64 (x.1.1 : Int)) := (K.out.at_ 0 rfl).cell 0
  have xx1 : w1.cell? ⟨w.heap.size, 1, none⟩ = some (.int .u64 (x.1.2 : Int)) := (K.out.at_ 0 rfl).cell 1
  have xx2 : w1.cell? ⟨w.heap.size, 2, none⟩ = some (.int .u64 (x.2.1 : Int)) := (K.out.at_ 0 rfl).cell 2
  have xx3 : w1.cell? ⟨w.heap.size, 3, none⟩ = some (.int .u64 (x.2.2 : Int)) := (K.out.at_ 0 rfl).cell 3
  go_wp2_with fail
  refine (cH.out _ (RRow.below hRow.out hB.out)).mono ?_
  rintro en w2 ⟨rfl, hb⟩
  replace hB := Lib.hid (hB.out.trans (hb.mono hB.out.size))
  replace K := Lib.hid (K.out.below hb)
  clear hb cH xx0 xx1 xx2 xx3
  by_cases hin : x ∈ L
  case pos =>
    have hRe : Hid (R = L) := Lib.hid (by rw [hR.out, putS, if_pos hin])
    rw [decide_eq_true hin]
    clear hin cP K
    go_wp2_with fail
    go_ret
    exact ⟨_, rfl, by rw [hRe.out]; exact RRow.below hRow.out hB.out, hB.out⟩
  case neg =>
    have hRe : Hid (R = L.take Kp ++ [x] ++ L.drop Kp) := Lib.hid (by rw [hR.out, putS, if_neg hin, ← hKp.out, putL])
    rw [decide_eq_false hin]
    clear hin hR hKp
    have xx0 : w2.cell? ⟨w.heap.size, 0, none⟩ = some (.int .u64 (x.1.1 : Int)) := (K.out.at_ 0 rfl).cell 0
    have xx1 : w2.cell? ⟨w.heap.size, 1, none⟩ = some (.int .u64 (x.1.2 : Int)) := (K.out.at_ 0 rfl).cell 1
    have xx2 : w2.cell? ⟨w.heap.size, 2, none⟩ = some (.int .u64 (x.2.1 : Int)) := (K.out.at_ 0 rfl).cell 2
    have xx3 : w2.cell? ⟨w.heap.size, 3, none⟩ = some (.int .u64 (x.2.2 : Int)) := (K.out.at_ 0 rfl).cell 3
    go_wp2_with fail
    refine (cP.out _ (RRow.below hRow.out hB.out)).mono ?_
    rintro en w3 ⟨rfl, hb⟩
    replace hB := Lib.hid (hB.out.trans (hb.mono hB.out.size))
    replace K := Lib.hid (K.out.below hb)
    have hRo := Lib.hid (RRow.below hRow.out hB.out)
    have hBw := Lib.hid (Nat.le_trans (show B ≤ w.heap.size from hBase) hB.out.size)
    clear hb cP xx0 xx1 xx2 xx3
    rcases hnil with ⟨rfl, h0, rfl⟩ | ⟨g, rfl⟩
    case inl =>
      subst h0
      obtain rfl : Kp = 0 := by omega
      have hL0 : L = [] := List.eq_nil_of_length_eq_zero hn.out.symm
      have hK1 : w.heap.size + 1 ≤ w3.heap.size := (K.out.at_ 0 rfl).lt
      have hfx : Hid (R = [x]) := Lib.hid (by rw [hRe.out, hL0]; rfl)
      have xx0 : w3.cell? ⟨w.heap.size, 0, none⟩ = some (.int .u64 (x.1.1 : Int)) := (K.out.at_ 0 rfl).cell 0
      have xx1 : w3.cell? ⟨w.heap.size, 1, none⟩ = some (.int .u64 (x.1.2 : Int)) := (K.out.at_ 0 rfl).cell 1
      have xx2 : w3.cell? ⟨w.heap.size, 2, none⟩ = some (.int .u64 (x.2.1 : Int)) := (K.out.at_ 0 rfl).cell 2
      have xx3 : w3.cell? ⟨w.heap.size, 3, none⟩ = some (.int .u64 (x.2.2 : Int)) := (K.out.at_ 0 rfl).cell 3
      go_upto_region 6 with fail
      go_wp2_with (at_builtin; refine wpList_append_own _ rfl _ _ 34 rfl (w.heap.size + 1) 44 i0 (.agg #[.int .u64 0, .int .u64 0, .int .u64 0, .int .u64 0]) 4 32 Tryz.underlying34 hi hz0 hz1 hz2 rfl (by decide) (.slice none 0 0) 0 [] rfl (World.ownsRow_nil _ _ _ _) ⟨w3.heap.size, 0, none⟩ 1 1 (rlE x) ?g1 ?g2 ?g3 ?g4 ?g5 ?g6 ?g7 ?gK)
      case g1 => rfl
      case g2 => rfl
      case g3 => exact rl_news (Blk.new w3 44 (rlE x).toArray)
      case g4 => exact rl_one x
      case g5 => unfold maxLen; omega
      case g6 => omega
      case g7 => simp; omega
      case gK =>
        intro v6 w6 hown6 hgrow6 _
        have hb6 : Below w3.heap.size w3 w6 := ((Below.refl w3.heap.size w3).alloc (Nat.le_refl _) _).grown hgrow6 (by simp) (fun k hk => by cases hk)
        replace hB := Lib.hid (hB.out.trans (hb6.mono hB.out.size))
        have hfin : Hid (RRow w6 B v6 R) := Lib.hid (by
          unfold RRow
          rw [hfx.out]
          refine row_mono4 (B := w.heap.size + 1) ?_ (Nat.le_trans hBase (Nat.le_succ _))
          simpa using hown6)
        obtain ⟨A6, c6, hv6, hA6⟩ := RRow.form hfin.out
        rw [hfx.out] at hv6 hA6
        obtain ⟨g6, rfl⟩ := hA6 (Nat.succ_pos _)
        have hc6 : 1 ≤ c6 := by
          rcases hfin.out.2 with ⟨e, -⟩ | ⟨g', cap, cur, e, -, -, h, -⟩
          · rw [hv6] at e; cases e
          · rw [hv6] at e
            injection e with e1 e2 e3
            rw [hfx.out] at h
            rw [e3]
            exact h
        subst hv6
        clear hA6
        clear hgrow6 hb6 hown6 K xx0 xx1 xx2 xx3 hL0 hfx
        go_wp2_with fail
        go_ret
        exact ⟨_, rfl, hfin.out, hB.out⟩
    case inr =>
      replace hcap : n ≤ c := hcap.resolve_right (by simp)
      have hc63 : c ≤ 9223372036854775807 := by
        rcases hRow.out.2 with ⟨e, -⟩ | ⟨g', cap, cur, e, -, -, -, h, -⟩
        · cases e
        · injection e with e1 e2 e3; rw [e3]; exact h
      replace hc63 := Lib.hid hc63
      have hz1' : (Kp : Int) ≤ (c : Int) := by omega
      have hz2' : (Kp : Int) ≤ (n : Int) := by omega
      have hz3' : (0 : Int) ≤ (Kp : Int) := by omega
      have hgw : g < w.heap.size := (World.ownsRow.lt hRow.out g rfl).2
      have hK1 : w.heap.size + 1 ≤ w3.heap.size := (K.out.at_ 0 rfl).lt
      have htl : (L.take Kp).length = Kp := by rw [List.length_take, ← hn.out]; omega
      go_upto_region 5 with fail
      go_wp2_with (at_builtin; refine wpList_append_own _ rfl _ _ 34 rfl (w.heap.size + 1) 44 i0 (.agg #[.int .u64 0, .int .u64 0, .int .u64 0, .int .u64 0]) 4 32 Tryz.underlying34 hi hz0 hz1 hz2 rfl (by decide) (.slice none 0 0) 0 [] rfl (World.ownsRow_nil _ _ _ _) ⟨g, 0, none⟩ Kp c ((L.take Kp).flatMap rlE) ?g1 ?g2 ?g3 ?g4 ?g5 ?g6 ?g7 ?gK)
      case g1 => rfl
      case g2 => rw [flat4_len, htl]
      case g3 => intro j u hu; exact RRow.from_ hRo.out 0 Kp j u (by rw [List.drop_zero]; exact hu)
      case g4 => exact rlL_one _
      case g5 => unfold maxLen; omega
      case g6 => omega
      case g7 => exact hK1
      case gK =>
        intro v5 w5 hown5 hgrow5 _
        have hb5 : Below w3.heap.size w3 w5 := ⟨hgrow5.os, hgrow5.tape, hgrow5.output, hgrow5.size, fun k hk => hgrow5.block k hk (by simp [Value.ownBlock])⟩
        have hb5s := hb5.size
        replace hB := Lib.hid (hB.out.trans (hb5.mono hB.out.size))
        replace K := Lib.hid (K.out.below hb5)
        replace hRo := Lib.hid (RRow.below hRo.out hb5)
        replace hown5 := Lib.hid hown5
        clear hgrow5 hb5
        have xx0 : w5.cell? ⟨w.heap.size, 0, none⟩ = some (.int .u64 (x.1.1 : Int)) := (K.out.at_ 0 rfl).cell 0
        have xx1 : w5.cell? ⟨w.heap.size, 1, none⟩ = some (.int .u64 (x.1.2 : Int)) := (K.out.at_ 0 rfl).cell 1
        have xx2 : w5.cell? ⟨w.heap.size, 2, none⟩ = some (.int .u64 (x.2.1 : Int)) := (K.out.at_ 0 rfl).cell 2
        have xx3 : w5.cell? ⟨w.heap.size, 3, none⟩ = some (.int .u64 (x.2.2 : Int)) := (K.out.at_ 0 rfl).cell 3
        go_wp2_with (at_builtin; refine wpList_append_own _ rfl _ _ 34 rfl (w.heap.size + 1) 44 i0 (.agg #[.int .u64 0, .int .u64 0, .int .u64 0, .int .u64 0]) 4 32 Tryz.underlying34 hi hz0 hz1 hz2 rfl (by decide) v5 Kp ((L.take Kp).flatMap rlE) rfl ?g0 ⟨w5.heap.size, 0, none⟩ 1 1 (rlE x) ?g1 ?g2 ?g3 ?g4 ?g5 ?g6 ?g7 ?gK)
        case g0 => exact World.ownsRow.alloc hown5.out _
        case g1 => rfl
        case g2 => rfl
        case g3 => exact rl_news (Blk.new w5 44 (rlE x).toArray)
        case g4 => exact rl_one x
        case g5 => unfold maxLen; omega
        case g6 => omega
        case g7 => simp; omega
        case gK =>
          intro v6 w6 hown6 hgrow6 _
          have hv5 := fun k (hk : v5.ownBlock = some k) => World.ownsRow.lt hown5.out k hk
          have hb6 : Below (w.heap.size + 1) w5 w6 := ((Below.refl w5.heap.size w5).alloc (Nat.le_refl _) _).mono (by omega) |>.grown hgrow6 (by simp; omega) (fun k hk => (hv5 k hk).1)
          have hsz6 : w5.heap.size + 1 ≤ w6.heap.size := by have := hgrow6.size; simpa using this
          replace hB := Lib.hid (hB.out.trans (hb6.mono (Nat.le_succ _)))
          replace hRo := Lib.hid (show RRow w6 B (.slice (some ⟨g, 0, none⟩) n c) L from row_old hRo.out hb6 (fun k hk => by have := (World.ownsRow.lt hRow.out k hk).2; omega))
          replace hown6 := Lib.hid hown6
          clear hgrow6 hb6 hv5 hown5 K xx0 xx1 xx2 xx3
          have hdl : ((L.drop Kp).take (n - Kp)) = L.drop Kp := by rw [List.take_of_length_le (by rw [List.length_drop, ← hn.out]; exact Nat.le_refl _)]
          have hdn : (L.drop Kp).length = n - Kp := by rw [List.length_drop, ← hn.out]
          by_cases hcK : c = Kp
          · have hnK : n = Kp := by omega
            have hd0 : L.drop Kp = [] := List.drop_eq_nil_of_le (by rw [← hn.out]; omega)
            go_upto_region 7 with fail
            go_wp2_with (at_builtin; refine wpList_append_own _ rfl _ _ 34 rfl (w.heap.size + 1) 44 i0 (.agg #[.int .u64 0, .int .u64 0, .int .u64 0, .int .u64 0]) 4 32 Tryz.underlying34 hi hz0 hz1 hz2 rfl (by decide) v6 (Kp + 1) ((L.take Kp).flatMap rlE ++ rlE x) rfl hown6.out ⟨g, 0, none⟩ 0 0 [] ?g1 ?g2 ?g3 ?g4 ?g5 ?g6 ?g7 ?gK)
            case g1 => simp [Act.eval, Act.put, hcK, hnK]
            case g2 => rfl
            case g3 => intro j u hu; simp at hu
            case g4 => intro u hu; cases hu
            case g5 => unfold maxLen; omega
            case g6 => omega
            case g7 => omega
            case gK =>
              intro v7 w7 hown7 hgrow7 _
              have hv6 := fun k (hk : v6.ownBlock = some k) => World.ownsRow.lt hown6.out k hk
              have hb7 : Below w.heap.size w6 w7 := (Below.refl w.heap.size w6).grown hgrow7 (by omega) (fun k hk => by have := (hv6 k hk).1; omega)
              replace hB := Lib.hid (hB.out.trans hb7)
              have hfin : Hid (RRow w7 B v7 R) := Lib.hid (by
                unfold RRow
                rw [hRe.out]
                have hl : (L.take Kp ++ [x] ++ L.drop Kp).length = Kp + 1 + (n - Kp) := by rw [List.length_append, List.length_append, htl, hdn]; rfl
                rw [hl, List.flatMap_append, List.flatMap_append, List.flatMap_singleton]
                rw [hd0, hnK, Nat.sub_self]; refine row_mono4 (B := w.heap.size + 1) ?_ (Nat.le_trans hBase (Nat.le_succ _)); simpa only [List.append_assoc, List.flatMap_nil, List.append_nil, Nat.add_zero] using hown7)
              clear hgrow7 hb7 hv6 hown7 hown6
              go_wp2_with fail
              go_ret
              exact ⟨_, rfl, hfin.out, hB.out⟩
          · have hcK2 : ¬ (c = Kp) := hcK
            go_upto_region 7 with fail
            go_wp2_with (at_builtin; refine wpList_append_own _ rfl _ _ 34 rfl (w.heap.size + 1) 44 i0 (.agg #[.int .u64 0, .int .u64 0, .int .u64 0, .int .u64 0]) 4 32 Tryz.underlying34 hi hz0 hz1 hz2 rfl (by decide) v6 (Kp + 1) ((L.take Kp).flatMap rlE ++ rlE x) rfl hown6.out ⟨g, Kp * 4, none⟩ (n - Kp) (c - Kp) ((L.drop Kp).flatMap rlE) ?g1 ?g2 ?g3 ?g4 ?g5 ?g6 ?g7 ?gK)
            case g1 => rfl
            case g2 => rw [flat4_len, hdn]
            case g3 => intro j u hu; exact RRow.from_ hRo.out Kp (n - Kp) j u (by rw [hdl]; exact hu)
            case g4 => exact rlL_one _
            case g5 => unfold maxLen; omega
            case g6 => omega
            case g7 => omega
            case gK =>
              intro v7 w7 hown7 hgrow7 _
              have hv6 := fun k (hk : v6.ownBlock = some k) => World.ownsRow.lt hown6.out k hk
              have hb7 : Below w.heap.size w6 w7 := (Below.refl w.heap.size w6).grown hgrow7 (by omega) (fun k hk => by have := (hv6 k hk).1; omega)
              replace hB := Lib.hid (hB.out.trans hb7)
              have hfin : Hid (RRow w7 B v7 R) := Lib.hid (by
                unfold RRow
                rw [hRe.out]
                have hl : (L.take Kp ++ [x] ++ L.drop Kp).length = Kp + 1 + (n - Kp) := by rw [List.length_append, List.length_append, htl, hdn]; rfl
                rw [hl, List.flatMap_append, List.flatMap_append, List.flatMap_singleton]
                refine row_mono4 (B := w.heap.size + 1) ?_ (Nat.le_trans hBase (Nat.le_succ _)); simpa only [List.append_assoc] using hown7)
              clear hgrow7 hb7 hv6 hown7 hown6
              go_wp2_with fail
              go_ret
              exact ⟨_, rfl, hfin.out, hB.out⟩
end Go.Proofs.YtoaggmegmgdgbaaGreat
