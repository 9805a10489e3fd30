/- Package lamin: place, Has. -/
import Derived.Test.YtoaggmegmgdgbaaLamF
import Derived.Test.YtoaggmegmgdgbaaSrch
namespace Go.Proofs.Ytoaggmegmgdgbaa
open Go.RowKit Go.Sort

/-- Leaves' row. -/
def LRow (w : World) (B : Nat) (v : Value) (L : List Lf) : Prop := w.ownsRow B 27 6 v L.length (flatL L)
theorem LRow.below {w w' : World} {B : Nat} {v : Value} {L : List Lf} (h : LRow w B v L) (hb : Below w.heap.size w w') : LRow w' B v L := by
  obtain ⟨hl, hc⟩ := h
  refine ⟨hl, ?_⟩
  rcases hc with hc | ⟨g, cap, cur, hv, hbase, hg, rest⟩
  · exact .inl hc
  · have hlt : g < w.heap.size := by
      rcases Nat.lt_or_ge g w.heap.size with h | h
      · exact h
      · rw [Array.getElem?_eq_none h] at hg; cases hg
    exact .inr ⟨g, cap, cur, hv, hbase, (hb.block g hlt).trans hg, rest⟩
theorem LRow.alloc {w : World} {B : Nat} {v : Value} {L : List Lf} (h : LRow w B v L) (o : Obj) : LRow (w.alloc o) B v L := World.ownsRow.alloc h o
theorem Lam.below {w w' : World} {B x : Nat} {v : Value} {L : List Lf} (h : Lam w B x v L) (hb : Below w.heap.size w w') : Lam w' B x v L := ⟨Blk.below h.blk hb, LRow.below h.row hb, h.base⟩
theorem Lam.alloc {w : World} {B x : Nat} {v : Value} {L : List Lf} (h : Lam w B x v L) (o : Obj) : Lam (w.alloc o) B x v L := ⟨Blk.alloc h.blk o, LRow.alloc h.row o, h.base⟩
theorem addr0_add (g j : Nat) : (⟨g, 0, none⟩ : Addr).add j = ⟨g, j, none⟩ := by
  unfold Addr.add
  split
  · rename_i h; rw [h]
  · simp
theorem LRow.form {w : World} {B : Nat} {v : Value} {L : List Lf} (h : LRow w B v L) : ∃ A c, v = .slice A L.length c ∧ (0 < L.length → ∃ g, A = some ⟨g, 0, none⟩) := by
  rcases h.2 with ⟨rfl, h0⟩ | ⟨g, cap, cur, rfl, -⟩
  · exact ⟨none, 0, by rw [h0], fun h => by omega⟩
  · exact ⟨_, _, rfl, fun _ => ⟨g, rfl⟩⟩
theorem LRow.cell {w : World} {B g n c : Nat} {L : List Lf} (h : LRow w B (.slice (some ⟨g, 0, none⟩) n c) L) {i : Nat} (hi : i < L.length) : ∀ (j : Nat) (u : Value), (leafE L[i]!)[j]? = some u → w.cell? ⟨g, i * 6 + j, none⟩ = some u := fun j u hu => by
  have hj : j < 6 := by
    have := List.getElem?_eq_some_iff.1 hu
    obtain ⟨h1, -⟩ := this
    rwa [leafE_length] at h1
  have hg : (flatL L)[i * 6 + j]? = some u := by
    rw [flatL_get L i j hi hj, ← getElem!_pos L i hi]
    exact hu
  have := World.ownsRow.cells h (g := g) rfl _ _ hg
  rwa [addr0_add] at this
/-- How the strings of two leaves stand. -/
theorem leaf_cases (m l : Lf) : (m = l ∧ ((natS m.1.1).toList == (natS l.1.1).toList) = true ∧ ((natS m.1.2).toList == (natS l.1.2).toList) = true ∧ ((natS m.2.1).toList == (natS l.2.1).toList) = true ∧ ((natS m.2.2).toList == (natS l.2.2).toList) = true) ∨
    (m ≠ l ∧ ((natS m.1.1).toList == (natS l.1.1).toList) = true ∧ ((natS m.1.2).toList == (natS l.1.2).toList) = true ∧ ((natS m.2.1).toList == (natS l.2.1).toList) = true ∧ ((natS m.2.2).toList == (natS l.2.2).toList) = false) ∨
    (m ≠ l ∧ ((natS m.1.1).toList == (natS l.1.1).toList) = true ∧ ((natS m.1.2).toList == (natS l.1.2).toList) = true ∧ ((natS m.2.1).toList == (natS l.2.1).toList) = false) ∨
    (m ≠ l ∧ ((natS m.1.1).toList == (natS l.1.1).toList) = true ∧ ((natS m.1.2).toList == (natS l.1.2).toList) = false) ∨
    (m ≠ l ∧ ((natS m.1.1).toList == (natS l.1.1).toList) = false) := by
  rcases pair_cases m.1 l.1 with ⟨h1, a1, a2⟩ | ⟨h1, a1, a2⟩ | ⟨h1, a1⟩
  · rcases pair_cases m.2 l.2 with ⟨h2, b1, b2⟩ | ⟨h2, b1, b2⟩ | ⟨h2, b1⟩
    · exact .inl ⟨Prod.ext h1 h2, a1, a2, b1, b2⟩
    · exact .inr (.inl ⟨fun e => h2 (by rw [e]), a1, a2, b1, b2⟩)
    · exact .inr (.inr (.inl ⟨fun e => h2 (by rw [e]), a1, a2, b1⟩))
  · exact .inr (.inr (.inr (.inl ⟨fun e => h1 (by rw [e]), a1, a2⟩)))
  · exact .inr (.inr (.inr (.inr ⟨fun e => h1 (by rw [e]), a1⟩)))
theorem wpQuiet_skip {P : Program} {ops : Array Oper} {C : World → Prop} {Q : Act → Prop} {a : Act} {o : Oper} {rest : List Oper} (h0 : Region.wanted o (yielded ops a.tmps) = false)
    (h : ∀ K : Act → Prop, (∀ a, wpQuiet P ops C Q rest a → K a) → K (a.put o.dst undef)) : wpQuiet P ops C Q (o :: rest) a :=
  wpQuiet_step (fun K hK => by rw [if_neg (by rw [h0]; exact Bool.false_ne_true)]; exact h K hK)
/-- Where a leaf stands among leaves. -/
structure Plc (L : List Lf) (l : Lf) (K : Nat) : Prop where
  le : K ≤ L.length
  lo : ∀ t, t < K → ordL L[t]! l < 0
  hi : ∀ t, K ≤ t → t < L.length → 0 ≤ ordL L[t]! l

set_option maxRecDepth 100000 in
set_option maxHeartbeats 2000000 in
/-- lamin.place -/
theorem lplace_any (B x Kp : Nat) (v : Value) (L : List Lf) (l : Lf) (w : World) (hL : Lam w B x v L) (hl : AngL l) (hM : ∀ m, m ∈ L → AngL m) (hP : Plc L l Kp) (hlen : L.length ≤ 1048576) :
    Calls Try.prog 21 #[.pointer (some ⟨x, 0, none⟩), .agg #[.bool false, .string (natS l.1.1), .string (natS l.1.2), .bool false, .string (natS l.2.1), .string (natS l.2.2)]] w (RetVal (.tuple #[.int .i64 (Kp : Int), .bool (decide (Kp < L.length ∧ L[Kp]! = l))]) w) := by
  obtain ⟨A, c, rfl, hA⟩ := LRow.form hL.row
  obtain ⟨n, hn⟩ : ∃ n, n = L.length := ⟨_, rfl⟩
  obtain ⟨r, hr⟩ : ∃ r, r = decide (Kp < L.length ∧ L[Kp]! = l) := ⟨_, rfl⟩
  rw [← hr]
  have hX0 := hL.blk
  rw [← hn] at hX0
  have hBW : Below w.heap.size w ((w.alloc (.cells #[.pointer (some ⟨x, 0, none⟩)] 29)).alloc (.cells #[.bool false, .string (natS l.1.1), .string (natS l.1.2), .bool false, .string (natS l.2.1), .string (natS l.2.2)] 27)) := (((Below.refl _ w).alloc (Nat.le_refl _) _).alloc (by simp) _)
  have kk0 := ((Blk.new w 29 #[.pointer (some ⟨x, 0, none⟩)]).alloc (.cells #[.bool false, .string (natS l.1.1), .string (natS l.1.2), .bool false, .string (natS l.2.1), .string (natS l.2.2)] 27))
  have kk1 := (Blk.new (w.alloc (.cells #[.pointer (some ⟨x, 0, none⟩)] 29)) 27 #[.bool false, .string (natS l.1.1), .string (natS l.1.2), .bool false, .string (natS l.2.1), .string (natS l.2.2)])
  simp only [World.size_alloc] at kk1
  have K := Lib.hid ((KeepT.one kk0).snoc kk1)
  have hB := Lib.hid hBW
  clear hBW kk0 kk1
  have hR : Hid (LRow ((w.alloc (.cells #[.pointer (some ⟨x, 0, none⟩)] 29)).alloc (.cells #[.bool false, .string (natS l.1.1), .string (natS l.1.2), .bool false, .string (natS l.2.1), .string (natS l.2.2)] 27)) B (.slice A L.length c) L) := Lib.hid ((LRow.alloc (LRow.alloc hL.row (.cells #[.pointer (some ⟨x, 0, none⟩)] 29)) (.cells #[.bool false, .string (natS l.1.1), .string (natS l.1.2), .bool false, .string (natS l.2.1), .string (natS l.2.2)] 27)))
  have KK := Lib.hid (K.out.snoc (Blk.alloc (Blk.alloc hX0 (.cells #[.pointer (some ⟨x, 0, none⟩)] 29)) (.cells #[.bool false, .string (natS l.1.1), .string (natS l.1.2), .bool false, .string (natS l.2.1), .string (natS l.2.2)] 27)))
  clear K hX0 hL
  obtain ⟨g0, hg0⟩ : ∃ g0, g0 = w.heap.size := ⟨_, rfl⟩
  obtain ⟨W0, hW⟩ : ∃ W0, W0 = ((w.alloc (.cells #[.pointer (some ⟨x, 0, none⟩)] 29)).alloc (.cells #[.bool false, .string (natS l.1.1), .string (natS l.1.2), .bool false, .string (natS l.2.1), .string (natS l.2.2)] 27)) := ⟨_, rfl⟩
  rw [← hW] at hB KK hR
  rw [← hg0] at KK
  have hS : Hid (Calls Try.prog 33 #[.int .i64 (n : Int), .func (.func 34) #[] #[.pointer (some ⟨g0, 0, none⟩), .pointer (some ⟨g0 + 1, 0, none⟩)]] W0 (RetVal (.int .i64 (Kp : Int)) W0)) := Lib.hid (by
    refine lSearch_any 34 _ n Kp (fun i => decide (ordL L[i]! l ≥ 0)) W0 (enters_of Try.func34 (by kernel_rfl) rfl) (by omega) (by rw [hn]; exact hP.le) (fun t ht => ?_) (fun t h1 h2 => ?_) (fun W i hi hb => ?_)
    · have := hP.lo t ht
      exact decide_eq_false (by omega)
    · have := hP.hi t h1 (by omega)
      exact decide_eq_true (by omega)
    · obtain ⟨g, rfl⟩ := hA (by omega)
      have h1 := (KK.out.below hb).at_ 0 rfl
      have h2 := (KK.out.below hb).at_ 1 rfl
      have h3 := (KK.out.below hb).at_ 2 rfl
      have hil : i < L.length := by omega
      exact lplace1_any g0 (g0 + 1) x g 0 n c i L[i]! l W hi (hM _ (by rw [getElem!_pos L i hil]; exact List.getElem_mem hil)) hl h1 h3 (fun j u hu => by rw [Nat.zero_add]; exact LRow.cell (hR.out.below hb) hil j u hu) h2)
  by_cases hk : Kp < n
  case pos =>
    obtain ⟨g, rfl⟩ := hA (by omega)
    have hkl : Kp < L.length := by omega
    have hr2 : Hid (r = decide (L[Kp]! = l)) := Lib.hid (by rw [hr]; simp [hkl])
    obtain ⟨m, hm⟩ : ∃ m, m = L[Kp]! := ⟨_, rfl⟩
    have hC := Lib.hid (fun (W : World) (h : LRow W B (.slice (some ⟨g, 0, none⟩) L.length c) L) => LRow.cell h hkl)
    rw [← hm] at hr2 hC
    have hkz : (Kp : Int) < (n : Int) := by omega
    have e0 := leaf_cases m l
    replace hn := Lib.hid hn
    clear hP hM hl hm hr hA hk hkl
    rcases e0 with ⟨e0, e1, e2, e3, e4⟩ | ⟨e0, e1, e2, e3, e4⟩ | ⟨e0, e1, e2, e3⟩ | ⟨e0, e1, e2⟩ | ⟨e0, e1⟩
    all_goals first | replace hr2 := Lib.hid (hr2.out.trans (decide_eq_true e0)) | replace hr2 := Lib.hid (hr2.out.trans (decide_eq_false e0))
    all_goals clear e0
    all_goals
      have y0 : W0.cell? ⟨g0, 0, none⟩ = some (.pointer (some ⟨x, 0, none⟩)) := (KK.out.at_ 0 rfl).cell 0
      have y1 : W0.cell? ⟨x, 1, none⟩ = some (.slice (some ⟨g, 0, none⟩) (n : Nat) c) := (KK.out.at_ 2 rfl).cell 1
      go_enter Try.func21, Try.ntmps21
      go_upto_region 1 with fail
      rw [← hW, ← hg0]
      clear hW hg0
      go_wp2_with fail
      refine hS.out.mono ?_
      rintro en w2 ⟨rfl, hb⟩
      replace hB := Lib.hid (hB.out.trans (hb.mono hB.out.size))
      replace KK := Lib.hid ((KK.out.below hb))
      replace hR := Lib.hid ((hR.out.below hb))
      clear hb hS y0 y1
      have x0 : ∀ d os, (grow (redrawn w2 d) os).cell? ⟨g0, 0, none⟩ = some (.pointer (some ⟨x, 0, none⟩)) := cell_regrown ((KK.out.at_ 0 rfl).cell 0)
      have x1 : ∀ d os, (grow (redrawn w2 d) os).cell? ⟨x, 1, none⟩ = some (.slice (some ⟨g, 0, none⟩) n c) := cell_regrown ((KK.out.at_ 2 rfl).cell 1)
      have m0 : ∀ d os, (grow (redrawn w2 d) os).cell? ⟨g, Kp * 6, none⟩ = some (.bool false) := cell_regrown (hC.out _ hR.out 0 _ rfl)
      have m1 : ∀ d os, (grow (redrawn w2 d) os).cell? ⟨g, Kp * 6 + 1, none⟩ = some (.string (natS m.1.1)) := cell_regrown (hC.out _ hR.out 1 _ rfl)
      have m2 : ∀ d os, (grow (redrawn w2 d) os).cell? ⟨g, Kp * 6 + 2, none⟩ = some (.string (natS m.1.2)) := cell_regrown (hC.out _ hR.out 2 _ rfl)
      have m3 : ∀ d os, (grow (redrawn w2 d) os).cell? ⟨g, Kp * 6 + 3, none⟩ = some (.bool false) := cell_regrown (hC.out _ hR.out 3 _ rfl)
      have m4 : ∀ d os, (grow (redrawn w2 d) os).cell? ⟨g, Kp * 6 + 4, none⟩ = some (.string (natS m.2.1)) := cell_regrown (hC.out _ hR.out 4 _ rfl)
      have m5 : ∀ d os, (grow (redrawn w2 d) os).cell? ⟨g, Kp * 6 + 5, none⟩ = some (.string (natS m.2.2)) := cell_regrown (hC.out _ hR.out 5 _ rfl)
      have l0 : ∀ d os, (grow (redrawn w2 d) os).cell? ⟨g0 + 1, 0, none⟩ = some (.bool false) := cell_regrown ((KK.out.at_ 1 rfl).cell 0)
      have l1 : ∀ d os, (grow (redrawn w2 d) os).cell? ⟨g0 + 1, 1, none⟩ = some (.string (natS l.1.1)) := cell_regrown ((KK.out.at_ 1 rfl).cell 1)
      have l2 : ∀ d os, (grow (redrawn w2 d) os).cell? ⟨g0 + 1, 2, none⟩ = some (.string (natS l.1.2)) := cell_regrown ((KK.out.at_ 1 rfl).cell 2)
      have l3 : ∀ d os, (grow (redrawn w2 d) os).cell? ⟨g0 + 1, 3, none⟩ = some (.bool false) := cell_regrown ((KK.out.at_ 1 rfl).cell 3)
      have l4 : ∀ d os, (grow (redrawn w2 d) os).cell? ⟨g0 + 1, 4, none⟩ = some (.string (natS l.2.1)) := cell_regrown ((KK.out.at_ 1 rfl).cell 4)
      have l5 : ∀ d os, (grow (redrawn w2 d) os).cell? ⟨g0 + 1, 5, none⟩ = some (.string (natS l.2.2)) := cell_regrown ((KK.out.at_ 1 rfl).cell 5)
      clear hR KK hC
      go_upto_region 2 with fail
      refine wp_region_quiet_below (by kernel_rfl) (by kernel_rfl) ?_
      iterate 21 (quiet_step (fail))
      refine wpQuiet_nil ?_
      intro w3 hw'
      have hb : Below w2.heap.size w2 w3 := by
        obtain ⟨p, rfl⟩ := hw'
        exact below_regrown w2 p.d p.os
      replace hB := Lib.hid (hB.out.trans (hb.mono hB.out.size))
      clear hw' hb
      clear x0 x1 m0 m1 m2 m3 m4 m5 l0 l1 l2 l3 l4 l5
      go_wp2_with fail
      go_ret2
      exact ⟨by rw [hr2.out]; rfl, hB.out⟩
  case neg =>
    have hr2 : Hid (r = false) := Lib.hid (by rw [hr]; simp; omega)
    have hkz : decide (Kp < n) = false := decide_eq_false hk
    replace hn := Lib.hid hn
    clear hP hM hl hr hA hk
    have y0 : W0.cell? ⟨g0, 0, none⟩ = some (.pointer (some ⟨x, 0, none⟩)) := (KK.out.at_ 0 rfl).cell 0
    have y1 : W0.cell? ⟨x, 1, none⟩ = some (.slice A (n : Nat) c) := (KK.out.at_ 2 rfl).cell 1
    go_enter Try.func21, Try.ntmps21
    go_upto_region 1 with fail
    rw [← hW, ← hg0]
    clear hW hg0
    go_wp2_with fail
    refine hS.out.mono ?_
    rintro en w2 ⟨rfl, hb⟩
    replace hB := Lib.hid (hB.out.trans (hb.mono hB.out.size))
    replace KK := Lib.hid ((KK.out.below hb))
    replace hR := Lib.hid ((hR.out.below hb))
    clear hb hS y0 y1
    have x0 : ∀ d os, (grow (redrawn w2 d) os).cell? ⟨g0, 0, none⟩ = some (.pointer (some ⟨x, 0, none⟩)) := cell_regrown ((KK.out.at_ 0 rfl).cell 0)
    have x1 : ∀ d os, (grow (redrawn w2 d) os).cell? ⟨x, 1, none⟩ = some (.slice A n c) := cell_regrown ((KK.out.at_ 2 rfl).cell 1)
    clear hR KK
    go_upto_region 2 with fail
    refine wp_region_quiet_below (by kernel_rfl) (by kernel_rfl) ?_
    iterate 9 (quiet_step (fail))
    iterate 9 (generalize haa : Act.mk _ _ = aa; refine wpQuiet_skip ?_ ?_; (· subst haa; simp [Region.wanted, yielded]); subst haa; intro Kq hKq; go_simp; refine hKq _ ?_; clear hKq Kq)
    iterate 3 (quiet_step (fail))
    refine wpQuiet_nil ?_
    intro w3 hw'
    have hb : Below w2.heap.size w2 w3 := by
      obtain ⟨p, rfl⟩ := hw'
      exact below_regrown w2 p.d p.os
    replace hB := Lib.hid (hB.out.trans (hb.mono hB.out.size))
    clear hw' hb
    clear x0 x1
    go_wp2_with fail
    go_ret2
    exact ⟨by rw [hr2.out]; rfl, hB.out⟩
end Go.Proofs.Ytoaggmegmgdgbaa
