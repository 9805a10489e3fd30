import Derived.Test.YtoaggmegmgdgbaaGreatLamE
import Derived.Shelf.RegionOpenPlain
import Derived.Deep.LoopGhost
namespace Go.Proofs.YtoaggmegmgdgbaaGreat
open Go.RowKit Go.Sort
def flatL (L : List Lf) : List Value := L.flatMap leafE
theorem leafE_length (l : Lf) : (leafE l).length = 6 := rfl
theorem flatL_get (L : List Lf) (i j : Nat) (hi : i < L.length) (hj : j < 6) : (flatL L)[i * 6 + j]? = (leafE L[i])[j]? := by
  induction L generalizing i with
  | nil => simp at hi
  | cons a r ih =>
    cases i with
    | zero =>
      show (leafE a ++ flatL r)[0 * 6 + j]? = (leafE a)[j]?
      rw [List.getElem?_append_left (by rw [leafE_length]; omega)]
      simp
    | succ i =>
      have hi2 : i < r.length := by simpa using hi
      show (leafE a ++ flatL r)[(i + 1) * 6 + j]? = (leafE (r[i]'hi2))[j]?
      rw [List.getElem?_append_right (by rw [leafE_length]; omega), leafE_length, ← ih i (by simpa using hi)]
      congr 1
      omega
structure Lam (w : World) (B x : Nat) (v : Value) (L : List Lf) : Prop where
  blk : Blk w x 103 #[.bool true, v]
  row : w.ownsRow B 38 6 v L.length (flatL L)
  base : B ≤ x
theorem ordL_bd (l m : Lf) : ordL l m = -1 ∨ ordL l m = 0 ∨ ordL l m = 1 := by
  unfold ordL
  split
  · exact cmpP_bd _ _
  · exact cmpP_bd _ _
set_option maxRecDepth 100000 in
set_option maxHeartbeats 2000000 in
theorem lnone_any (x : Nat) (b : Bool) (v : Value) (w : World) (h : Blk w x 103 #[.bool b, v]) :
    Calls Tryz.prog 76 #[.pointer (some ⟨x, 0, none⟩)] w (RetVal (.bool (!b)) w) := by
  have c0 : w.cell? ⟨x, 0, none⟩ = some (.bool b) := h.cell 0
  clear h
  cases b
  all_goals go_enter Tryz.func76, Tryz.ntmps76
  all_goals go_wp2_with fail
  all_goals go_ret
  all_goals exact ⟨rfl, Below.refl _ _⟩
set_option maxRecDepth 100000 in
set_option maxHeartbeats 2000000 in
theorem lNew_any (w : World) :
    Calls Tryz.prog 43 #[] w (fun e w' => e = .returned (.pointer (some ⟨w.heap.size, 0, none⟩)) ∧ w' = w.alloc (.cells #[.bool true, .slice none 0 0] 103)) := by
  go_enter Tryz.func43, Tryz.ntmps43
  go_wp2_with fail
  go_ret
  exact ⟨rfl, rfl⟩
set_option maxRecDepth 100000 in
set_option maxHeartbeats 2000000 in
theorem lLen_any (x : Nat) (b : Bool) (A : Option Addr) (n c : Nat) (w : World) (h : Blk w x 103 #[.bool b, .slice A n c]) :
    Calls Tryz.prog 29 #[.pointer (some ⟨x, 0, none⟩)] w (RetVal (.int .i64 (if b then (n : Int) else 0)) w) := by
  have hA := Lib.hid (lnone_any x b (.slice A n c) w h)
  replace h := Lib.hid h
  cases b
  case false =>
    go_enter Tryz.func29, Tryz.ntmps29
    go_wp2_with fail
    refine hA.out.mono ?_
    rintro en w1 ⟨rfl, hb⟩
    have c1 : w1.cell? ⟨x, 1, none⟩ = some (.slice A n c) := (Blk.below h.out hb).cell 1
    have h2 := Lib.hid hb
    go_wp2_with fail
    go_ret
    exact ⟨rfl, hb⟩
  case true =>
    go_enter Tryz.func29, Tryz.ntmps29
    go_wp2_with fail
    refine hA.out.mono ?_
    rintro en w1 ⟨rfl, hb⟩
    have c1 : w1.cell? ⟨x, 1, none⟩ = some (.slice A n c) := (Blk.below h.out hb).cell 1
    have h2 := Lib.hid hb
    go_wp2_with fail
    go_ret
    exact ⟨rfl, h2.out⟩
set_option maxRecDepth 100000 in
set_option maxHeartbeats 2000000 in
theorem lplace1_any (b1 b2 x g o n cp i : Nat) (m l : Lf) (w : World) (hi : i < n) (hm : AngL m) (hl : AngL l) (h1 : Blk w b1 63 #[.pointer (some ⟨x, 0, none⟩)]) (h2 : Blk w x 103 #[.bool true, .slice (some ⟨g, o, none⟩) n cp]) (h3 : ∀ j u, (leafE m)[j]? = some u → w.cell? ⟨g, o + i * 6 + j, none⟩ = some u) (h4 : Blk w b2 38 #[.bool false, .string (natS l.1.1), .string (natS l.1.2), .bool false, .string (natS l.2.1), .string (natS l.2.2)]) :
    Calls Tryz.prog 138 #[.int .i64 (i : Int), .pointer (some ⟨b1, 0, none⟩), .pointer (some ⟨b2, 0, none⟩)] w (RetVal (.bool (decide (ordL m l ≥ 0))) w) := by
  obtain ⟨c, hc⟩ : ∃ c, c = ordL m l := ⟨_, rfl⟩
  have hO := Lib.hid (fun W => lorder_any m l W hm hl)
  rw [← hc] at hO
  have hb : Hid (decide (ordL m l ≥ 0) = decide (c ≥ 0)) := Lib.hid (by rw [hc])
  have hbd : c = -1 ∨ c = 0 ∨ c = 1 := by rw [hc]; exact ordL_bd m l
  clear hc
  have x0 : ∀ d os, (grow (redrawn w d) os).cell? ⟨b1, 0, none⟩ = some (.pointer (some ⟨x, 0, none⟩)) := cell_regrown (h1.cell 0)
  have x1 : ∀ d os, (grow (redrawn w d) os).cell? ⟨x, 1, none⟩ = some (.slice (some ⟨g, o, none⟩) n cp) := cell_regrown (h2.cell 1)
  have m0 : ∀ d os, (grow (redrawn w d) os).cell? ⟨g, o + i * 6, none⟩ = some (.bool false) := cell_regrown (h3 0 _ rfl)
  have m1 : ∀ d os, (grow (redrawn w d) os).cell? ⟨g, o + i * 6 + 1, none⟩ = some (.string (natS m.1.1)) := cell_regrown (h3 1 _ rfl)
  have m2 : ∀ d os, (grow (redrawn w d) os).cell? ⟨g, o + i * 6 + 2, none⟩ = some (.string (natS m.1.2)) := cell_regrown (h3 2 _ rfl)
  have m3 : ∀ d os, (grow (redrawn w d) os).cell? ⟨g, o + i * 6 + 3, none⟩ = some (.bool false) := cell_regrown (h3 3 _ rfl)
  have m4 : ∀ d os, (grow (redrawn w d) os).cell? ⟨g, o + i * 6 + 4, none⟩ = some (.string (natS m.2.1)) := cell_regrown (h3 4 _ rfl)
  have m5 : ∀ d os, (grow (redrawn w d) os).cell? ⟨g, o + i * 6 + 5, none⟩ = some (.string (natS m.2.2)) := cell_regrown (h3 5 _ rfl)
  have l0 : ∀ d os, (grow (redrawn w d) os).cell? ⟨b2, 0, none⟩ = some (.bool false) := cell_regrown (h4.cell 0)
  have l1 : ∀ d os, (grow (redrawn w d) os).cell? ⟨b2, 1, none⟩ = some (.string (natS l.1.1)) := cell_regrown (h4.cell 1)
  have l2 : ∀ d os, (grow (redrawn w d) os).cell? ⟨b2, 2, none⟩ = some (.string (natS l.1.2)) := cell_regrown (h4.cell 2)
  have l3 : ∀ d os, (grow (redrawn w d) os).cell? ⟨b2, 3, none⟩ = some (.bool false) := cell_regrown (h4.cell 3)
  have l4 : ∀ d os, (grow (redrawn w d) os).cell? ⟨b2, 4, none⟩ = some (.string (natS l.2.1)) := cell_regrown (h4.cell 4)
  have l5 : ∀ d os, (grow (redrawn w d) os).cell? ⟨b2, 5, none⟩ = some (.string (natS l.2.2)) := cell_regrown (h4.cell 5)
  have cO : ∀ d os, Calls Tryz.prog 105 #[.agg #[.bool false, .string (natS m.1.1), .string (natS m.1.2), .bool false, .string (natS m.2.1), .string (natS m.2.2)], .agg #[.bool false, .string (natS l.1.1), .string (natS l.1.2), .bool false, .string (natS l.2.1), .string (natS l.2.2)]] (grow (redrawn w d) os) fun e w'' => e = .returned (.int .i64 c) ∧ ∃ p : Regrown, w'' = grow (redrawn w p.d) p.os := fun d os => Calls.regrown_of (hO.out _)
  have hiz : (i : Int) < (n : Int) := by omega
  clear hO h1 h2 h3 h4 hm hl
  rcases hbd with rfl | rfl | rfl
  all_goals
    go_enter Tryz.func138, Tryz.ntmps138
    go_upto_region 1 with fail
    refine wp_region_quiet_below (by kernel_rfl) (by kernel_rfl) ?_
    iterate 8 (quiet_step (fail))
    quiet_step (exact cO _ _)
    iterate 2 (quiet_step (fail))
    refine wpQuiet_nil ?_
    intro w2 hw'
    have hB : Below w.heap.size w w2 := by
      obtain ⟨p, rfl⟩ := hw'
      exact below_regrown w p.d p.os
    replace hB := Lib.hid hB
    clear hw' cO x0 x1 m0 m1 m2 m3 m4 m5 l0 l1 l2 l3 l4 l5
    go_wp2_with fail
    go_ret
    exact ⟨by rw [hb.out]; rfl, hB.out⟩
open Go.RowKit Go.Sort
set_option maxRecDepth 1000000 in
set_option maxHeartbeats 4000000 in
theorem lSearch_any (g : Nat) (cb : Array Value) (n K : Nat) (p : Nat → Bool) (w : World) (eg : ∀ args w, (callFunc g args).run Tryz.prog w = .ok (.enter g args) w) (hsz : n < 4611686018427387904)
    (hK : K ≤ n) (hlo : ∀ t, t < K → p t = false) (hhi : ∀ t, K ≤ t → t < n → p t = true)
    (hf : ∀ (W : World) (i : Nat), i < n → Below w.heap.size w W → Calls Tryz.prog g (#[.int .i64 i] ++ cb) W (RetVal (.bool (p i)) W)) :
    Calls Tryz.prog 137 #[.int .i64 n, .func (.func g) #[] cb] w (RetVal (.int .i64 K) w) := by
  have HF := Lib.hid hf
  have HL := Lib.hid hlo
  have HH := Lib.hid hhi
  have HN := Lib.hid hK
  clear hf hlo hhi hK
  go_enter Tryz.func137, Tryz.ntmps137
  go_wp2
  go_loopg [5, 6] n (fun kx s5 s6 wr => ∃ (lo hi : Nat), s5 = .int .i64 lo ∧ s6 = .int .i64 hi ∧ lo ≤ hi ∧ hi ≤ n ∧ hi - lo ≤ kx ∧ Hid (lo ≤ K ∧ K ≤ hi) ∧ Hid (Below w.heap.size w wr))
  case atStart => exact ⟨0, n, rfl, rfl, Nat.zero_le _, Nat.le_refl _, by omega, Lib.hid ⟨Nat.zero_le _, HN.out⟩, Lib.hid (Below.refl _ _)⟩
  case round =>
    rename_i wr _
    obtain ⟨lo, hi, rfl, rfl, hlh, hin, hg, I, hB⟩ := hrel
    by_cases hlt : lo < hi
    · have hc := HF.out _ ((lo + hi) / 2) (by omega) hB.out
      rw [show (((lo + hi) / 2 : Nat) : Int) = ((lo : Int) + (hi : Int)) / 2 by omega] at hc
      cases hp : p ((lo + hi) / 2) <;> rw [hp] at hc
      · have HP := Lib.hid hp
        clear hp
        replace hc := Lib.hid hc
        go_wp2_with (go_at_fn g; refine hc.out.mono ?_; rintro e w2 ⟨rfl, hb⟩; replace hB := Lib.hid (hB.out.trans (hb.mono hB.out.size)); clear hb)
        go_roundg (hi - ((lo + hi) / 2 + 1))
        case measure => omega
        case rel =>
          have hKlt : (lo + hi) / 2 < K := by
            rcases Nat.lt_or_ge ((lo + hi) / 2) K with h | h
            · exact h
            · have := HH.out _ h (by omega); rw [HP.out] at this; cases this
          exact ⟨(lo + hi) / 2 + 1, hi, by rw [show ((lo : Int) + (hi : Int)) / 2 + 1 = (((lo + hi) / 2 + 1 : Nat) : Int) by omega], rfl, by omega, hin, Nat.le_refl _, Lib.hid ⟨hKlt, I.out.2⟩, hB⟩
      · have HP := Lib.hid hp
        clear hp
        replace hc := Lib.hid hc
        go_wp2_with (go_at_fn g; refine hc.out.mono ?_; rintro e w2 ⟨rfl, hb⟩; replace hB := Lib.hid (hB.out.trans (hb.mono hB.out.size)); clear hb)
        go_roundg ((lo + hi) / 2 - lo)
        case measure => omega
        case rel =>
          have hKle : K ≤ (lo + hi) / 2 := by
            rcases Nat.lt_or_ge ((lo + hi) / 2) K with h | h
            · have := HL.out _ h; rw [HP.out] at this; cases this
            · exact h
          exact ⟨lo, (lo + hi) / 2, rfl, by rw [show ((lo : Int) + (hi : Int)) / 2 = (((lo + hi) / 2 : Nat) : Int) by omega], by omega, by omega, Nat.le_refl _, Lib.hid ⟨I.out.1, hKle⟩, hB⟩
    · obtain rfl : hi = lo := by omega
      obtain rfl : K = hi := by have := I.out; omega
      go_wp2
      go_ret
      exact ⟨rfl, hB.out⟩
open Go.RowKit Go.Sort
def LRow (w : World) (B : Nat) (v : Value) (L : List Lf) : Prop := w.ownsRow B 38 6 v L.length (flatL L)
theorem LRow.below {w w' : World} {B : Nat} {v : Value} {L : List Lf} (h : LRow w B v L) (hb : Below w.heap.size w w') : LRow w' B v L := by
  obtain ⟨hl, hc⟩ := h
  refine ⟨hl, ?_⟩
  rcases hc with hc | ⟨g, cap, cur, hv, hbase, hg, rest⟩
  · exact .inl hc
  · have hlt : g < w.heap.size := by
      rcases Nat.lt_or_ge g w.heap.size with h | h
      · exact h
      · rw [Array.getElem?_eq_none h] at hg; cases hg
    exact .inr ⟨g, cap, cur, hv, hbase, (hb.block g hlt).trans hg, rest⟩
theorem LRow.alloc {w : World} {B : Nat} {v : Value} {L : List Lf} (h : LRow w B v L) (o : Obj) : LRow (w.alloc o) B v L := World.ownsRow.alloc h o
theorem Lam.below {w w' : World} {B x : Nat} {v : Value} {L : List Lf} (h : Lam w B x v L) (hb : Below w.heap.size w w') : Lam w' B x v L := ⟨Blk.below h.blk hb, LRow.below h.row hb, h.base⟩
theorem Lam.alloc {w : World} {B x : Nat} {v : Value} {L : List Lf} (h : Lam w B x v L) (o : Obj) : Lam (w.alloc o) B x v L := ⟨Blk.alloc h.blk o, LRow.alloc h.row o, h.base⟩
theorem addr0_add (g j : Nat) : (⟨g, 0, none⟩ : Addr).add j = ⟨g, j, none⟩ := by
  unfold Addr.add
  split
  · rename_i h; rw [h]
  · simp
theorem LRow.form {w : World} {B : Nat} {v : Value} {L : List Lf} (h : LRow w B v L) : ∃ A c, v = .slice A L.length c ∧ (0 < L.length → ∃ g, A = some ⟨g, 0, none⟩) := by
  rcases h.2 with ⟨rfl, h0⟩ | ⟨g, cap, cur, rfl, -⟩
  · exact ⟨none, 0, by rw [h0], fun h => by omega⟩
  · exact ⟨_, _, rfl, fun _ => ⟨g, rfl⟩⟩
theorem LRow.cell {w : World} {B g n c : Nat} {L : List Lf} (h : LRow w B (.slice (some ⟨g, 0, none⟩) n c) L) {i : Nat} (hi : i < L.length) : ∀ (j : Nat) (u : Value), (leafE L[i]!)[j]? = some u → w.cell? ⟨g, i * 6 + j, none⟩ = some u := fun j u hu => by
  have hj : j < 6 := by
    have := List.getElem?_eq_some_iff.1 hu
    obtain ⟨h1, -⟩ := this
    rwa [leafE_length] at h1
  have hg : (flatL L)[i * 6 + j]? = some u := by
    rw [flatL_get L i j hi hj, ← getElem!_pos L i hi]
    exact hu
  have := World.ownsRow.cells h (g := g) rfl _ _ hg
  rwa [addr0_add] at this
theorem leaf_cases (m l : Lf) : (m = l ∧ ((natS m.1.1).toList == (natS l.1.1).toList) = true ∧ ((natS m.1.2).toList == (natS l.1.2).toList) = true ∧ ((natS m.2.1).toList == (natS l.2.1).toList) = true ∧ ((natS m.2.2).toList == (natS l.2.2).toList) = true) ∨
    (m ≠ l ∧ ((natS m.1.1).toList == (natS l.1.1).toList) = true ∧ ((natS m.1.2).toList == (natS l.1.2).toList) = true ∧ ((natS m.2.1).toList == (natS l.2.1).toList) = true ∧ ((natS m.2.2).toList == (natS l.2.2).toList) = false) ∨
    (m ≠ l ∧ ((natS m.1.1).toList == (natS l.1.1).toList) = true ∧ ((natS m.1.2).toList == (natS l.1.2).toList) = true ∧ ((natS m.2.1).toList == (natS l.2.1).toList) = false) ∨
    (m ≠ l ∧ ((natS m.1.1).toList == (natS l.1.1).toList) = true ∧ ((natS m.1.2).toList == (natS l.1.2).toList) = false) ∨
    (m ≠ l ∧ ((natS m.1.1).toList == (natS l.1.1).toList) = false) := by
  rcases pair_cases m.1 l.1 with ⟨h1, a1, a2⟩ | ⟨h1, a1, a2⟩ | ⟨h1, a1⟩
  · rcases pair_cases m.2 l.2 with ⟨h2, b1, b2⟩ | ⟨h2, b1, b2⟩ | ⟨h2, b1⟩
    · exact .inl ⟨Prod.ext h1 h2, a1, a2, b1, b2⟩
    · exact .inr (.inl ⟨fun e => h2 (by rw [e]), a1, a2, b1, b2⟩)
    · exact .inr (.inr (.inl ⟨fun e => h2 (by rw [e]), a1, a2, b1⟩))
  · exact .inr (.inr (.inr (.inl ⟨fun e => h1 (by rw [e]), a1, a2⟩)))
  · exact .inr (.inr (.inr (.inr ⟨fun e => h1 (by rw [e]), a1⟩)))
theorem wpQuiet_skip {P : Program} {ops : Array Oper} {C : World → Prop} {Q : Act → Prop} {a : Act} {o : Oper} {rest : List Oper} (h0 : Region.wanted o (yielded ops a.tmps) = false)
    (h : ∀ K : Act → Prop, (∀ a, wpQuiet P ops C Q rest a → K a) → K (a.put o.dst undef)) : wpQuiet P ops C Q (o :: rest) a :=
  wpQuiet_step (fun K hK => by rw [if_neg (by rw [h0]; exact Bool.false_ne_true)]; exact h K hK)
structure Plc (L : List Lf) (l : Lf) (K : Nat) : Prop where
  le : K ≤ L.length
  lo : ∀ t, t < K → ordL L[t]! l < 0
  hi : ∀ t, K ≤ t → t < L.length → 0 ≤ ordL L[t]! l
set_option maxRecDepth 100000 in
set_option maxHeartbeats 2000000 in
theorem lplace_any (B x Kp : Nat) (v : Value) (L : List Lf) (l : Lf) (w : World) (hL : Lam w B x v L) (hl : AngL l) (hM : ∀ m, m ∈ L → AngL m) (hP : Plc L l Kp) (hlen : L.length ≤ 1048576) :
    Calls Tryz.prog 92 #[.pointer (some ⟨x, 0, none⟩), .agg #[.bool false, .string (natS l.1.1), .string (natS l.1.2), .bool false, .string (natS l.2.1), .string (natS l.2.2)]] w (RetVal (.tuple #[.int .i64 (Kp : Int), .bool (decide (Kp < L.length ∧ L[Kp]! = l))]) w) := by
  obtain ⟨A, c, rfl, hA⟩ := LRow.form hL.row
  obtain ⟨n, hn⟩ : ∃ n, n = L.length := ⟨_, rfl⟩
  obtain ⟨r, hr⟩ : ∃ r, r = decide (Kp < L.length ∧ L[Kp]! = l) := ⟨_, rfl⟩
  rw [← hr]
  have hX0 := hL.blk
  rw [← hn] at hX0
  have hBW : Below w.heap.size w ((w.alloc (.cells #[.pointer (some ⟨x, 0, none⟩)] 63)).alloc (.cells #[.bool false, .string (natS l.1.1), .string (natS l.1.2), .bool false, .string (natS l.2.1), .string (natS l.2.2)] 38)) := (((Below.refl _ w).alloc (Nat.le_refl _) _).alloc (by simp) _)
  have kk0 := ((Blk.new w 63 #[.pointer (some ⟨x, 0, none⟩)]).alloc (.cells #[.bool false, .string (natS l.1.1), .string (natS l.1.2), .bool false, .string (natS l.2.1), .string (natS l.2.2)] 38))
  have kk1 := (Blk.new (w.alloc (.cells #[.pointer (some ⟨x, 0, none⟩)] 63)) 38 #[.bool false, .string (natS l.1.1), .string (natS l.1.2), .bool false, .string (natS l.2.1), .string (natS l.2.2)])
  simp only [World.size_alloc] at kk1
  have K := Lib.hid ((KeepT.one kk0).snoc kk1)
  have hB := Lib.hid hBW
  clear hBW kk0 kk1
  have hR : Hid (LRow ((w.alloc (.cells #[.pointer (some ⟨x, 0, none⟩)] 63)).alloc (.cells #[.bool false, .string (natS l.1.1), .string (natS l.1.2), .bool false, .string (natS l.2.1), .string (natS l.2.2)] 38)) B (.slice A L.length c) L) := Lib.hid ((LRow.alloc (LRow.alloc hL.row (.cells #[.pointer (some ⟨x, 0, none⟩)] 63)) (.cells #[.bool false, .string (natS l.1.1), .string (natS l.1.2), .bool false, .string (natS l.2.1), .string (natS l.2.2)] 38)))
  have KK := Lib.hid (K.out.snoc (Blk.alloc (Blk.alloc hX0 (.cells #[.pointer (some ⟨x, 0, none⟩)] 63)) (.cells #[.bool false, .string (natS l.1.1), .string (natS l.1.2), .bool false, .string (natS l.2.1), .string (natS l.2.2)] 38)))
  clear K hX0 hL
  obtain ⟨g0, hg0⟩ : ∃ g0, g0 = w.heap.size := ⟨_, rfl⟩
  obtain ⟨W0, hW⟩ : ∃ W0, W0 = ((w.alloc (.cells #[.pointer (some ⟨x, 0, none⟩)] 63)).alloc (.cells #[.bool false, .string (natS l.1.1), .string (natS l.1.2), .bool false, .string (natS l.2.1), .string (natS l.2.2)] 38)) := ⟨_, rfl⟩
  rw [← hW] at hB KK hR
  rw [← hg0] at KK
  have hS : Hid (Calls Tryz.prog 137 #[.int .i64 (n : Int), .func (.func 138) #[] #[.pointer (some ⟨g0, 0, none⟩), .pointer (some ⟨g0 + 1, 0, none⟩)]] W0 (RetVal (.int .i64 (Kp : Int)) W0)) := Lib.hid (by
    refine lSearch_any 138 _ n Kp (fun i => decide (ordL L[i]! l ≥ 0)) W0 (enters_of Tryz.func138 (by kernel_rfl) rfl) (by omega) (by rw [hn]; exact hP.le) (fun t ht => ?_) (fun t h1 h2 => ?_) (fun W i hi hb => ?_)
    · have := hP.lo t ht
      exact decide_eq_false (by omega)
    · have := hP.hi t h1 (by omega)
      exact decide_eq_true (by omega)
    · obtain ⟨g, rfl⟩ := hA (by omega)
      have h1 := (KK.out.below hb).at_ 0 rfl
      have h2 := (KK.out.below hb).at_ 1 rfl
      have h3 := (KK.out.below hb).at_ 2 rfl
      have hil : i < L.length := by omega
      exact lplace1_any g0 (g0 + 1) x g 0 n c i L[i]! l W hi (hM _ (by rw [getElem!_pos L i hil]; exact List.getElem_mem hil)) hl h1 h3 (fun j u hu => by rw [Nat.zero_add]; exact LRow.cell (hR.out.below hb) hil j u hu) h2)
  by_cases hk : Kp < n
  case pos =>
    obtain ⟨g, rfl⟩ := hA (by omega)
    have hkl : Kp < L.length := by omega
    have hr2 : Hid (r = decide (L[Kp]! = l)) := Lib.hid (by rw [hr]; simp [hkl])
    obtain ⟨m, hm⟩ : ∃ m, m = L[Kp]! := ⟨_, rfl⟩
    have hC := Lib.hid (fun (W : World) (h : LRow W B (.slice (some ⟨g, 0, none⟩) L.length c) L) => LRow.cell h hkl)
    rw [← hm] at hr2 hC
    have hkz : (Kp : Int) < (n : Int) := by omega
    have e0 := leaf_cases m l
    replace hn := Lib.hid hn
    clear hP hM hl hm hr hA hk hkl
    rcases e0 with ⟨e0, e1, e2, e3, e4⟩ | ⟨e0, e1, e2, e3, e4⟩ | ⟨e0, e1, e2, e3⟩ | ⟨e0, e1, e2⟩ | ⟨e0, e1⟩
    all_goals first | replace hr2 := Lib.hid (hr2.out.trans (decide_eq_true e0)) | replace hr2 := Lib.hid (hr2.out.trans (decide_eq_false e0))
    all_goals clear e0
    all_goals
      have y0 : W0.cell? ⟨g0, 0, none⟩ = some (.pointer (some ⟨x, 0, none⟩)) := (KK.out.at_ 0 rfl).cell 0
      have y1 : W0.cell? ⟨x, 1, none⟩ = some (.slice (some ⟨g, 0, none⟩) (n : Nat) c) := (KK.out.at_ 2 rfl).cell 1
      go_enter Tryz.func92, Tryz.ntmps92
      go_upto_region 1 with fail
      rw [← hW, ← hg0]
      clear hW hg0
      go_wp2_with fail
      refine hS.out.mono ?_
      rintro en w2 ⟨rfl, hb⟩
      replace hB := Lib.hid (hB.out.trans (hb.mono hB.out.size))
      replace KK := Lib.hid ((KK.out.below hb))
      replace hR := Lib.hid ((hR.out.below hb))
      clear hb hS y0 y1
      have x0 : ∀ d os, (grow (redrawn w2 d) os).cell? ⟨g0, 0, none⟩ = some (.pointer (some ⟨x, 0, none⟩)) := cell_regrown ((KK.out.at_ 0 rfl).cell 0)
      have x1 : ∀ d os, (grow (redrawn w2 d) os).cell? ⟨x, 1, none⟩ = some (.slice (some ⟨g, 0, none⟩) n c) := cell_regrown ((KK.out.at_ 2 rfl).cell 1)
      have m0 : ∀ d os, (grow (redrawn w2 d) os).cell? ⟨g, Kp * 6, none⟩ = some (.bool false) := cell_regrown (hC.out _ hR.out 0 _ rfl)
      have m1 : ∀ d os, (grow (redrawn w2 d) os).cell? ⟨g, Kp * 6 + 1, none⟩ = some (.string (natS m.1.1)) := cell_regrown (hC.out _ hR.out 1 _ rfl)
      have m2 : ∀ d os, (grow (redrawn w2 d) os).cell? ⟨g, Kp * 6 + 2, none⟩ = some (.string (natS m.1.2)) := cell_regrown (hC.out _ hR.out 2 _ rfl)
      have m3 : ∀ d os, (grow (redrawn w2 d) os).cell? ⟨g, Kp * 6 + 3, none⟩ = some (.bool false) := cell_regrown (hC.out _ hR.out 3 _ rfl)
      have m4 : ∀ d os, (grow (redrawn w2 d) os).cell? ⟨g, Kp * 6 + 4, none⟩ = some (.string (natS m.2.1)) := cell_regrown (hC.out _ hR.out 4 _ rfl)
      have m5 : ∀ d os, (grow (redrawn w2 d) os).cell? ⟨g, Kp * 6 + 5, none⟩ = some (.string (natS m.2.2)) := cell_regrown (hC.out _ hR.out 5 _ rfl)
      have l0 : ∀ d os, (grow (redrawn w2 d) os).cell? ⟨g0 + 1, 0, none⟩ = some (.bool false) := cell_regrown ((KK.out.at_ 1 rfl).cell 0)
      have l1 : ∀ d os, (grow (redrawn w2 d) os).cell? ⟨g0 + 1, 1, none⟩ = some (.string (natS l.1.1)) := cell_regrown ((KK.out.at_ 1 rfl).cell 1)
      have l2 : ∀ d os, (grow (redrawn w2 d) os).cell? ⟨g0 + 1, 2, none⟩ = some (.string (natS l.1.2)) := cell_regrown ((KK.out.at_ 1 rfl).cell 2)
      have l3 : ∀ d os, (grow (redrawn w2 d) os).cell? ⟨g0 + 1, 3, none⟩ = some (.bool false) := cell_regrown ((KK.out.at_ 1 rfl).cell 3)
      have l4 : ∀ d os, (grow (redrawn w2 d) os).cell? ⟨g0 + 1, 4, none⟩ = some (.string (natS l.2.1)) := cell_regrown ((KK.out.at_ 1 rfl).cell 4)
      have l5 : ∀ d os, (grow (redrawn w2 d) os).cell? ⟨g0 + 1, 5, none⟩ = some (.string (natS l.2.2)) := cell_regrown ((KK.out.at_ 1 rfl).cell 5)
      clear hR KK hC
      go_upto_region 2 with fail
      refine wp_region_quiet_below (by kernel_rfl) (by kernel_rfl) ?_
      iterate 21 (quiet_step (fail))
      refine wpQuiet_nil ?_
      intro w3 hw'
      have hb : Below w2.heap.size w2 w3 := by
        obtain ⟨p, rfl⟩ := hw'
        exact below_regrown w2 p.d p.os
      replace hB := Lib.hid (hB.out.trans (hb.mono hB.out.size))
      clear hw' hb
      clear x0 x1 m0 m1 m2 m3 m4 m5 l0 l1 l2 l3 l4 l5
      go_wp2_with fail
      go_ret2
      exact ⟨by rw [hr2.out]; rfl, hB.out⟩
  case neg =>
    have hr2 : Hid (r = false) := Lib.hid (by rw [hr]; simp; omega)
    have hkz : decide (Kp < n) = false := decide_eq_false hk
    replace hn := Lib.hid hn
    clear hP hM hl hr hA hk
    have y0 : W0.cell? ⟨g0, 0, none⟩ = some (.pointer (some ⟨x, 0, none⟩)) := (KK.out.at_ 0 rfl).cell 0
    have y1 : W0.cell? ⟨x, 1, none⟩ = some (.slice A (n : Nat) c) := (KK.out.at_ 2 rfl).cell 1
    go_enter Tryz.func92, Tryz.ntmps92
    go_upto_region 1 with fail
    rw [← hW, ← hg0]
    clear hW hg0
    go_wp2_with fail
    refine hS.out.mono ?_
    rintro en w2 ⟨rfl, hb⟩
    replace hB := Lib.hid (hB.out.trans (hb.mono hB.out.size))
    replace KK := Lib.hid ((KK.out.below hb))
    replace hR := Lib.hid ((hR.out.below hb))
    clear hb hS y0 y1
    have x0 : ∀ d os, (grow (redrawn w2 d) os).cell? ⟨g0, 0, none⟩ = some (.pointer (some ⟨x, 0, none⟩)) := cell_regrown ((KK.out.at_ 0 rfl).cell 0)
    have x1 : ∀ d os, (grow (redrawn w2 d) os).cell? ⟨x, 1, none⟩ = some (.slice A n c) := cell_regrown ((KK.out.at_ 2 rfl).cell 1)
    clear hR KK
    go_upto_region 2 with fail
    refine wp_region_quiet_below (by kernel_rfl) (by kernel_rfl) ?_
    iterate 9 (quiet_step (fail))
    iterate 9 (generalize haa : Act.mk _ _ = aa; refine wpQuiet_skip ?_ ?_; (· subst haa; simp [Region.wanted, yielded]); subst haa; intro Kq hKq; go_simp; refine hKq _ ?_; clear hKq Kq)
    iterate 3 (quiet_step (fail))
    refine wpQuiet_nil ?_
    intro w3 hw'
    have hb : Below w2.heap.size w2 w3 := by
      obtain ⟨p, rfl⟩ := hw'
      exact below_regrown w2 p.d p.os
    replace hB := Lib.hid (hB.out.trans (hb.mono hB.out.size))
    clear hw' hb
    clear x0 x1
    go_wp2_with fail
    go_ret2
    exact ⟨by rw [hr2.out]; rfl, hB.out⟩
open Go.RowKit Go.Sort
theorem info_leafI : (Tryz.prog.info? 38).map (fun i => (i.zero, i.size, i.bytes)) = some (some (.agg #[.bool false, .string ⟨#[]⟩, .string ⟨#[]⟩, .bool false, .string ⟨#[]⟩, .string ⟨#[]⟩]), 6, 80) := by kernel_rfl
theorem flatL_snoc (L : List Lf) (l : Lf) : flatL (L ++ [l]) = flatL L ++ leafE l := by simp [flatL]
theorem LRow.snoc {w : World} {B : Nat} {v : Value} {L : List Lf} {l : Lf} {n : Nat} (hn : n = L.length) (h : w.ownsRow B 38 6 v (n + 1) (flatL L ++ leafE l)) : LRow w B v (L ++ [l]) := by
  subst hn
  unfold LRow
  rw [flatL_snoc, List.length_append]
  exact h
theorem leaf_news {w : World} {vb : Nat} {l : Lf} (h : Blk w vb 38 (leafE l).toArray) : ∀ (j : Nat) (u : Value), (leafE l)[j]? = some u → w.cell? ((⟨vb, 0, none⟩ : Addr).add j) = some u := fun j u hu => by
  rw [addr0_add, h.cell j]
  simpa using hu
theorem leaf_one (l : Lf) : ∀ u ∈ leafE l, u.oneCell' = true := fun u hu => by
  simp only [leafE, List.mem_cons, List.not_mem_nil, or_false] at hu
  rcases hu with rfl | rfl | rfl | rfl | rfl | rfl <;> rfl
set_option maxRecDepth 100000 in
set_option maxHeartbeats 2000000 in
theorem lInsert_end (B : Nat) (v : Value) (L : List Lf) (l : Lf) (vb : Nat) (w : World) (h : LRow w B v L) (hvb : Blk w vb 38 (leafE l).toArray) (hB : B ≤ w.heap.size) (hn4 : L.length ≤ 1048576) :
    Calls Tryz.prog 94 #[v, .int .i64 (L.length : Int), .slice (some ⟨vb, 0, none⟩) 1 1] w fun e w' => ∃ v', e = .returned v' ∧ Hid (LRow w' B v' (L ++ [l])) ∧ Hid (w.grownBy w' v.ownBlock) := by
  obtain ⟨i0, hi, hz0, hz1, hz2⟩ := info_parts info_leafI
  have hN := Lib.hid (leaf_news hvb)
  have hO := Lib.hid (leaf_one l)
  clear hvb
  obtain ⟨n, hn⟩ : ∃ n, n = L.length := ⟨_, rfl⟩
  have h2 := h.2
  unfold LRow at h
  rw [← hn] at h h2 hn4 ⊢
  replace hn := Lib.hid hn
  replace hB := Lib.hid hB
  rcases h2 with ⟨rfl, h0⟩ | ⟨g, cap, cur, rfl, hbase, hg, hnc, hmx, hcs, htk⟩
  · subst h0
    replace h := Lib.hid h
    go_enter Tryz.func94, Tryz.ntmps94
    go_wp2_with (at_builtin; refine wpList_append_own _ rfl _ _ 27 rfl B 38 i0 (.agg #[.bool false, .string ⟨#[]⟩, .string ⟨#[]⟩, .bool false, .string ⟨#[]⟩, .string ⟨#[]⟩]) 6 80 Tryz.underlying27 hi hz0 hz1 hz2 rfl (by decide) _ _ _ rfl h.out ⟨vb, 0, none⟩ 1 1 (leafE l) rfl rfl hN.out hO.out (by unfold maxLen; omega) (by omega) hB.out ?_)
    intro v' w3 hown' hgrow _
    replace hown' := Lib.hid (LRow.snoc hn.out hown')
    replace hgrow := Lib.hid hgrow
    clear h hN hO hB
    go_wp2_with fail
    go_ret
    exact ⟨_, rfl, hown', hgrow⟩
  · replace h := Lib.hid h
    clear hg hcs htk hbase hmx
    by_cases hcn : cap = n
    · subst hcn
      go_enter Tryz.func94, Tryz.ntmps94
      go_wp2_with (at_builtin; refine wpList_append_own _ rfl _ _ 27 rfl B 38 i0 (.agg #[.bool false, .string ⟨#[]⟩, .string ⟨#[]⟩, .bool false, .string ⟨#[]⟩, .string ⟨#[]⟩]) 6 80 Tryz.underlying27 hi hz0 hz1 hz2 rfl (by decide) _ _ _ rfl h.out ⟨vb, 0, none⟩ 1 1 (leafE l) rfl rfl hN.out hO.out (by unfold maxLen; omega) (by omega) hB.out ?_)
      intro v' w3 hown' hgrow _
      replace hown' := Lib.hid (LRow.snoc hn.out hown')
      replace hgrow := Lib.hid hgrow
      clear h hN hO hB
      go_wp2_with fail
      go_ret
      exact ⟨_, rfl, hown', hgrow⟩
    · skip
      go_enter Tryz.func94, Tryz.ntmps94
      go_wp2_with (at_builtin; refine wpList_append_own _ rfl _ _ 27 rfl B 38 i0 (.agg #[.bool false, .string ⟨#[]⟩, .string ⟨#[]⟩, .bool false, .string ⟨#[]⟩, .string ⟨#[]⟩]) 6 80 Tryz.underlying27 hi hz0 hz1 hz2 rfl (by decide) _ _ _ rfl h.out ⟨vb, 0, none⟩ 1 1 (leafE l) rfl rfl hN.out hO.out (by unfold maxLen; omega) (by omega) hB.out ?_)
      intro v' w3 hown' hgrow _
      replace hown' := Lib.hid (LRow.snoc hn.out hown')
      replace hgrow := Lib.hid hgrow
      clear h hN hO hB
      go_wp2_with fail
      go_ret
      exact ⟨_, rfl, hown', hgrow⟩
end Go.Proofs.YtoaggmegmgdgbaaGreat
