/- Package lamin: none, New, Len. -/
import Derived.Test.YtoaggmegmgdgbaaLamE
namespace Go.Proofs.Ytoaggmegmgdgbaa
open Go.RowKit Go.Sort

/-- A pointer to a block. -/
def ptrTo (x : Nat) : Value := .pointer (some ⟨x, 0, none⟩)
/-- The cells of leaves, one behind another. -/
def flatL (L : List Lf) : List Value := L.flatMap leafE
theorem leafE_length (l : Lf) : (leafE l).length = 6 := rfl
theorem flatL_length (L : List Lf) : (flatL L).length = L.length * 6 := by
  induction L with
  | nil => rfl
  | cons a r ih => simp only [flatL, List.flatMap_cons, List.length_append, List.length_cons] at *; rw [ih, leafE_length]; omega
theorem flatL_get (L : List Lf) (i j : Nat) (hi : i < L.length) (hj : j < 6) : (flatL L)[i * 6 + j]? = (leafE L[i])[j]? := by
  induction L generalizing i with
  | nil => simp at hi
  | cons a r ih =>
    cases i with
    | zero =>
      show (leafE a ++ flatL r)[0 * 6 + j]? = (leafE a)[j]?
      rw [List.getElem?_append_left (by rw [leafE_length]; omega)]
      simp
    | succ i =>
      have hi2 : i < r.length := by simpa using hi
      show (leafE a ++ flatL r)[(i + 1) * 6 + j]? = (leafE (r[i]'hi2))[j]?
      rw [List.getElem?_append_right (by rw [leafE_length]; omega), leafE_length, ← ih i (by simpa using hi)]
      congr 1
      omega
/-- A lamination: its block, and its leaves' row. -/
structure Lam (w : World) (B x : Nat) (v : Value) (L : List Lf) : Prop where
  blk : Blk w x 52 #[.bool true, v]
  row : w.ownsRow B 27 6 v L.length (flatL L)
  base : B ≤ x
theorem ordL_bd (l m : Lf) : ordL l m = -1 ∨ ordL l m = 0 ∨ ordL l m = 1 := by
  unfold ordL
  split
  · exact cmpP_bd _ _
  · exact cmpP_bd _ _

set_option maxRecDepth 100000 in
set_option maxHeartbeats 2000000 in
/-- lamin.none of nil -/
theorem lnone_nil (w : World) :
    Calls Try.prog 17 #[.pointer none] w (RetVal (.bool true) w) := by
  go_enter Try.func17, Try.ntmps17
  go_wp2_with fail
  go_ret
  exact ⟨rfl, Below.refl _ _⟩

set_option maxRecDepth 100000 in
set_option maxHeartbeats 2000000 in
/-- lamin.none -/
theorem lnone_any (x : Nat) (b : Bool) (v : Value) (w : World) (h : Blk w x 52 #[.bool b, v]) :
    Calls Try.prog 17 #[.pointer (some ⟨x, 0, none⟩)] w (RetVal (.bool (!b)) w) := by
  have c0 : w.cell? ⟨x, 0, none⟩ = some (.bool b) := h.cell 0
  clear h
  cases b
  all_goals go_enter Try.func17, Try.ntmps17
  all_goals go_wp2_with fail
  all_goals go_ret
  all_goals exact ⟨rfl, Below.refl _ _⟩

set_option maxRecDepth 100000 in
set_option maxHeartbeats 2000000 in
/-- lamin.New -/
theorem lNew_any (w : World) :
    Calls Try.prog 6 #[] w (fun e w' => e = .returned (.pointer (some ⟨w.heap.size, 0, none⟩)) ∧ w' = w.alloc (.cells #[.bool true, .slice none 0 0] 52)) := by
  go_enter Try.func6, Try.ntmps6
  go_wp2_with fail
  go_ret
  exact ⟨rfl, rfl⟩

set_option maxRecDepth 100000 in
set_option maxHeartbeats 2000000 in
/-- lamin.Len of nil -/
theorem lLen_nil (w : World) :
    Calls Try.prog 9 #[.pointer none] w (RetVal (.int .i64 0) w) := by
  have hA := Lib.hid (fun W => lnone_nil W)
  go_enter Try.func9, Try.ntmps9
  go_wp2_with fail
  refine (hA.out _).mono ?_
  rintro en w1 ⟨rfl, hb⟩
  go_wp2_with fail
  go_ret
  exact ⟨rfl, hb⟩

set_option maxRecDepth 100000 in
set_option maxHeartbeats 2000000 in
/-- lamin.Len -/
theorem lLen_any (x : Nat) (b : Bool) (A : Option Addr) (n c : Nat) (w : World) (h : Blk w x 52 #[.bool b, .slice A n c]) :
    Calls Try.prog 9 #[.pointer (some ⟨x, 0, none⟩)] w (RetVal (.int .i64 (if b then (n : Int) else 0)) w) := by
  have hA := Lib.hid (lnone_any x b (.slice A n c) w h)
  replace h := Lib.hid h
  cases b
  case false =>
    go_enter Try.func9, Try.ntmps9
    go_wp2_with fail
    refine hA.out.mono ?_
    rintro en w1 ⟨rfl, hb⟩
    have c1 : w1.cell? ⟨x, 1, none⟩ = some (.slice A n c) := (Blk.below h.out hb).cell 1
    have h2 := Lib.hid hb
    go_wp2_with fail
    go_ret
    exact ⟨rfl, hb⟩
  case true =>
    go_enter Try.func9, Try.ntmps9
    go_wp2_with fail
    refine hA.out.mono ?_
    rintro en w1 ⟨rfl, hb⟩
    have c1 : w1.cell? ⟨x, 1, none⟩ = some (.slice A n c) := (Blk.below h.out hb).cell 1
    have h2 := Lib.hid hb
    go_wp2_with fail
    go_ret
    exact ⟨rfl, h2.out⟩

set_option maxRecDepth 100000 in
set_option maxHeartbeats 2000000 in
/-- lamin.place's closure -/
theorem lplace1_any (b1 b2 x g o n cp i : Nat) (m l : Lf) (w : World) (hi : i < n) (hm : AngL m) (hl : AngL l) (h1 : Blk w b1 29 #[.pointer (some ⟨x, 0, none⟩)]) (h2 : Blk w x 52 #[.bool true, .slice (some ⟨g, o, none⟩) n cp]) (h3 : ∀ j u, (leafE m)[j]? = some u → w.cell? ⟨g, o + i * 6 + j, none⟩ = some u) (h4 : Blk w b2 27 #[.bool false, .string (natS l.1.1), .string (natS l.1.2), .bool false, .string (natS l.2.1), .string (natS l.2.2)]) :
    Calls Try.prog 34 #[.int .i64 (i : Int), .pointer (some ⟨b1, 0, none⟩), .pointer (some ⟨b2, 0, none⟩)] w (RetVal (.bool (decide (ordL m l ≥ 0))) w) := by
  obtain ⟨c, hc⟩ : ∃ c, c = ordL m l := ⟨_, rfl⟩
  have hO := Lib.hid (fun W => lorder_any m l W hm hl)
  rw [← hc] at hO
  have hb : Hid (decide (ordL m l ≥ 0) = decide (c ≥ 0)) := Lib.hid (by rw [hc])
  have hbd : c = -1 ∨ c = 0 ∨ c = 1 := by rw [hc]; exact ordL_bd m l
  clear hc
  have x0 : ∀ d os, (grow (redrawn w d) os).cell? ⟨b1, 0, none⟩ = some (.pointer (some ⟨x, 0, none⟩)) := cell_regrown (h1.cell 0)
  have x1 : ∀ d os, (grow (redrawn w d) os).cell? ⟨x, 1, none⟩ = some (.slice (some ⟨g, o, none⟩) n cp) := cell_regrown (h2.cell 1)
  have m0 : ∀ d os, (grow (redrawn w d) os).cell? ⟨g, o + i * 6, none⟩ = some (.bool false) := cell_regrown (h3 0 _ rfl)
  have m1 : ∀ d os, (grow (redrawn w d) os).cell? ⟨g, o + i * 6 + 1, none⟩ = some (.string (natS m.1.1)) := cell_regrown (h3 1 _ rfl)
  have m2 : ∀ d os, (grow (redrawn w d) os).cell? ⟨g, o + i * 6 + 2, none⟩ = some (.string (natS m.1.2)) := cell_regrown (h3 2 _ rfl)
  have m3 : ∀ d os, (grow (redrawn w d) os).cell? ⟨g, o + i * 6 + 3, none⟩ = some (.bool false) := cell_regrown (h3 3 _ rfl)
  have m4 : ∀ d os, (grow (redrawn w d) os).cell? ⟨g, o + i * 6 + 4, none⟩ = some (.string (natS m.2.1)) := cell_regrown (h3 4 _ rfl)
  have m5 : ∀ d os, (grow (redrawn w d) os).cell? ⟨g, o + i * 6 + 5, none⟩ = some (.string (natS m.2.2)) := cell_regrown (h3 5 _ rfl)
  have l0 : ∀ d os, (grow (redrawn w d) os).cell? ⟨b2, 0, none⟩ = some (.bool false) := cell_regrown (h4.cell 0)
  have l1 : ∀ d os, (grow (redrawn w d) os).cell? ⟨b2, 1, none⟩ = some (.string (natS l.1.1)) := cell_regrown (h4.cell 1)
  have l2 : ∀ d os, (grow (redrawn w d) os).cell? ⟨b2, 2, none⟩ = some (.string (natS l.1.2)) := cell_regrown (h4.cell 2)
  have l3 : ∀ d os, (grow (redrawn w d) os).cell? ⟨b2, 3, none⟩ = some (.bool false) := cell_regrown (h4.cell 3)
  have l4 : ∀ d os, (grow (redrawn w d) os).cell? ⟨b2, 4, none⟩ = some (.string (natS l.2.1)) := cell_regrown (h4.cell 4)
  have l5 : ∀ d os, (grow (redrawn w d) os).cell? ⟨b2, 5, none⟩ = some (.string (natS l.2.2)) := cell_regrown (h4.cell 5)
  have cO : ∀ d os, Calls Try.prog 35 #[.agg #[.bool false, .string (natS m.1.1), .string (natS m.1.2), .bool false, .string (natS m.2.1), .string (natS m.2.2)], .agg #[.bool false, .string (natS l.1.1), .string (natS l.1.2), .bool false, .string (natS l.2.1), .string (natS l.2.2)]] (grow (redrawn w d) os) fun e w'' => e = .returned (.int .i64 c) ∧ ∃ p : Regrown, w'' = grow (redrawn w p.d) p.os := fun d os => Calls.regrown_of (hO.out _)
  have hiz : (i : Int) < (n : Int) := by omega
  clear hO h1 h2 h3 h4 hm hl
  rcases hbd with rfl | rfl | rfl
  all_goals
    go_enter Try.func34, Try.ntmps34
    go_upto_region 1 with fail
    refine wp_region_quiet_below (by kernel_rfl) (by kernel_rfl) ?_
    iterate 8 (quiet_step (fail))
    quiet_step (exact cO _ _)
    iterate 2 (quiet_step (fail))
    refine wpQuiet_nil ?_
    intro w2 hw'
    have hB : Below w.heap.size w w2 := by
      obtain ⟨p, rfl⟩ := hw'
      exact below_regrown w p.d p.os
    replace hB := Lib.hid hB
    clear hw' cO x0 x1 m0 m1 m2 m3 m4 m5 l0 l1 l2 l3 l4 l5
    go_wp2_with fail
    go_ret
    exact ⟨by rw [hb.out]; rfl, hB.out⟩
end Go.Proofs.Ytoaggmegmgdgbaa
