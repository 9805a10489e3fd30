/- filigreeref22.Same. -/
import Derived.Test.YtbddlbhanpjdnaaGreatDoorSame
import Derived.Test.YtbddlbhanpjdnaaGreatDoorItS
namespace Go.Proofs.YtbddlbhanpjdnaaGreatDoor
open Go.RowKit Go.Sort

set_option maxRecDepth 100000 in
set_option maxHeartbeats 1000000 in
/-- filigreeref22.Same -/
theorem rsame_any (a b c d : Value) (P Q P' Q' : List Nat) (w : World) (h : Itn w a b P Q) (k : Itn w c d P' Q') :
    Calls Tryz.prog 12 #[.agg #[a, b], .agg #[c, d]] w (RetVal (.bool (decide (P = P') && decide (Q = Q'))) w) := by
  obtain ⟨⟨A1, n1, c1, T1, rfl, h1⟩, ⟨A2, n2, c2, T2, rfl, h2⟩, s1, s2, -, -⟩ := h
  obtain ⟨⟨A3, n3, c3, T3, rfl, h3⟩, ⟨A4, n4, c4, T4, rfl, h4⟩, s3, s4, -, -⟩ := k
  obtain ⟨W, hW⟩ : ∃ W, W = (w.alloc (.cells #[.slice A1 n1 c1, .slice A2 n2 c2] 30)).alloc (.cells #[.slice A3 n3 c3, .slice A4 n4 c4] 30) := ⟨_, rfl⟩
  have hBW : Below w.heap.size w W := by rw [hW]; exact ((Below.refl _ w).alloc (Nat.le_refl _) _).alloc (by simp) _
  have q1 := conv_rd W A1 n1 c1 P (h1.below hBW) s1 9 Tryz.underlying9
  have q2 := conv_rd W A2 n2 c2 Q (h2.below hBW) s2 9 Tryz.underlying9
  have q3 := conv_rd W A3 n3 c3 P' (h3.below hBW) s3 9 Tryz.underlying9
  have q4 := conv_rd W A4 n4 c4 Q' (h4.below hBW) s4 9 Tryz.underlying9
  have e1 := mkS_beq s1 s3
  have e2 := mkS_beq s2 s4
  obtain ⟨x, hx⟩ : ∃ x, x = decide (P = P') := ⟨_, rfl⟩
  obtain ⟨y, hy⟩ : ∃ y, y = decide (Q = Q') := ⟨_, rfl⟩
  rw [← hx] at e1 ⊢
  rw [← hy] at e2 ⊢
  obtain ⟨m1, hm1⟩ : ∃ m, m = mkS P := ⟨_, rfl⟩
  obtain ⟨m2, hm2⟩ : ∃ m, m = mkS Q := ⟨_, rfl⟩
  obtain ⟨m3, hm3⟩ : ∃ m, m = mkS P' := ⟨_, rfl⟩
  obtain ⟨m4, hm4⟩ : ∃ m, m = mkS Q' := ⟨_, rfl⟩
  rw [← hm1] at q1 e1
  rw [← hm2] at q2 e2
  rw [← hm3] at q3 e1
  rw [← hm4] at q4 e2
  rw [hW] at q1 q2 q3 q4 hBW
  replace hBW := Lib.hid hBW
  clear hW h1 h2 h3 h4 s1 s2 s3 s4 hx hy hm1 hm2 hm3 hm4
  cases x <;> cases y
  all_goals
    go_enter Tryz.func12, Tryz.ntmps12
    go_wp2_with fail
    go_ret
    exact ⟨rfl, hBW.out⟩

theorem rsameT (a b c d : Value) (P Q : List Nat) (w : World) (h : Itn w a b P Q) (k : Itn w c d P Q) :
    Calls Tryz.prog 12 #[.agg #[a, b], .agg #[c, d]] w (RetVal (.bool true) w) := by
  have := rsame_any a b c d P Q P Q w h k
  simpa using this
end Go.Proofs.YtbddlbhanpjdnaaGreatDoor
