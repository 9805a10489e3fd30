import Derived.Test.YtoaggmegmgdgbaaGreatRPutB
namespace Go.Proofs.YtoaggmegmgdgbaaGreat
open Go.RowKit Go.Sort
set_option maxRecDepth 100000 in
set_option maxHeartbeats 4000000 in
theorem lsame23_any (B B2 : Nat) (u v : Value) (L : List Lf) (w : World) (hu : LRow w B u L) (hv : RRow w B2 v L) (hM : ∀ m, m ∈ L → AngL m) (hlen : L.length ≤ 1048576) :
    Calls Tryz.prog 15 #[u, v] w (RetVal (.bool true) w) := by
  obtain ⟨A, c, rfl, hA⟩ := LRow.form hu
  obtain ⟨A2, c2, rfl, hA2⟩ := RRow.form hv
  have cT : Hid (∀ i, i < L.length → ∀ W, Calls Tryz.prog 23 #[.agg #[.int .u64 (L[i]!.1.1 : Int), .int .u64 (L[i]!.1.2 : Int), .int .u64 (L[i]!.2.1 : Int), .int .u64 (L[i]!.2.2 : Int)]] W (RetVal (.agg #[.bool false, .string (natS L[i]!.1.1), .string (natS L[i]!.1.2), .bool false, .string (natS L[i]!.2.1), .string (natS L[i]!.2.2)]) W)) := Lib.hid (fun i hi W => by
    have h := rlTold_any L[i]! W (hM _ (getBang_mem hi))
    exact h)
  have hU := Lib.hid hu
  have hV := Lib.hid hv
  obtain ⟨n, hn⟩ : ∃ n, n = L.length := ⟨_, rfl⟩
  rw [← hn] at cT hU hV hA hA2 hlen ⊢
  replace hn := Lib.hid hn
  have hB := Lib.hid (Below.refl w.heap.size w)
  clear hu hv hM
  go_enter Tryz.func15, Tryz.ntmps15
  go_wp2_with fail
  go_loopg [5] n (fun kx s5 wr => ∃ i : Nat, s5 = .int .i64 (i : Int) ∧ i ≤ n ∧ n - i ≤ kx ∧ Hid (Below w.heap.size w wr))
  case atStart => exact ⟨0, rfl, Nat.zero_le _, Nat.le_refl _, hB⟩
  case round =>
    clear hB
    obtain ⟨i, rfl, hin, hg, hB⟩ := hrel
    by_cases hlt : i < n
    case neg =>
      obtain rfl : i = n := by omega
      clear cT hU hV
      go_wp2_with fail
      go_ret
      exact ⟨rfl, hB.out⟩
    case pos =>
      obtain ⟨g, rfl⟩ := hA (by omega)
      obtain ⟨g2, rfl⟩ := hA2 (by omega)
      have hil : i < L.length := by rw [← hn.out]; exact hlt
      obtain ⟨l, hl⟩ : ∃ l, l = L[i]! := ⟨_, rfl⟩
      have hC := LRow.cell (LRow.below hU.out hB.out) hil
      have hD := RRow.cell (RRow.below hV.out hB.out) hil
      rw [← hl] at hC hD
      have cM : ∀ d os, Calls Tryz.prog 23 #[.agg #[.int .u64 (l.1.1 : Int), .int .u64 (l.1.2 : Int), .int .u64 (l.2.1 : Int), .int .u64 (l.2.2 : Int)]] (grow (redrawn wr d) os) fun e w'' => e = .returned (.agg #[.bool false, .string (natS l.1.1), .string (natS l.1.2), .bool false, .string (natS l.2.1), .string (natS l.2.2)]) ∧ ∃ p : Regrown, w'' = grow (redrawn wr p.d) p.os := fun d os => by
        have h := cT.out i hlt (grow (redrawn wr d) os)
        rw [← hl] at h
        exact Calls.regrown_of h
      have m0 : ∀ d os, (grow (redrawn wr d) os).cell? ⟨g, i * 6, none⟩ = some (.bool false) := cell_regrown (hC 0 _ rfl)
      have m1 : ∀ d os, (grow (redrawn wr d) os).cell? ⟨g, i * 6 + 1, none⟩ = some (.string (natS l.1.1)) := cell_regrown (hC 1 _ rfl)
      have m2 : ∀ d os, (grow (redrawn wr d) os).cell? ⟨g, i * 6 + 2, none⟩ = some (.string (natS l.1.2)) := cell_regrown (hC 2 _ rfl)
      have m3 : ∀ d os, (grow (redrawn wr d) os).cell? ⟨g, i * 6 + 3, none⟩ = some (.bool false) := cell_regrown (hC 3 _ rfl)
      have m4 : ∀ d os, (grow (redrawn wr d) os).cell? ⟨g, i * 6 + 4, none⟩ = some (.string (natS l.2.1)) := cell_regrown (hC 4 _ rfl)
      have m5 : ∀ d os, (grow (redrawn wr d) os).cell? ⟨g, i * 6 + 5, none⟩ = some (.string (natS l.2.2)) := cell_regrown (hC 5 _ rfl)
      have r0 : ∀ d os, (grow (redrawn wr d) os).cell? ⟨g2, i * 4, none⟩ = some (.int .u64 (l.1.1 : Int)) := cell_regrown (hD 0 _ rfl)
      have r1 : ∀ d os, (grow (redrawn wr d) os).cell? ⟨g2, i * 4 + 1, none⟩ = some (.int .u64 (l.1.2 : Int)) := cell_regrown (hD 1 _ rfl)
      have r2 : ∀ d os, (grow (redrawn wr d) os).cell? ⟨g2, i * 4 + 2, none⟩ = some (.int .u64 (l.2.1 : Int)) := cell_regrown (hD 2 _ rfl)
      have r3 : ∀ d os, (grow (redrawn wr d) os).cell? ⟨g2, i * 4 + 3, none⟩ = some (.int .u64 (l.2.2 : Int)) := cell_regrown (hD 3 _ rfl)
      have hiz : (i : Int) < (n : Int) := by omega
      have hw1 : IntKind.i64.wrap ((i : Int) + 1) = (i : Int) + 1 := by rw [IntKind.wrap_i64]; omega
      replace hl := Lib.hid hl
      clear hC hD hil
      go_upto_region 6 with fail
      refine wp_region_quiet_below (by kernel_rfl) (by kernel_rfl) ?_
      iterate 8 (quiet_step (fail))
      quiet_step (exact cM _ _)
      quiet_step (fail)
      refine wpQuiet_nil ?_
      intro w3 hw'
      have hb : Below wr.heap.size wr w3 := by
        obtain ⟨p, rfl⟩ := hw'
        exact below_regrown wr p.d p.os
      have hB2 := Lib.hid (hB.out.trans (hb.mono hB.out.size))
      clear hw' hb cM m0 m1 m2 m3 m4 m5 r0 r1 r2 r3 hB
      go_wp2_with fail
      go_roundg (n - (i + 1))
      case measure => omega
      case rel => exact ⟨i + 1, by simp, by omega, Nat.le_refl _, hB2⟩
end Go.Proofs.YtoaggmegmgdgbaaGreat
