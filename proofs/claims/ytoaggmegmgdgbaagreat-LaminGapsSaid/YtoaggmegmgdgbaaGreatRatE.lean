import Derived.Test.YtoaggmegmgdgbaaGreatRatD
import Derived.Test.YtoaggmegmgdgbaaGreatGapM
namespace Go.Proofs.YtoaggmegmgdgbaaGreat
open Go.RowKit Go.Sort
theorem LowF.self {a : Int} {b : Nat} (h : LowF a b) : lowN a b = a ∧ lowD a b = b := by
  unfold lowN lowD
  rw [h.2]
  simp
set_option maxRecDepth 100000 in
set_option maxHeartbeats 2000000 in
theorem ratNew_any (k : Nat) (a : Int) (b : Nat) (w : World) (h : LowF a b) (hk : k ≤ 1000) (la : Fit k a.natAbs) (lb : Fit k b) :
    Calls Tryz.prog 84 #[frV a b] w fun e w' => ∃ p, e = .returned (.pointer (some ⟨p, 0, none⟩)) ∧ w.heap.size ≤ p ∧ Rt w' p a b ∧ Below w.heap.size w w' := by
  have la4 : (natS a.natAbs).size ≤ 16384 := by rw [natS_size]; exact la.nb (by omega)
  have lb4 : (natS b).size ≤ 16384 := by rw [natS_size]; exact lb.nb (by omega)
  have hW1 : ∀ W, Calls Tryz.prog 127 #[.string (natS a.natAbs)] W (RetNew ((a.natAbs : Nat) : Int) W) := fun W => by
    have := whole_any (natS a.natAbs) W (by omega)
    rwa [be_natS] at this
  have hW2 : ∀ W, Calls Tryz.prog 127 #[.string (natS b)] W (RetNew ((b : Nat) : Int) W) := fun W => by
    have := whole_any (natS b) W (by omega)
    rwa [be_natS] at this
  have hl : LowF ((a.natAbs : Nat) : Int) b := ⟨h.1, by rw [Int.natAbs_natCast]; exact h.2⟩
  have hF : ∀ (p pa pb : Nat) (W : World), RtS W p → Big W pa 0 ((a.natAbs : Nat) : Int) → Big W pb 0 (b : Int) → Calls Tryz.prog 129 #[.pointer (some ⟨p, 0, none⟩), .pointer (some ⟨pa, 0, none⟩), .pointer (some ⟨pb, 0, none⟩)] W (RetRt ((a.natAbs : Nat) : Int) b p W) := fun p pa pb W k1 k2 k3 => by
    have := setFrac_any p pa 0 pb 0 ((a.natAbs : Nat) : Int) b W k1 k2 k3 h.1 (by rw [Int.natAbs_natCast]; exact la.dg (by omega)) (lb.dg (by omega))
    rwa [hl.self.1, hl.self.2] at this
  have hG : ∀ (p : Nat) (W : World), Rt W p ((a.natAbs : Nat) : Int) b → Calls Tryz.prog 124 #[.pointer (some ⟨p, 0, none⟩), .pointer (some ⟨p, 0, none⟩)] W (RetRt (-((a.natAbs : Nat) : Int)) b p W) := fun p W k1 => ratNeg_any p p ((a.natAbs : Nat) : Int) b W k1.room k1
  obtain ⟨s, hs⟩ : ∃ s, s = decide (a < 0) := ⟨_, rfl⟩
  have hsa : (if s then -((a.natAbs : Nat) : Int) else ((a.natAbs : Nat) : Int)) = a := by
    rw [hs]
    by_cases hn : a < 0
    · simp [hn]; omega
    · simp [hn]; omega
  unfold frV
  rw [← hs]
  obtain ⟨sN, hsN⟩ : ∃ x, x = natS a.natAbs := ⟨_, rfl⟩
  obtain ⟨sD, hsD⟩ : ∃ x, x = natS b := ⟨_, rfl⟩
  rw [← hsN] at hW1 ⊢
  rw [← hsD] at hW2 ⊢
  obtain ⟨n, hn⟩ : ∃ x : Int, x = ((a.natAbs : Nat) : Int) := ⟨_, rfl⟩
  rw [← hn] at hW1 hF hG hsa
  replace hW1 := Lib.hid hW1
  replace hW2 := Lib.hid hW2
  replace hF := Lib.hid hF
  replace hG := Lib.hid hG
  replace hsa := Lib.hid hsa
  clear hl la lb la4 lb4 hk h hs hsN hsD hn
  go_enter Tryz.func84, Tryz.ntmps84
  go_wp2_with fail
  have hK1 := Blk.new w 26 #[.bool s, .string sN, .string sD]
  have hB1 : Below w.heap.size w (w.alloc (.cells #[.bool s, .string sN, .string sD] 26)) := (Below.refl _ w).alloc (Nat.le_refl _) _
  have hs1 : (w.alloc (.cells #[.bool s, .string sN, .string sD] 26)).heap.size = w.heap.size + 1 := by simp
  generalize hw1 : w.alloc (.cells #[.bool s, .string sN, .string sD] 26) = w1 at hK1 hB1 hs1 ⊢
  have U0 : Hid (Below w.heap.size w w1.drew ∧ Blk w1.drew w.heap.size 26 #[.bool s, .string sN, .string sD]) := Lib.hid ⟨hB1.drew, hK1⟩
  have U1 : Hid (Below w.heap.size w (w1.alloc (.cells #[.bool false, .slice none 0 0, .bool false, .slice none 0 0] 153)).drew ∧ Blk (w1.alloc (.cells #[.bool false, .slice none 0 0, .bool false, .slice none 0 0] 153)).drew w.heap.size 26 #[.bool s, .string sN, .string sD] ∧ RtS (w1.alloc (.cells #[.bool false, .slice none 0 0, .bool false, .slice none 0 0] 153)).drew w1.heap.size) := Lib.hid ⟨(hB1.alloc hB1.size _).drew, Blk.alloc hK1 _, Rt.new w1⟩
  have c1 : w1.cell? ⟨w.heap.size, 1, none⟩ = some (.string sN) := hK1.cell 1
  have c2 : w1.cell? ⟨w.heap.size, 2, none⟩ = some (.string sD) := hK1.cell 2
  have hlt : w.heap.size < w1.heap.size := by omega
  clear hw1 hK1 hB1 hs1
  go_wp2_with fail
  go_region_held3 (fun w' => w'.cell? ⟨w.heap.size, 1, none⟩ = some (.string sN) ∧ w'.cell? ⟨w.heap.size, 2, none⟩ = some (.string sD)) (go_keep)
    (first
      | (go_at_call_of 127 (Value.string sN); have hU := U0; (with_reducible refine Calls.mono (hW1.out _) ?_); rintro e w2 ⟨p1, rfl, hp1, hb1, hB1⟩; have hK := Blk.below hU.out.2 hB1; have k1 : w2.cell? ⟨w.heap.size, 1, none⟩ = some (.string sN) := hK.cell 1; have k2 : w2.cell? ⟨w.heap.size, 2, none⟩ = some (.string sD) := hK.cell 2; have V0 := Lib.hid (And.intro (hU.out.1.trans (hB1.mono hU.out.1.size)) (And.intro hb1 hK)); clear hU hp1 hb1 hB1 hK)
      | (go_at_call_of 127 (Value.string sN); have hU := U1; (with_reducible refine Calls.mono (hW1.out _) ?_); rintro e w2 ⟨p1, rfl, hp1, hb1, hB1⟩; have hK := Blk.below hU.out.2.1 hB1; have k1 : w2.cell? ⟨w.heap.size, 1, none⟩ = some (.string sN) := hK.cell 1; have k2 : w2.cell? ⟨w.heap.size, 2, none⟩ = some (.string sD) := hK.cell 2; have V1 := Lib.hid (And.intro (hU.out.1.trans (hB1.mono hU.out.1.size)) (And.intro hb1 (And.intro hK (RtS.below hU.out.2.2 hB1)))); clear hU hp1 hb1 hB1 hK)
      | (go_at_call_of 127 (Value.string sD); have hV := V1; (with_reducible refine Calls.mono (hW2.out _) ?_); rintro e w3 ⟨p2, rfl, hp2, hb2, hB2⟩; have hK := Blk.below hV.out.2.2.1 hB2; have k3 : w3.cell? ⟨w.heap.size, 1, none⟩ = some (.string sN) := hK.cell 1; have k4 : w3.cell? ⟨w.heap.size, 2, none⟩ = some (.string sD) := hK.cell 2; have Z1 := Lib.hid (And.intro (hV.out.1.trans (hB2.mono hV.out.1.size)) (And.intro (Big.below hV.out.2.1 hB2) (And.intro hb2 (And.intro (RtS.below hV.out.2.2.2 hB2) (And.intro hK hlt))))); clear hV V1 hp2 hb2 hB2 hK)
      | (go_at_call_of 127 (Value.string sD); have hV := V0; (with_reducible refine Calls.mono (hW2.out w2) ?_); rintro e w3 ⟨p2, rfl, hp2, hb2, hB2⟩; have hK := Blk.below hV.out.2.2 hB2; have k3 : w3.cell? ⟨w.heap.size, 1, none⟩ = some (.string sN) := hK.cell 1; have k4 : w3.cell? ⟨w.heap.size, 2, none⟩ = some (.string sD) := hK.cell 2; have hB3 := hV.out.1.trans (hB2.mono hV.out.1.size); have Z0 := Lib.hid (show Below w.heap.size w (w3.alloc (.cells #[.bool false, .slice none 0 0, .bool false, .slice none 0 0] 153)) ∧ Big (w3.alloc (.cells #[.bool false, .slice none 0 0, .bool false, .slice none 0 0] 153)) p1 0 _ ∧ Big (w3.alloc (.cells #[.bool false, .slice none 0 0, .bool false, .slice none 0 0] 153)) p2 0 _ ∧ RtS (w3.alloc (.cells #[.bool false, .slice none 0 0, .bool false, .slice none 0 0] 153)) w3.heap.size ∧ Blk (w3.alloc (.cells #[.bool false, .slice none 0 0, .bool false, .slice none 0 0] 153)) w.heap.size 26 #[.bool s, .string sN, .string sD] ∧ w.heap.size < w3.heap.size from ⟨hB3.alloc hB3.size _, Big.alloc (Big.below hV.out.2.1 hB2) _, Big.alloc hb2 _, Rt.new w3, Blk.alloc hK _, hK.lt⟩); clear hV V0 hp2 hb2 hB2 hK hB3)
      | (go_at_call_of 127 (Value.string sD); have hV := V0; (with_reducible refine Calls.mono (hW2.out (w2.alloc (.cells #[.bool false, .slice none 0 0, .bool false, .slice none 0 0] 153))) ?_); rintro e w3 ⟨p2, rfl, hp2, hb2, hB2⟩; have hK := Blk.below (Blk.alloc hV.out.2.2 (.cells #[.bool false, .slice none 0 0, .bool false, .slice none 0 0] 153)) hB2; have k3 : w3.cell? ⟨w.heap.size, 1, none⟩ = some (.string sN) := hK.cell 1; have k4 : w3.cell? ⟨w.heap.size, 2, none⟩ = some (.string sD) := hK.cell 2; have hB3 := (hV.out.1.alloc hV.out.1.size (.cells #[.bool false, .slice none 0 0, .bool false, .slice none 0 0] 153)); have Z1 := Lib.hid (And.intro (hB3.trans (hB2.mono hB3.size)) (And.intro (Big.below (Big.alloc hV.out.2.1 (.cells #[.bool false, .slice none 0 0, .bool false, .slice none 0 0] 153)) hB2) (And.intro hb2 (And.intro (RtS.below (Rt.new w2) hB2) (And.intro hK hV.out.2.2.lt))))); clear hV V0 hp2 hb2 hB2 hK hB3)
      | (go_at_call 129; have hZ := Z1; (with_reducible refine Calls.mono (hF.out _ _ _ w3 hZ.out.2.2.2.1 hZ.out.2.1 hZ.out.2.2.1) ?_); rintro e w4 ⟨rfl, hr, hg⟩; have hK := Blk.grown hZ.out.2.2.2.2.1 hg (by intro e; injection e with e; have := hZ.out.2.2.2.2.2; omega); have k5 : w4.cell? ⟨w.heap.size, 1, none⟩ = some (.string sN) := hK.cell 1; have k6 : w4.cell? ⟨w.heap.size, 2, none⟩ = some (.string sD) := hK.cell 2; have E := Lib.hid (And.intro (below_gb hZ.out.1 hg (Nat.le_of_lt hZ.out.2.2.2.2.2) hZ.out.1.size) (And.intro hr (And.intro hK hZ.out.2.2.2.2.2))); clear hr hg hZ Z1 hK)
      | (go_at_call 129; have hZ := Z0; (with_reducible refine Calls.mono (hF.out _ _ _ _ hZ.out.2.2.2.1 hZ.out.2.1 hZ.out.2.2.1) ?_); rintro e w4 ⟨rfl, hr, hg⟩; have hK := Blk.grown hZ.out.2.2.2.2.1 hg (by intro e; injection e with e; have := hZ.out.2.2.2.2.2; omega); have k5 : w4.cell? ⟨w.heap.size, 1, none⟩ = some (.string sN) := hK.cell 1; have k6 : w4.cell? ⟨w.heap.size, 2, none⟩ = some (.string sD) := hK.cell 2; have E := Lib.hid (And.intro (below_gb hZ.out.1 hg (Nat.le_of_lt hZ.out.2.2.2.2.2) hZ.out.1.size) (And.intro hr (And.intro hK hZ.out.2.2.2.2.2))); clear hr hg hZ Z0 hK))
  all_goals
    clear hW1 hW2 hF c1 c2 k1 k2 k3 k4 k5 k6 U0 U1
    have c0 : w4.cell? ⟨w.heap.size, 0, none⟩ = some (.bool s) := E.out.2.2.1.cell 0
    cases s
    · go_wp2
      go_ret
      refine ⟨_, rfl, Nat.le_of_lt E.out.2.2.2, ?_, E.out.1⟩
      rw [← hsa.out]; exact E.out.2.1
    · go_wp2_with fail
      refine Calls.mono (hG.out _ w4 E.out.2.1) ?_
      rintro e w5 ⟨rfl, hr, hg⟩
      have D := Lib.hid (And.intro hr (below_gb E.out.1 hg (Nat.le_of_lt E.out.2.2.2) E.out.1.size))
      have hp := Lib.hid E.out.2.2.2
      clear hr hg c0 E hG
      go_wp2
      go_ret
      refine ⟨_, rfl, Nat.le_of_lt hp.out, ?_, D.out.2⟩
      rw [← hsa.out]; exact D.out.1
end Go.Proofs.YtoaggmegmgdgbaaGreat
