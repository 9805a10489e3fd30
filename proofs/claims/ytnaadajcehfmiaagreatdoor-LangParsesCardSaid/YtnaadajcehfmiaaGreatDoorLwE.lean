/- lang's writer: String of a builder within a writer; TrimSpace of the signs. -/
import Derived.Test.YtnaadajcehfmiaaGreatDoorLwD
namespace Go.Proofs.YtnaadajcehfmiaaGreatDoor
open Go.RowKit Go.Sort Go.Maps

theorem var_below {P : Program} {w W : World} {n : String} {cs : Array Value} (h : w.var? P n = some cs) (hb : Below w.heap.size w W) : W.var? P n = some cs := by
  unfold World.var? at h ⊢
  cases hg : P.globalNamed n with
  | none => rw [hg] at h; cases h
  | some g =>
    rw [hg] at h
    simp only [Option.bind_some] at h ⊢
    have hlt : g < w.heap.size := by
      rcases Nat.lt_or_ge g w.heap.size with h' | h'
      · exact h'
      · rw [Array.getElem?_eq_none h'] at h; cases h
    rw [hb.block g hlt]
    exact h
def AsT (w : World) : Prop := Lib.TabIs Tryz.prog w "strings.asciiSpace" .u8 Lib.asciiSpaceTab
theorem AsT.below {w W : World} (h : AsT w) (hb : Below w.heap.size w W) : AsT W := var_below h hb
theorem ascii_of {l : List UInt8} (h : l.all (fun b => decide (b.toNat < 128)) = true) : ∀ (j : Nat) b, l[j]? = some b → b.toNat < 128 := fun j b hb => by
  have := List.all_eq_true.1 h b (List.mem_of_getElem? hb)
  simpa using this
theorem trC_of {w : World} (h : AsT w) (ti : Bool) : TrC w.heap.size ti w := by
  intro _ k W h6 h9 hb
  have hW := h.below hb
  have hc : k = 6 ∨ k = 7 ∨ k = 8 ∨ k = 9 := by omega
  rcases hc with rfl | rfl | rfl | rfl
  · exact (Tryz.strings_TrimSpace (mkS (sgnW false 6)) W (by decide) (ascii_of (by decide)) hW).mono (fun e w' h => ⟨by rw [h.1]; rfl, by rw [h.2]; exact Lib.bytesWorld_below _ _ _⟩)
  · exact (Tryz.strings_TrimSpace (mkS (sgnW false 7)) W (by decide) (ascii_of (by decide)) hW).mono (fun e w' h => ⟨by rw [h.1]; rfl, by rw [h.2]; exact Lib.bytesWorld_below _ _ _⟩)
  · exact (Tryz.strings_TrimSpace (mkS (sgnW false 8)) W (by decide) (ascii_of (by decide)) hW).mono (fun e w' h => ⟨by rw [h.1]; rfl, by rw [h.2]; exact Lib.bytesWorld_below _ _ _⟩)
  · exact (Tryz.strings_TrimSpace (mkS (sgnW false 9)) W (by decide) (ascii_of (by decide)) hW).mono (fun e w' h => ⟨by rw [h.1]; rfl, by rw [h.2]; exact Lib.bytesWorld_below _ _ _⟩)
theorem u8s_bytes {b : List Nat} (h : Byt b) : Lib.byteCells (b.map UInt8.ofNat) = u8s b := by
  unfold Lib.byteCells u8s
  rw [List.map_map]
  refine List.map_congr_left fun n hn => ?_
  have := h n hn
  simp only [Function.comp_apply, UInt8.toNat_ofNat']
  rw [Nat.mod_eq_of_lt (by omega)]
theorem cellsU8 : Tryz.prog.cellsOf 5 = 1 := by kernel_rfl
theorem cell_freeze {w : World} {q a : Addr} (n : Nat) : (w.freeze q n).cell? a = w.cell? a := by
  unfold World.freeze
  split
  · rfl
  · unfold World.cell?
    simp only [Array.getElem?_modify]
    by_cases e : q.block = a.block
    · rw [if_pos e]
      cases w.heap[a.block]? with
      | none => rfl
      | some o => cases o <;> rfl
    · rw [if_neg e]
section
variable {B x gk : Nat} {vN vL : Value} {m : Int} {ti : Bool} {DK : DataW Unit} {b : List Nat} {w w' : World} {v : Value}
set_option maxHeartbeats 2000000 in
set_option maxRecDepth 100000 in
theorem wStr_nil (hc : w.cell? ⟨x, 5, none⟩ = some v) (hv : v = .slice none 0 0) : Calls Tryz.prog 62 #[.pointer (some ⟨x, 4, none⟩)] w (fun e w' => e = .returned (.string ⟨#[]⟩) ∧ Below B w w' ∧ w'.cell? ⟨x, 5, none⟩ = some v) := by
  subst hv
  have hUS : ∀ (W : World) (q : Option Addr), (Builtin.unsafeString_ #[103, 3] 9 #[.pointer q, .int .i64 0]).run Tryz.prog W = .ok (.string .empty) W := fun W q => Lib.run_unsafeString_none W _ _ _ q
  have c1 : w.drew.cell? ⟨x, 5, none⟩ = some (.slice none 0 0) := hc
  have hSD : (Builtin.unsafeSliceData_ #[88] 103 #[.slice none 0 0]).run Tryz.prog w.drew = .ok (.pointer none) w.drew := rfl
  have mixed : Tryz.prog.follows .mixedOrders = true := by kernel_rfl
  go_enter Tryz.func62, Tryz.ntmps62
  go_wp2
  go_region_o
  all_goals (go_wp2; go_ret; exact ⟨rfl, Below.drew (Below.refl B w), hc⟩)
set_option maxHeartbeats 2000000 in
set_option maxRecDepth 100000 in
theorem wStr_noroom (hBw : B ≤ w.heap.size) {g : Nat} {cur : Array Value} (hc : w.cell? ⟨x, 5, none⟩ = some v) (hv : v = .slice (some ⟨g, 0, none⟩) 0 0) (hg : w.heap[g]? = some (.cells cur 5 (0, 0))) : Calls Tryz.prog 62 #[.pointer (some ⟨x, 4, none⟩)] w (fun e w' => e = .returned (.string ⟨#[]⟩) ∧ Below B w w' ∧ w'.cell? ⟨x, 5, none⟩ = some v) := by
  subst hv
  have hUS : ∀ (W : World) (q : Option Addr), (Builtin.unsafeString_ #[103, 3] 9 #[.pointer q, .int .i64 0]).run Tryz.prog W = .ok (.string .empty) W := fun W q => Lib.run_unsafeString_none W _ _ _ q
  have hxl : x < w.heap.size := block_lt_of_cell hc
  have c1 : w.drew.cell? ⟨x, 5, none⟩ = some (.slice (some ⟨g, 0, none⟩) 0 0) := hc
  have hSD : (Builtin.unsafeSliceData_ #[88] 103 #[.slice (some ⟨g, 0, none⟩) 0 0]).run Tryz.prog w.drew = .ok (.pointer (some ⟨w.drew.heap.size, 0, none⟩)) (w.drew.alloc (.view ⟨g, 0, none⟩ 5)) :=
    Lib.run_unsafeSliceData_zero w.drew _ _ 5 Tryz.underlying103 ⟨g, 0, none⟩ 0 (5, cur.size) (by have hg' : w.drew.heap[g]? = some (.cells cur 5 (0, 0)) := hg; simp [World.shape?, hg'])
  have c2 : (w.drew.alloc (.view ⟨g, 0, none⟩ 5)).cell? ⟨x, 5, none⟩ = some (.slice (some ⟨g, 0, none⟩) 0 0) := (((Below.refl w.heap.size w).drew.alloc (Nat.le_refl _) _).cell (show (⟨x, 5, none⟩ : Addr).block < w.heap.size from hxl)).trans hc
  have c3 : (w.alloc (.view ⟨g, 0, none⟩ 5)).drew.cell? ⟨x, 5, none⟩ = some (.slice (some ⟨g, 0, none⟩) 0 0) := c2
  have c0 : w.cell? ⟨x, 5, none⟩ = some (.slice (some ⟨g, 0, none⟩) 0 0) := c1
  clear hg
  have mixed : Tryz.prog.follows .mixedOrders = true := by kernel_rfl
  go_enter Tryz.func62, Tryz.ntmps62
  go_wp2
  go_region_o
  all_goals (go_wp2; go_ret; exact ⟨rfl, (Below.drew (Below.refl B w)).alloc hBw _, c2⟩)
set_option maxHeartbeats 2000000 in
set_option maxRecDepth 100000 in
theorem wStr_room {g cap : Nat} (hc0 : cap ≠ 0) (hc : w.cell? ⟨x, 5, none⟩ = some v) (hv : v = .slice (some ⟨g, 0, none⟩) 0 cap) : Calls Tryz.prog 62 #[.pointer (some ⟨x, 4, none⟩)] w (fun e w' => e = .returned (.string ⟨#[]⟩) ∧ Below B w w' ∧ w'.cell? ⟨x, 5, none⟩ = some v) := by
  subst hv
  have hUS : ∀ (W : World) (q : Option Addr), (Builtin.unsafeString_ #[103, 3] 9 #[.pointer q, .int .i64 0]).run Tryz.prog W = .ok (.string .empty) W := fun W q => Lib.run_unsafeString_none W _ _ _ q
  have c1 : w.drew.cell? ⟨x, 5, none⟩ = some (.slice (some ⟨g, 0, none⟩) 0 cap) := hc
  have hSD : (Builtin.unsafeSliceData_ #[88] 103 #[.slice (some ⟨g, 0, none⟩) 0 cap]).run Tryz.prog w.drew = .ok (.pointer (some ⟨g, 0, none⟩)) w.drew := Lib.run_unsafeSliceData_row _ _ _ _ _ _ hc0
  clear hc0
  have mixed : Tryz.prog.follows .mixedOrders = true := by kernel_rfl
  go_enter Tryz.func62, Tryz.ntmps62
  go_wp2
  go_region_o
  all_goals (go_wp2; go_ret; exact ⟨rfl, Below.drew (Below.refl B w), hc⟩)
set_option maxHeartbeats 2000000 in
set_option maxRecDepth 100000 in
theorem wStr_row (l : List UInt8) (h0 : l ≠ []) {g cap : Nat} {cur : Array Value} (hc : w.cell? ⟨x, 5, none⟩ = some v) (hv : v = .slice (some ⟨g, 0, none⟩) l.length cap) (hbg : B ≤ g) (hg : w.heap[g]? = some (.cells cur 5 (0, 0))) (hnc : l.length ≤ cap) (hcm : cap ≤ maxLen) (hcs : cur.size = cap * 1) (hcell : ∀ j (x : UInt8), l[j]? = some x → w.cell? ((⟨g, 0, none⟩ : Addr).add j) = some (.int .u8 x.toNat)) : Calls Tryz.prog 62 #[.pointer (some ⟨x, 4, none⟩)] w (fun e w' => e = .returned (.string ⟨l.toArray⟩) ∧ Below B w w' ∧ w'.cell? ⟨x, 5, none⟩ = some v) := by
  subst hv
  have hl0 : l.length ≠ 0 := by simpa using h0
  have c1 : w.drew.cell? ⟨x, 5, none⟩ = some (.slice (some ⟨g, 0, none⟩) l.length cap) := hc
  have hSD : (Builtin.unsafeSliceData_ #[88] 103 #[.slice (some ⟨g, 0, none⟩) l.length cap]).run Tryz.prog w.drew = .ok (.pointer (some ⟨g, 0, none⟩)) w.drew := Lib.run_unsafeSliceData_row _ _ _ _ _ _ (by omega)
  have hUS : (Builtin.unsafeString_ #[103, 3] 9 #[.pointer (some ⟨g, 0, none⟩), .int .i64 l.length]).run Tryz.prog w.drew = .ok (.string ⟨l.toArray⟩) (w.drew.freeze ⟨g, 0, none⟩ l.length) :=
    Lib.run_unsafeString_row w.drew 103 3 9 5 Tryz.underlying103 cellsU8 g cur.size (by have hg' : w.drew.heap[g]? = some (.cells cur 5 (0, 0)) := hg; simp [World.shape?, hg']) l h0 (by omega) (by unfold maxLen at hcm; omega) hcell
  have hF : (w.drew.freeze ⟨g, 0, none⟩ l.length).cell? ⟨x, 5, none⟩ = some (.slice (some ⟨g, 0, none⟩) l.length cap) := (cell_freeze _).trans hc
  have hB9 : Below B w (w.drew.freeze ⟨g, 0, none⟩ l.length) := Lib.below_freeze (Below.drew (Below.refl B w)) (p := ⟨g, 0, none⟩) hbg _
  replace hF := Lib.hid hF
  replace hB9 := Lib.hid hB9
  clear hcell hcs hcm hnc hg hbg
  have mixed : Tryz.prog.follows .mixedOrders = true := by kernel_rfl
  go_enter Tryz.func62, Tryz.ntmps62
  go_wp2
  go_region_o
  all_goals (go_wp2; go_ret; exact ⟨rfl, hB9.out, hF.out⟩)
theorem w_String (h : WrS B x gk DK vN vL m ti b w) (hc : w.cell? ⟨x, 5, none⟩ = some v) : Calls Tryz.prog 62 #[.pointer (some ⟨x, 4, none⟩)] w (fun e w' => e = .returned (.string (mkS b)) ∧ Below B w w' ∧ w'.cell? ⟨x, 5, none⟩ = some v) := by
  have hlt := h.lt
  obtain ⟨ad, vB, had, hk, hrow, hM, hx, hgk, hby⟩ := h
  have hv : vB = v := by
    have := (hk.cell 5).symm.trans hc
    injection this
  subst hv
  obtain ⟨l, hl⟩ : ∃ l, l = b.map UInt8.ofNat := ⟨_, rfl⟩
  have hll : l.length = b.length := by rw [hl, List.length_map]
  have hms : mkS b = ⟨l.toArray⟩ := by rw [hl]; rfl
  rw [hms]
  rcases hrow.2 with ⟨rfl, hz⟩ | ⟨g, cap, cur, rfl, hbg, hg, hnc, hcm, hcs, htk⟩
  · have e : l = [] := List.eq_nil_of_length_eq_zero (by omega)
    rw [e]
    exact wStr_nil hc rfl
  · by_cases h0 : l = []
    · have hz : b.length = 0 := by rw [← hll, h0]; rfl
      rw [hz] at hc ⊢
      rw [h0]
      by_cases hc0 : cap = 0
      · subst hc0
        exact wStr_noroom hlt.2 hc rfl hg
      · exact wStr_room hc0 hc rfl
    · rw [← hll] at hc ⊢
      refine wStr_row l h0 hc rfl hbg hg (by omega) hcm hcs (fun j y hy => ?_)
      refine hrow.cells (g := g) rfl j (.int .u8 y.toNat) ?_
      rw [← u8s_bytes hby, ← hl]
      simp [Lib.byteCells, hy]
end
end Go.Proofs.YtnaadajcehfmiaaGreatDoor
