/- lang.shape. -/
import Derived.Test.YtnaadajcehfmiaaGreatDoorLwF
namespace Go.Proofs.YtnaadajcehfmiaaGreatDoor
open Go.RowKit Go.Sort Go.Maps

def ubL (l : List Bool) : Array Value := (l.map Value.bool).toArray
def ihs (l : List Nat) : Array Value := (l.map fun (n : Nat) => Value.int .i64 (n : Int)).toArray
theorem info_boolL : (Tryz.prog.info? 4).map (fun i => (i.zero, i.size, i.bytes)) = some (some (.bool false), 1, 1) := by kernel_rfl
theorem info_intS : (Tryz.prog.info? 3).map (fun i => (i.zero, i.size, i.bytes)) = some (some (.int .i64 0), 1, 8) := by kernel_rfl
theorem makeL_bool (n : Nat) (hn : n ≤ 4294967296) (w : World) :
    (Instr.makeSlice 104 (.int .i64 (n : Int)) (.int .i64 (n : Int))).run Tryz.prog w = .ok (.slice (some ⟨w.heap.size, 0, none⟩) n n) (w.alloc (.cells (ubL (List.replicate n false)) 4)) := by
  obtain ⟨i, hi, hz0, hz1, hz2⟩ := info_parts info_boolL
  have h1 : (i.bytes : Int) * (n : Int) ≤ 281474976710656 := by rw [hz2]; omega
  have hr := run_make (P := Tryz.prog) w 104 4 i _ Tryz.underlying104 hi hz0 .i64 .i64 n n (by omega) (Int.le_refl _) h1 (by omega)
  simp only [Int.toNat_natCast, hz1, Nat.mul_one] at hr
  have e : madeCells (Value.bool false).cells n = ubL (List.replicate n false) := by
    apply Array.ext'
    rw [show (Value.bool false).cells = #[Value.bool false] from rfl, toList_madeCells_one]
    simp [ubL]
  rw [hr, e]
theorem makeL_int (n : Nat) (hn : n ≤ 4294967296) (w : World) :
    (Instr.makeSlice 40 (.int .i64 (n : Int)) (.int .i64 (n : Int))).run Tryz.prog w = .ok (.slice (some ⟨w.heap.size, 0, none⟩) n n) (w.alloc (.cells (ihs (List.replicate n 0)) 3)) := by
  obtain ⟨i, hi, hz0, hz1, hz2⟩ := info_parts info_intS
  have h1 : (i.bytes : Int) * (n : Int) ≤ 281474976710656 := by rw [hz2]; omega
  have hr := run_make (P := Tryz.prog) w 40 3 i _ Tryz.underlying40 hi hz0 .i64 .i64 n n (by omega) (Int.le_refl _) h1 (by omega)
  simp only [Int.toNat_natCast, hz1, Nat.mul_one] at hr
  have e : madeCells (Value.int .i64 0).cells n = ihs (List.replicate n 0) := by
    apply Array.ext'
    rw [show (Value.int .i64 0).cells = #[Value.int .i64 0] from rfl, toList_madeCells_one]
    simp [ihs]
  rw [hr, e]
theorem ubL_cell {W : World} {g : Nat} {l : List Bool} {j : Nat} {b : Bool} (h : Blk W g 4 (ubL l)) (hj : l[j]? = some b) : W.cell? ⟨g, j, none⟩ = some (.bool b) := by
  rw [h.cell]
  unfold ubL
  rw [List.getElem?_toArray, List.getElem?_map, hj]; rfl
theorem ubL_set {W : World} {g : Nat} {l : List Bool} (h : Blk W g 4 (ubL l)) (j : Nat) (b : Bool) : Blk (W.setCell ⟨g, j, none⟩ (.bool b)) g 4 (ubL (l.set j b)) := by
  have h1 := h.set_ j (.bool b)
  have e : (ubL l).setIfInBounds j (.bool b) = ubL (l.set j b) := by
    unfold ubL
    rw [List.setIfInBounds_toArray, List.map_set]
  rw [e] at h1
  exact h1
theorem ihs_cell {W : World} {g : Nat} {l : List Nat} {j b : Nat} (h : Blk W g 3 (ihs l)) (hj : l[j]? = some b) : W.cell? ⟨g, j, none⟩ = some (.int .i64 (b : Int)) := by
  rw [h.cell]
  unfold ihs
  rw [List.getElem?_toArray, List.getElem?_map, hj]; rfl
theorem ihs_set {W : World} {g : Nat} {l : List Nat} (h : Blk W g 3 (ihs l)) (j b : Nat) : Blk (W.setCell ⟨g, j, none⟩ (.int .i64 (b : Int))) g 3 (ihs (l.set j b)) := by
  have h1 := h.set_ j (.int .i64 (b : Int))
  have e : (ihs l).setIfInBounds j (.int .i64 (b : Int)) = ihs (l.set j b) := by
    unfold ihs
    rw [List.setIfInBounds_toArray, List.map_set]
  rw [e] at h1
  exact h1
theorem blkL_ne {W : World} {g g' : Nat} {T T' : TypeId} {cs cs' : Array Value} (h : Blk W g T cs) (h' : Blk W g' T' cs') (hne : T ≠ T') : g ≠ g' := fun e => by
  subst e
  unfold Blk at h h'
  rw [h] at h'
  injection h' with h'
  injection h' with _ h' _
  exact hne h'
/-- A part's part: how high, and the parts that are another one's. -/
def badO (U : List Bool) (a : Int) (i : Nat) : Prop := a < 0 ∨ (i : Int) ≤ a ∨ U[a.toNat]! = true
instance (U : List Bool) (a : Int) (i : Nat) : Decidable (badO U a i) := by unfold badO; infer_instance
def ofH (U : List Bool) (H : List Nat) (a : Int) (i : Nat) : Nat := if badO U a i then 64 else H[a.toNat]!
def ofU (U : List Bool) (a : Int) (i : Nat) : List Bool := if badO U a i then U else U.set a.toNat true
def usedW (W : World) (gu : Nat) (U : List Bool) (a : Int) (i : Nat) : World := if badO U a i then W else W.setCell ⟨gu, a.toNat, none⟩ (.bool true)
/-- A part's turn. -/
def shX (U : List Bool) (H : List Nat) (i : Nat) (r : RNo) : Nat × List Bool :=
  if bndK r.kind = 5 then (1, U) else if 3 ≤ bndK r.kind then (1 + ofH U H r.a i, ofU U r.a i)
  else (1 + max (ofH U H r.a i) (ofH (ofU U r.a i) H r.b i), ofU (ofU U r.a i) r.b i)
def shapB (x : Nat) (r : RNo) : Prop := 64 < x ∨ (r.kind = 10 ∧ (r.n < 0 ∨ 64 < r.n))
instance (x : Nat) (r : RNo) : Decidable (shapB x r) := by unfold shapB; infer_instance
def shK (r : RNo) : Prop := r.kind < 1 ∨ 10 < r.kind ∨ 16384 < r.text.length
instance (r : RNo) : Decidable (shK r) := by unfold shK; infer_instance
def shL : List RNo → Nat → List Bool → List Nat → Bool
  | [], _, _, _ => true
  | r :: N, i, U, H => if shK r then false else if shapB (shX U H i r).1 r then false else shL N (i + 1) (shX U H i r).2 (H.set i (shX U H i r).1)
def letBad (n : Nat) (l : RLt) : Prop := l.at_ < 0 ∨ (n : Int) ≤ l.at_ ∨ 16384 < l.name.length
instance (n : Nat) (l : RLt) : Decidable (letBad n l) := by unfold letBad; infer_instance
def ltL (n : Nat) : List RLt → Bool
  | [] => true
  | l :: Ls => if letBad n l then false else ltL n Ls
def shapP (nn nl : Nat) (m : Int) : Prop := nn = 0 ∨ 4096 < nn ∨ m < 0 ∨ (nn : Int) ≤ m ∨ nn < nl
instance (nn nl : Nat) (m : Int) : Decidable (shapP nn nl m) := by unfold shapP; infer_instance
def shapeW (N : List RNo) (Ls : List RLt) (m : Int) : Bool :=
  if shapP N.length Ls.length m then false else if shL N 0 (List.replicate N.length false) (List.replicate N.length 0) then ltL N.length Ls else false
/-- What shape holds. -/
structure ShS (B bp bu bh gu gh nn : Nat) (vN vL : Value) (m : Int) (W : World) (U : List Bool) (H : List Nat) : Prop where
  p : Blk W bp 25 #[vN, vL, .int .i64 m]
  bu : Blk W bu 104 #[.slice (some ⟨gu, 0, none⟩) nn nn]
  bh : Blk W bh 40 #[.slice (some ⟨gh, 0, none⟩) nn nn]
  u : Blk W gu 4 (ubL U)
  h : Blk W gh 3 (ihs H)
  ul : U.length = nn
  hl : H.length = nn
  hb : ∀ x, x ∈ H → x ≤ 64
  gu : B ≤ gu
  gh : B ≤ gh
section
variable {B bp bu bh gu gh nn : Nat} {vN vL : Value} {m : Int} {W W' : World} {U : List Bool} {H : List Nat}
theorem ShS.below (h : ShS B bp bu bh gu gh nn vN vL m W U H) (hb : Below W.heap.size W W') : ShS B bp bu bh gu gh nn vN vL m W' U H :=
  ⟨h.p.below hb, h.bu.below hb, h.bh.below hb, h.u.below hb, h.h.below hb, h.ul, h.hl, h.hb, h.gu, h.gh⟩
theorem ShS.used (h : ShS B bp bu bh gu gh nn vN vL m W U H) (a : Int) (i : Nat) : ShS B bp bu bh gu gh nn vN vL m (usedW W gu U a i) (ofU U a i) H := by
  unfold usedW ofU
  by_cases hb : badO U a i
  · rw [if_pos hb, if_pos hb]; exact h
  · rw [if_neg hb, if_neg hb]
    have n1 := blkL_ne h.p h.u (by decide)
    have n2 := blkL_ne h.bu h.u (by decide)
    have n3 := blkL_ne h.bh h.u (by decide)
    have n4 := blkL_ne h.h h.u (by decide)
    exact ⟨h.p.far n1 _, h.bu.far n2 _, h.bh.far n3 _, ubL_set h.u _ _, h.h.far n4 _, by rw [List.length_set]; exact h.ul, h.hl, h.hb, h.gu, h.gh⟩
theorem ShS.put (h : ShS B bp bu bh gu gh nn vN vL m W U H) (i x : Nat) (hx : x ≤ 64) : ShS B bp bu bh gu gh nn vN vL m (W.setCell ⟨gh, i, none⟩ (.int .i64 (x : Int))) U (H.set i x) := by
  have n1 := blkL_ne h.p h.h (by decide)
  have n2 := blkL_ne h.bu h.h (by decide)
  have n3 := blkL_ne h.bh h.h (by decide)
  have n4 := blkL_ne h.u h.h (by decide)
  refine ⟨h.p.far n1 _, h.bu.far n2 _, h.bh.far n3 _, h.u.far n4 _, ihs_set h.h _ _, h.ul, by rw [List.length_set]; exact h.hl, fun y hy => ?_, h.gu, h.gh⟩
  rcases List.mem_or_eq_of_mem_set hy with hy | rfl
  · exact h.hb y hy
  · exact hx
theorem ofH_le (h : ShS B bp bu bh gu gh nn vN vL m W U H) (V : List Bool) (a : Int) (i : Nat) (hi : i < nn) : ofH V H a i ≤ 64 := by
  unfold ofH
  by_cases hb : badO V a i
  · rw [if_pos hb]; omega
  · rw [if_neg hb]
    unfold badO at hb
    have hlt : a.toNat < H.length := by rw [h.hl]; omega
    rw [getElem!_pos H a.toNat hlt]
    exact h.hb _ (List.getElem_mem _)
theorem usedW_below (hg : B ≤ gu) (a : Int) (i : Nat) : Below B W (usedW W gu U a i) := by
  unfold usedW
  by_cases hb : badO U a i
  · rw [if_pos hb]; exact Below.refl _ _
  · rw [if_neg hb]; exact (Below.refl _ _).setCell (p := ⟨gu, a.toNat, none⟩) hg _
theorem usedW_blk {g : Nat} {T : TypeId} {cs : Array Value} (h : Blk W g T cs) (hne : g ≠ gu) (a : Int) (i : Nat) : Blk (usedW W gu U a i) g T cs := by
  unfold usedW
  by_cases hb : badO U a i
  · rw [if_pos hb]; exact h
  · rw [if_neg hb]; exact h.far hne _
set_option maxRecDepth 100000 in
set_option maxHeartbeats 2000000 in
/-- a part's part -/
theorem sh1 (h : ShS B bp bu bh gu gh nn vN vL m W U H) (a : Int) (i : Nat) (hi : i < nn) (hn : nn ≤ 4096) : Calls Tryz.prog 74 #[.int .i64 a, .int .i64 (i : Int), .pointer (some ⟨bu, 0, none⟩), .pointer (some ⟨bh, 0, none⟩)] W (fun e w' => e = .returned (.int .i64 (ofH U H a i : Int)) ∧ w' = usedW W gu U a i) := by
  have b0 : W.cell? ⟨bu, 0, none⟩ = some (.slice (some ⟨gu, 0, none⟩) nn nn) := h.bu.cell 0
  have b1 : W.cell? ⟨bh, 0, none⟩ = some (.slice (some ⟨gh, 0, none⟩) nn nn) := h.bh.cell 0
  by_cases hneg : a < 0
  case pos =>
    have hbad : badO U a i := .inl hneg
    have e1 : ofH U H a i = 64 := by unfold ofH; rw [if_pos hbad]
    have e2 : usedW W gu U a i = W := by unfold usedW; rw [if_pos hbad]
    rw [e1, e2]
    clear hbad e1 e2 h
    go_enter Tryz.func74, Tryz.ntmps74
    go_wp2_with fail
    go_ret
    exact ⟨rfl, rfl⟩
  case neg =>
    obtain ⟨k, rfl⟩ : ∃ k : Nat, a = (k : Int) := ⟨a.toNat, by omega⟩
    clear hneg
    by_cases hge : i ≤ k
    case pos =>
      have hbad : badO U (k : Int) i := .inr (.inl (by omega))
      have e1 : ofH U H (k : Int) i = 64 := by unfold ofH; rw [if_pos hbad]
      have e2 : usedW W gu U (k : Int) i = W := by unfold usedW; rw [if_pos hbad]
      rw [e1, e2]
      clear hbad e1 e2 h
      go_enter Tryz.func74, Tryz.ntmps74
      go_wp2_with fail
      go_ret
      exact ⟨rfl, rfl⟩
    case neg =>
      have hki : k < i := by omega
      have hkn : k < nn := by omega
      have hkU : k < U.length := by rw [h.ul]; exact hkn
      have hkH : k < H.length := by rw [h.hl]; exact hkn
      have hnge : ¬ ((i : Int) ≤ (k : Int)) := by omega
      by_cases hu : U[k]! = true
      case pos =>
        have hbad : badO U (k : Int) i := .inr (.inr hu)
        have e1 : ofH U H (k : Int) i = 64 := by unfold ofH; rw [if_pos hbad]
        have e2 : usedW W gu U (k : Int) i = W := by unfold usedW; rw [if_pos hbad]
        have c1 : W.cell? ⟨gu, k, none⟩ = some (.bool true) := ubL_cell h.u (by rw [List.getElem?_eq_getElem hkU, ← getElem!_pos U k hkU, hu])
        rw [e1, e2]
        clear hbad e1 e2 h hu hkU hkH
        go_enter Tryz.func74, Tryz.ntmps74
        go_wp2_with fail
        go_ret
        exact ⟨rfl, rfl⟩
      case neg =>
        have hu2 : U[k]! = false := by simpa using hu
        have hbad : ¬ badO U (k : Int) i := by
          rintro (h1 | h1 | h1)
          · omega
          · omega
          · exact hu h1
        obtain ⟨y, hy⟩ : ∃ y, y = H[k]! := ⟨_, rfl⟩
        have e1 : ofH U H (k : Int) i = y := by unfold ofH; rw [if_neg hbad, hy]; rfl
        have e2 : usedW W gu U (k : Int) i = W.setCell ⟨gu, k, none⟩ (.bool true) := by unfold usedW; rw [if_neg hbad]; rfl
        have c1 : W.cell? ⟨gu, k, none⟩ = some (.bool false) := ubL_cell h.u (by rw [List.getElem?_eq_getElem hkU, ← getElem!_pos U k hkU, hu2])
        have c2 : W.cell? ⟨gh, k, none⟩ = some (.int .i64 (y : Int)) := ihs_cell h.h (by rw [List.getElem?_eq_getElem hkH, ← getElem!_pos H k hkH, hy])
        have f1 : W.frozen? ⟨gu, k, none⟩ = false := h.u.frozen k
        have n1 : gh ≠ gu := blkL_ne h.h h.u (by decide)
        have n3 : bh ≠ gu := blkL_ne h.bh h.u (by decide)
        have d1 : (W.setCell ⟨gu, k, none⟩ (.bool true)).cell? ⟨bh, 0, none⟩ = some (.slice (some ⟨gh, 0, none⟩) nn nn) := (h.bh.far n3 _).cell 0
        have d2 : (W.setCell ⟨gu, k, none⟩ (.bool true)).cell? ⟨gh, k, none⟩ = some (.int .i64 (y : Int)) := ihs_cell (h.h.far n1 _) (by rw [List.getElem?_eq_getElem hkH, ← getElem!_pos H k hkH, hy])
        rw [e1, e2]
        replace hy := Lib.hid hy
        clear hbad e1 e2 h hu hu2 hkU hkH
        go_enter Tryz.func74, Tryz.ntmps74
        go_wp2_with fail
        go_ret
        exact ⟨rfl, rfl⟩
end
end Go.Proofs.YtnaadajcehfmiaaGreatDoor
