/- lang's writer: the plain mirror; bound, Len, the methods of single signs. -/
import Derived.Test.YtnaadajcehfmiaaGreatDoorLwA
namespace Go.Proofs.YtnaadajcehfmiaaGreatDoor
open Go.RowKit Go.Sort Go.Maps

/-- A part as it comes in. -/
structure RNo where
  kind : Nat
  text : List Nat
  a : Int
  b : Int
  n : Int
instance : Inhabited RNo := ⟨⟨0, [], 0, 0, 0⟩⟩
def encR (r : RNo) : List Value := [.int .u8 (r.kind : Int), .string (mkS r.text), .int .i64 r.a, .int .i64 r.b, .int .i64 r.n]
def Nod.raw (n : Nod) : RNo := ⟨n.kind, n.text, n.a, n.b, n.n⟩
/-- How tightly a part is bound. -/
def bndK (k : Nat) : Nat := if k = 6 ∨ k = 7 then 1 else if k = 8 ∨ k = 9 then 2 else if k = 5 then 3 else if k = 10 then 4 else 5
/-- A sign between two parts. -/
def sgnW (ti : Bool) (k : Nat) : List Nat := if k = 6 then (if ti then [43] else [32, 43, 32]) else if k = 7 then (if ti then [45] else [32, 45, 32]) else if k = 8 then [42] else [47]
def pairW (pw : Nat → Nat → List Nat → List Nat) (r : RNo) (sg : List Nat) (l : Nat) (b : List Nat) : List Nat := pw r.b.toNat (l + 1) (pw r.a.toNat l b ++ sg)
/-- What a part writes. -/
def kindW (pw : Nat → Nat → List Nat → List Nat) (ti : Bool) (r : RNo) (b : List Nat) : List Nat :=
  if r.kind = 2 then b ++ [105] else if r.kind = 3 then b ++ [122] else if r.kind = 5 then pw r.a.toNat 3 (b ++ [45])
  else if r.kind = 10 then pw r.a.toNat 5 b ++ [94] ++ digL r.n.toNat
  else if r.kind = 6 ∨ r.kind = 7 then pairW pw r (sgnW ti r.kind) 1 b else if r.kind = 8 ∨ r.kind = 9 then pairW pw r (sgnW ti r.kind) 2 b else b ++ r.text
def partW (N : List RNo) (ti : Bool) : Nat → Nat → Nat → List Nat → List Nat
  | 0, _, _, b => b
  | f + 1, at_, least, b =>
    if 16384 < b.length then b
    else if bndK N[at_]!.kind < least then kindW (partW N ti f) ti N[at_]! (b ++ [40]) ++ [41] else kindW (partW N ti f) ti N[at_]! b
/-- Parts in memory ahead of B, to be read. -/
def NodesK (B : Nat) (W : World) (v : Value) (N : List RNo) : Prop :=
  ∃ A c, v = .slice A N.length c ∧ (0 < N.length → ∃ g o, A = some ⟨g, o, none⟩ ∧ g < B ∧ ∀ i, i < N.length → ∀ (j : Nat) (u : Value), (encR N[i]!)[j]? = some u → W.cell? ⟨g, o + i * 5 + j, none⟩ = some u)
theorem NodesK.below {B : Nat} {W W' : World} {v : Value} {N : List RNo} (h : NodesK B W v N) (hb : Below B W W') : NodesK B W' v N := by
  obtain ⟨A, c, rfl, h⟩ := h
  refine ⟨A, c, rfl, fun h0 => ?_⟩
  obtain ⟨g, o, e, hg, hc⟩ := h h0
  refine ⟨g, o, e, hg, fun i hi j u hu => ?_⟩
  rw [hb.cell (show (⟨g, o + i * 5 + j, none⟩ : Addr).block < B from hg)]
  exact hc i hi j u hu
section
variable {B x gk : Nat} {vN vL : Value} {m : Int} {ti : Bool} {DK : DataW Unit} {b : List Nat} {w w' : World}
set_option maxRecDepth 100000 in
theorem wLen (h : WrS B x gk DK vN vL m ti b w) : Calls Tryz.prog 61 #[.pointer (some ⟨x, 4, none⟩)] w (fun e w' => e = .returned (.int .i64 (b.length : Int)) ∧ w' = w) := by
  obtain ⟨ad, vB, had, hk, hrow, hM, -⟩ := h
  obtain ⟨AB, cB, rfl, -, -⟩ := own_form hrow
  obtain ⟨nb, hnb⟩ : ∃ n, n = b.length := ⟨_, rfl⟩
  rw [← hnb] at hk ⊢
  have a5 : w.cell? ⟨x, 5, none⟩ = some (.slice AB nb cB) := hk.cell 5
  replace hnb := Lib.hid hnb
  clear hk hrow hM had
  go_enter Tryz.func61, Tryz.ntmps61
  go_wp2_with fail
  go_ret
  exact ⟨rfl, rfl⟩
theorem WrS.alloc (h : WrS B x gk DK vN vL m ti b w) (o : Obj) : WrS B x gk DK vN vL m ti b (w.alloc o) := h.below ((Below.refl _ w).alloc (Nat.le_refl _) o)
theorem bound_any (k : Nat) (w : World) : Calls Tryz.prog 73 #[.int .u8 (k : Int)] w (fun e w' => e = .returned (.int .i64 (bndK k : Int)) ∧ w' = w) := by
  by_cases h6 : k = 6
  case pos =>
    have hI : ((k : Int) == 6) = true := by rw [h6]; rfl
    have hr : bndK k = 1 := by rw [h6]; rfl
    rw [hr]
    clear h6  hr
    go_enter Tryz.func73, Tryz.ntmps73
    go_wp2_with fail
    go_ret
    exact ⟨rfl, rfl⟩
  case neg =>
    have hI6 : ((k : Int) == 6) = false := by rw [beq_eq_false_iff_ne]; omega
    by_cases h7 : k = 7
    case pos =>
      have hI : ((k : Int) == 7) = true := by rw [h7]; rfl
      have hr : bndK k = 1 := by rw [h7]; rfl
      rw [hr]
      clear h7 h6 hr
      go_enter Tryz.func73, Tryz.ntmps73
      go_wp2_with fail
      go_ret
      exact ⟨rfl, rfl⟩
    case neg =>
      have hI7 : ((k : Int) == 7) = false := by rw [beq_eq_false_iff_ne]; omega
      by_cases h8 : k = 8
      case pos =>
        have hI : ((k : Int) == 8) = true := by rw [h8]; rfl
        have hr : bndK k = 2 := by rw [h8]; rfl
        rw [hr]
        clear h8 h6 h7 hr
        go_enter Tryz.func73, Tryz.ntmps73
        go_wp2_with fail
        go_ret
        exact ⟨rfl, rfl⟩
      case neg =>
        have hI8 : ((k : Int) == 8) = false := by rw [beq_eq_false_iff_ne]; omega
        by_cases h9 : k = 9
        case pos =>
          have hI : ((k : Int) == 9) = true := by rw [h9]; rfl
          have hr : bndK k = 2 := by rw [h9]; rfl
          rw [hr]
          clear h9 h6 h7 h8 hr
          go_enter Tryz.func73, Tryz.ntmps73
          go_wp2_with fail
          go_ret
          exact ⟨rfl, rfl⟩
        case neg =>
          have hI9 : ((k : Int) == 9) = false := by rw [beq_eq_false_iff_ne]; omega
          by_cases h5 : k = 5
          case pos =>
            have hI : ((k : Int) == 5) = true := by rw [h5]; rfl
            have hr : bndK k = 3 := by rw [h5]; rfl
            rw [hr]
            clear h5 h6 h7 h8 h9 hr
            go_enter Tryz.func73, Tryz.ntmps73
            go_wp2_with fail
            go_ret
            exact ⟨rfl, rfl⟩
          case neg =>
            have hI5 : ((k : Int) == 5) = false := by rw [beq_eq_false_iff_ne]; omega
            by_cases h10 : k = 10
            case pos =>
              have hI : ((k : Int) == 10) = true := by rw [h10]; rfl
              have hr : bndK k = 4 := by rw [h10]; rfl
              rw [hr]
              clear h10 h6 h7 h8 h9 h5 hr
              go_enter Tryz.func73, Tryz.ntmps73
              go_wp2_with fail
              go_ret
              exact ⟨rfl, rfl⟩
            case neg =>
              have hI10 : ((k : Int) == 10) = false := by rw [beq_eq_false_iff_ne]; omega
              have hr : bndK k = 5 := by simp [bndK, h5, h6, h7, h8, h9, h10]
              rw [hr]
              clear h5 h6 h7 h8 h9 h10 hr
              go_enter Tryz.func73, Tryz.ntmps73
              go_wp2_with fail
              go_ret
              exact ⟨rfl, rfl⟩
set_option maxRecDepth 100000 in
/-- i -/
theorem w_i (r : RNo) (h : WrS B x gk DK vN vL m ti b w) (hl : b.length ≤ 100000) : Calls Tryz.prog 51 #[.pointer (some ⟨x, 0, none⟩), .agg #[.int .u8 (r.kind : Int), .string (mkS r.text), .int .i64 r.a, .int .i64 r.b, .int .i64 r.n]] w (fun e w' => e = .returned (.tuple #[]) ∧ WrS B x gk DK vN vL m ti (b ++ [105]) w' ∧ Below B w w' ∧ TwU x w w') := by
  have hlt := h.lt
  have cB := Lib.hid (wWriteByte (h.alloc (.cells #[.int .u8 (r.kind : Int), .string (mkS r.text), .int .i64 r.a, .int .i64 r.b, .int .i64 r.n] 52)) 105 (by omega) (by omega))
  have hBW : Hid (Below B w (w.alloc (.cells #[.int .u8 (r.kind : Int), .string (mkS r.text), .int .i64 r.a, .int .i64 r.b, .int .i64 r.n] 52))) := Lib.hid ((Below.refl B w).alloc hlt.2 _)
  have hTW : Hid (TwU x w (w.alloc (.cells #[.int .u8 (r.kind : Int), .string (mkS r.text), .int .i64 r.a, .int .i64 r.b, .int .i64 r.n] 52))) := Lib.hid (TwU.below ((Below.refl _ w).alloc (Nat.le_refl _) _))
  replace h := Lib.hid h
  go_enter Tryz.func51, Tryz.ntmps51
  go_wp2_with fail
  refine cB.out.mono ?_
  rintro en w2 ⟨⟨v, rfl⟩, h2, hB2, hT2⟩
  replace h2 := Lib.hid h2
  go_wp2_with fail
  go_end0
  exact ⟨rfl, h2.out, hBW.out.trans hB2, hTW.out.trans hT2⟩
set_option maxRecDepth 100000 in
/-- z -/
theorem w_z (r : RNo) (h : WrS B x gk DK vN vL m ti b w) (hl : b.length ≤ 100000) : Calls Tryz.prog 52 #[.pointer (some ⟨x, 0, none⟩), .agg #[.int .u8 (r.kind : Int), .string (mkS r.text), .int .i64 r.a, .int .i64 r.b, .int .i64 r.n]] w (fun e w' => e = .returned (.tuple #[]) ∧ WrS B x gk DK vN vL m ti (b ++ [122]) w' ∧ Below B w w' ∧ TwU x w w') := by
  have hlt := h.lt
  have cB := Lib.hid (wWriteByte (h.alloc (.cells #[.int .u8 (r.kind : Int), .string (mkS r.text), .int .i64 r.a, .int .i64 r.b, .int .i64 r.n] 52)) 122 (by omega) (by omega))
  have hBW : Hid (Below B w (w.alloc (.cells #[.int .u8 (r.kind : Int), .string (mkS r.text), .int .i64 r.a, .int .i64 r.b, .int .i64 r.n] 52))) := Lib.hid ((Below.refl B w).alloc hlt.2 _)
  have hTW : Hid (TwU x w (w.alloc (.cells #[.int .u8 (r.kind : Int), .string (mkS r.text), .int .i64 r.a, .int .i64 r.b, .int .i64 r.n] 52))) := Lib.hid (TwU.below ((Below.refl _ w).alloc (Nat.le_refl _) _))
  replace h := Lib.hid h
  go_enter Tryz.func52, Tryz.ntmps52
  go_wp2_with fail
  refine cB.out.mono ?_
  rintro en w2 ⟨⟨v, rfl⟩, h2, hB2, hT2⟩
  replace h2 := Lib.hid h2
  go_wp2_with fail
  go_end0
  exact ⟨rfl, h2.out, hBW.out.trans hB2, hTW.out.trans hT2⟩
set_option maxRecDepth 100000 in
/-- atom -/
theorem w_atom (r : RNo) (hr : Byt r.text) (hl2 : r.text.length ≤ 16384) (h : WrS B x gk DK vN vL m ti b w) (hl : b.length ≤ 100000) : Calls Tryz.prog 50 #[.pointer (some ⟨x, 0, none⟩), .agg #[.int .u8 (r.kind : Int), .string (mkS r.text), .int .i64 r.a, .int .i64 r.b, .int .i64 r.n]] w (fun e w' => e = .returned (.tuple #[]) ∧ WrS B x gk DK vN vL m ti (b ++ r.text) w' ∧ Below B w w' ∧ TwU x w w') := by
  have hlt := h.lt
  have kb := Blk.new w 52 #[.int .u8 (r.kind : Int), .string (mkS r.text), .int .i64 r.a, .int .i64 r.b, .int .i64 r.n]
  have cB0 := fun W (hb : Below (w.alloc (.cells #[.int .u8 (r.kind : Int), .string (mkS r.text), .int .i64 r.a, .int .i64 r.b, .int .i64 r.n] 52)).heap.size (w.alloc (.cells #[.int .u8 (r.kind : Int), .string (mkS r.text), .int .i64 r.a, .int .i64 r.b, .int .i64 r.n] 52)) W) => wWriteString ((h.alloc (.cells #[.int .u8 (r.kind : Int), .string (mkS r.text), .int .i64 r.a, .int .i64 r.b, .int .i64 r.n] 52)).below hb) r.text hr (by omega)
  have hBW : Hid (Below B w (w.alloc (.cells #[.int .u8 (r.kind : Int), .string (mkS r.text), .int .i64 r.a, .int .i64 r.b, .int .i64 r.n] 52))) := Lib.hid ((Below.refl B w).alloc hlt.2 _)
  have hBs : B ≤ (w.alloc (.cells #[.int .u8 (r.kind : Int), .string (mkS r.text), .int .i64 r.a, .int .i64 r.b, .int .i64 r.n] 52)).heap.size := Nat.le_trans hlt.2 hBW.out.size
  have hTW : Hid (TwU x w (w.alloc (.cells #[.int .u8 (r.kind : Int), .string (mkS r.text), .int .i64 r.a, .int .i64 r.b, .int .i64 r.n] 52))) := Lib.hid (TwU.below ((Below.refl _ w).alloc (Nat.le_refl _) _))
  generalize hW : w.alloc (.cells #[.int .u8 (r.kind : Int), .string (mkS r.text), .int .i64 r.a, .int .i64 r.b, .int .i64 r.n] 52) = w1 at kb cB0 hBW hBs hTW ⊢
  have q1 : ∀ d os, (grow (redrawn w1 d) os).cell? ⟨w.heap.size, 1, none⟩ = some (.string (mkS r.text)) := cell_regrown (kb.cell 1)
  replace hW := Lib.hid hW
  replace cB0 := Lib.hid cB0
  replace h := Lib.hid h
  clear kb
  go_enter Tryz.func50, Tryz.ntmps50
  go_upto_region 1 with fail
  rw [hW.out]
  refine wp_region_tail_below 5 (by kernel_rfl) (by kernel_rfl) ?_
  simp only [List.take_succ_cons, List.take_zero, List.drop_succ_cons, List.drop_zero]
  iterate 5 (quiet_step (fail))
  refine wpQuiet_nil ?_
  intro w2 hb2
  have cB := Lib.hid (cB0.out w2 hb2)
  replace hBW := Lib.hid (hBW.out.trans (hb2.mono hBs))
  replace hTW := Lib.hid (hTW.out.trans (TwU.below hb2))
  clear hb2 q1 cB0
  go_wp2_with fail
  refine cB.out.mono ?_
  rintro en w3 ⟨⟨v, rfl⟩, h3, hB3, hT3⟩
  replace h3 := Lib.hid h3
  go_wp2_with fail
  go_end0
  exact ⟨rfl, h3.out, hBW.out.trans hB3, hTW.out.trans hT3⟩
end
end Go.Proofs.YtnaadajcehfmiaaGreatDoor
