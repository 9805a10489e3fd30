/- lang: giveUp, unwanted, on: a reader in memory. -/
import Derived.Test.YtnaadajcehfmiaaGreatDoorLxS
import Derived.Test.YtnaadajcehfmiaaGreatDoorLxP
namespace Go.Proofs.YtnaadajcehfmiaaGreatDoor
open Go.RowKit Go.Sort Go.Maps

/-- A fault's way out: a new fault, at a place. -/
def PanF (B a c : Nat) (w : World) (e : Ending) (w' : World) : Prop :=
  ∃ q, e = .panicked [{ v := .iface 26 (.pointer (some ⟨q, 0, none⟩)), recovered := false }] ∧ B ≤ q ∧ Blk w' q 33 #[.int .i64 (a : Int), .int .i64 (c : Int)] ∧ Below B w w'
theorem PanF.pre {B a c : Nat} {w0 w w' : World} {e : Ending} (h : PanF B a c w e w') (hb : Below B w0 w) : PanF B a c w0 e w' := by
  obtain ⟨q, h1, h2, h3, h4⟩ := h
  exact ⟨q, h1, h2, h3, hb.trans h4⟩
/-- A reader's cells. -/
def rdC (s : ByteArray) (fr : Nat) (tk : ByteArray) (bd : Bool) (nx o : Nat) (vN vL vH : Value) (gm : Nat) : Array Value :=
  #[.string s, .int .i64 (fr : Int), .string tk, .bool bd, .int .i64 (nx : Int), .int .i64 (o : Int), vN, vL, .int .i64 0, vH, .map (some gm)]

theorem giveUp_any (B a c : Nat) (w : World) (hB : B ≤ w.heap.size) : Calls Tryz.prog 23 #[.int .i64 (a : Int), .int .i64 (c : Int)] w (PanF B a c w) := by
  have k := Blk.new w 33 #[.int .i64 (a : Int), .int .i64 (c : Int)]
  have hb : Below B w (w.alloc (.cells #[.int .i64 (a : Int), .int .i64 (c : Int)] 33)) := (Below.refl B w).alloc hB _
  replace k := Lib.hid k
  replace hb := Lib.hid hb
  go_enter Tryz.func23, Tryz.ntmps23
  go_wp2_with fail
  exact ⟨rfl, _, rfl, hB, k.out, hb.out⟩

set_option maxRecDepth 100000 in
theorem unwanted_any (B p : Nat) (s : ByteArray) (fr : Nat) (tk : ByteArray) (bd : Bool) (nx o : Nat) (vN vL vH : Value) (gm : Nat) (w : World) (hB : B ≤ w.heap.size)
    (hk : Blk w p 42 (rdC s fr tk bd nx o vN vL vH gm)) :
    Calls Tryz.prog 22 #[.pointer (some ⟨p, 0, none⟩)] w (PanF B fr (if bd then 110 else 111) w) := by
  have c1 : w.cell? ⟨p, 1, none⟩ = some (.int .i64 (fr : Int)) := hk.cell 1
  have c3 : w.cell? ⟨p, 3, none⟩ = some (.bool bd) := hk.cell 3
  have hG := Lib.hid (fun c : Nat => giveUp_any B fr c w hB)
  clear hk
  cases bd
  · go_enter Tryz.func22, Tryz.ntmps22
    go_wp2_with fail
    refine (hG.out 111).mono ?_
    rintro e w' ⟨q, rfl, hq⟩
    exact ⟨rfl, q, rfl, hq⟩
  · go_enter Tryz.func22, Tryz.ntmps22
    go_wp2_with fail
    refine (hG.out 110).mono ?_
    rintro e w' ⟨q, rfl, hq⟩
    exact ⟨rfl, q, rfl, hq⟩

/-- What 'on' finds. -/
def OnR (s : ByteArray) (nx fr : Nat) (tk : ByteArray) (bd : Bool) (nx' : Nat) : Prop :=
  fr = skipT false (sl s) nx ∧ nx' ≤ s.size ∧ ((bd = false ∧ tokT (sl s) fr = some nx' ∧ tk = s.extract fr nx') ∨ (bd = true ∧ tokT (sl s) fr = none ∧ tk = ⟨#[]⟩))
def nxT (s : ByteArray) (nx : Nat) : Nat := match tokT (sl s) (skipT false (sl s) nx) with | some m => m | none => badT (sl s) (skipT false (sl s) nx)
theorem scan_val (s : ByteArray) (nx : Nat) (w : World) (hn : nx ≤ s.size) (hmax : s.size ≤ 1099511627776) :
    Calls Tryz.prog 20 #[.string s, .int .i64 (nx : Int)] w (fun e w' => e = .returned (.tuple #[.int .i64 (skipT false (sl s) nx : Int), .int .i64 (nxT s nx : Int), .bool (tokT (sl s) (skipT false (sl s) nx)).isSome]) ∧ w' = w) := by
  refine (scan_any s nx w hn hmax).mono ?_
  rintro e w' ⟨rfl, v4, v5, v6, rfl, h1, h2⟩
  refine ⟨?_, rfl⟩
  unfold nxT
  rcases h2 with ⟨m, h3, h4, h5⟩ | ⟨h3, h4, h5⟩
  · rw [h1, h3, h4, h5]; rfl
  · rw [h1, h3, h4, h5]; rfl
theorem nx_le {s : ByteArray} {nx : Nat} (hn : nx ≤ s.size) : skipT false (sl s) nx ≤ s.size ∧ nxT s nx ≤ s.size ∧ ((tokT (sl s) (skipT false (sl s) nx)).isSome = true → skipT false (sl s) nx ≤ nxT s nx) := by
  have hf : skipT false (sl s) nx ≤ (sl s).length := skipT_le (nt := false) (by rw [sl_len]; exact hn)
  refine ⟨by rw [← sl_len]; exact hf, ?_⟩
  unfold nxT
  rcases ht : tokT (sl s) (skipT false (sl s) nx) with _ | m
  · refine ⟨?_, fun h => by cases h⟩
    rw [← sl_len]
    exact badT_le hf ht
  · rcases Nat.lt_or_ge (skipT false (sl s) nx) (sl s).length with hlt | hge
    · have := tokT_bounds ht hlt
      rw [sl_len] at this
      exact ⟨this.2, fun _ => Nat.le_of_lt this.1⟩
    · unfold tokT at ht
      rw [List.getElem?_eq_none hge] at ht
      injection ht with ht
      rw [sl_len] at hf
      exact ⟨by simp only; omega, fun _ => by simp only; omega⟩
theorem gb_of {w w1 : World} (h : Below w.heap.size w w1) (r : Option Nat) : w.grownBy w1 r := ⟨h.os, h.tape, h.output, h.size, fun j hj _ => h.block j hj⟩

set_option maxRecDepth 100000 in
set_option maxHeartbeats 4000000 in
theorem on_any (p : Nat) (s : ByteArray) (fr : Nat) (tk : ByteArray) (bd : Bool) (nx o : Nat) (vN vL vH : Value) (gm : Nat) (w : World) (hmax : s.size ≤ 1099511627776) (hn : nx ≤ s.size)
    (hk : Blk w p 42 (rdC s fr tk bd nx o vN vL vH gm)) :
    Calls Tryz.prog 10 #[.pointer (some ⟨p, 0, none⟩)] w (fun e w' => e = .returned (.tuple #[]) ∧ ∃ fr' tk' bd' nx', OnR s nx fr' tk' bd' nx' ∧ Blk w' p 42 (rdC s fr' tk' bd' nx' o vN vL vH gm) ∧ w.grownBy w' (some p)) := by
  obtain ⟨f, hf⟩ : ∃ f, f = skipT false (sl s) nx := ⟨_, rfl⟩
  obtain ⟨m, hm⟩ : ∃ m, m = nxT s nx := ⟨_, rfl⟩
  obtain ⟨hl1, hl2, hl3⟩ := nx_le hn
  have cS0 := fun W => scan_val s nx W hn hmax
  rw [← hf] at cS0 hl1 hl3
  rw [← hm] at cS0 hl2 hl3
  have a0 : ∀ d os, (grow (redrawn w d) os).cell? ⟨p, 0, none⟩ = some (.string s) := cell_regrown (hk.cell 0)
  have a4 : ∀ d os, (grow (redrawn w d) os).cell? ⟨p, 4, none⟩ = some (.int .i64 (nx : Int)) := cell_regrown (hk.cell 4)
  rcases ht : tokT (sl s) f with _ | k
  · rw [ht] at cS0
    have cS : ∀ d os, Calls Tryz.prog 20 #[.string s, .int .i64 (nx : Int)] (grow (redrawn w d) os) fun e w'' => e = .returned (.tuple #[.int .i64 (f : Int), .int .i64 (m : Int), .bool false]) ∧ ∃ p : Regrown, w'' = grow (redrawn w p.d) p.os := fun d os => (cS0 _).mono (fun e w'' h => ⟨h.1, ⟨d, os⟩, h.2⟩)
    have hO : Hid (OnR s nx f ⟨#[]⟩ true m) := Lib.hid ⟨hf, hl2, .inr ⟨rfl, ht, rfl⟩⟩
    replace hk := Lib.hid hk
    replace hf := Lib.hid hf
    replace hm := Lib.hid hm
    clear ht cS0 hl3
    go_enter Tryz.func10, Tryz.ntmps10
    go_upto_region 0 with fail
    refine wp_region_quiet_below (by kernel_rfl) (by kernel_rfl) ?_
    iterate 8 (quiet_step (fail))
    quiet_step (exact cS _ _)
    iterate 7 (quiet_step (fail))
    refine wpQuiet_nil ?_
    intro w1 hw'
    have hE : Below w.heap.size w w1 := by
      obtain ⟨p, rfl⟩ := hw'
      exact below_regrown w p.d p.os
    clear hw' a0 a4 cS
    have kk : Blk w1 p 42 (rdC s fr tk bd nx o vN vL vH gm) := Blk.below hk.out hE
    have f1 := kk.frozen 1
    have f2 := kk.frozen 2
    have f3 := kk.frozen 3
    have f4 := kk.frozen 4
    have a0 : w1.cell? ⟨p, 0, none⟩ = some (.string s) := kk.cell 0
    have a1 : w1.cell? ⟨p, 1, none⟩ = some (.int .i64 (fr : Int)) := kk.cell 1
    have a2 : w1.cell? ⟨p, 2, none⟩ = some (.string tk) := kk.cell 2
    have a3 : w1.cell? ⟨p, 3, none⟩ = some (.bool bd) := kk.cell 3
    have a4 : w1.cell? ⟨p, 4, none⟩ = some (.int .i64 (nx : Int)) := kk.cell 4
    replace kk := Lib.hid kk
    replace hE := Lib.hid hE
    clear hk
    go_wp2_with fail
    go_end0
    exact ⟨rfl, f, _, true, m, hO.out, ((((kk.out.set_ 1 (.int .i64 (f : Int))).set_ 4 (.int .i64 (m : Int))).set_ 3 (.bool true)).set_ 2 (.string ⟨#[]⟩)), (gb_set (gb_set (gb_set (gb_set (gb_of hE.out (some p)) 1 (.int .i64 (f : Int))) 4 (.int .i64 (m : Int))) 3 (.bool true)) 2 (.string ⟨#[]⟩))⟩
  · have hmk : m = k := by rw [hm, nxT, ← hf, ht]
    subst hmk
    have hfm : f ≤ m := hl3 (by rw [ht]; rfl)
    rw [ht] at cS0
    have cS : ∀ d os, Calls Tryz.prog 20 #[.string s, .int .i64 (nx : Int)] (grow (redrawn w d) os) fun e w'' => e = .returned (.tuple #[.int .i64 (f : Int), .int .i64 (m : Int), .bool true]) ∧ ∃ p : Regrown, w'' = grow (redrawn w p.d) p.os := fun d os => (cS0 _).mono (fun e w'' h => ⟨h.1, ⟨d, os⟩, h.2⟩)
    have hO : Hid (OnR s nx f (s.extract f m) false m) := Lib.hid ⟨hf, hl2, .inl ⟨rfl, ht, rfl⟩⟩
    replace hk := Lib.hid hk
    replace hf := Lib.hid hf
    replace hm := Lib.hid hm
    clear ht cS0 hl3
    go_enter Tryz.func10, Tryz.ntmps10
    go_upto_region 0 with fail
    refine wp_region_quiet_below (by kernel_rfl) (by kernel_rfl) ?_
    iterate 8 (quiet_step (fail))
    quiet_step (exact cS _ _)
    iterate 7 (quiet_step (fail))
    refine wpQuiet_nil ?_
    intro w1 hw'
    have hE : Below w.heap.size w w1 := by
      obtain ⟨p, rfl⟩ := hw'
      exact below_regrown w p.d p.os
    clear hw' a0 a4 cS
    have kk : Blk w1 p 42 (rdC s fr tk bd nx o vN vL vH gm) := Blk.below hk.out hE
    have f1 := kk.frozen 1
    have f2 := kk.frozen 2
    have f3 := kk.frozen 3
    have f4 := kk.frozen 4
    have a0 : w1.cell? ⟨p, 0, none⟩ = some (.string s) := kk.cell 0
    have a1 : w1.cell? ⟨p, 1, none⟩ = some (.int .i64 (fr : Int)) := kk.cell 1
    have a2 : w1.cell? ⟨p, 2, none⟩ = some (.string tk) := kk.cell 2
    have a3 : w1.cell? ⟨p, 3, none⟩ = some (.bool bd) := kk.cell 3
    have a4 : w1.cell? ⟨p, 4, none⟩ = some (.int .i64 (nx : Int)) := kk.cell 4
    replace kk := Lib.hid kk
    replace hE := Lib.hid hE
    clear hk
    have hfmI : (f : Int) ≤ (m : Int) := by omega
    have hmI : (m : Int) ≤ (s.size : Int) := by omega
    go_wp2_with fail
    go_end0
    exact ⟨rfl, f, _, false, m, hO.out, (((((kk.out.set_ 1 (.int .i64 (f : Int))).set_ 4 (.int .i64 (m : Int))).set_ 3 (.bool false)).set_ 2 (.string ⟨#[]⟩)).set_ 2 (.string (s.extract f m))), (gb_set (gb_set (gb_set (gb_set (gb_set (gb_of hE.out (some p)) 1 (.int .i64 (f : Int))) 4 (.int .i64 (m : Int))) 3 (.bool false)) 2 (.string ⟨#[]⟩)) 2 (.string (s.extract f m)))⟩
end Go.Proofs.YtnaadajcehfmiaaGreatDoor
