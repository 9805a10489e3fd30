/- Package lamin: no lamination. -/
import Derived.Test.YtoaggmegmgdgbaaGreatLamJ
namespace Go.Proofs.YtoaggmegmgdgbaaGreat
open Go.RowKit Go.Sort

set_option maxRecDepth 100000 in
set_option maxHeartbeats 2000000 in
/-- lamin.Gaps: nil -/
theorem lGaps_nil (w : World) :
    Calls Tryz.prog 28 #[.pointer none] w (RetVal (.slice none 0 0) w) := by
  have hN := Lib.hid (fun W (_ : Below w.heap.size w W) => lnone_nil W)
  have hB := Lib.hid (Below.refl w.heap.size w)
  go_enter Tryz.func28, Tryz.ntmps28
  go_wp2_with fail
  refine (hN.out _ hB.out).mono ?_
  rintro en w2 ⟨rfl, hb⟩
  replace hB := Lib.hid (hB.out.trans (hb.mono hB.out.size))
  clear hb hN
  go_wp2_with fail
  go_ret
  exact ⟨rfl, hB.out⟩

set_option maxRecDepth 100000 in
set_option maxHeartbeats 2000000 in
/-- lamin.Copy: nil -/
theorem lCopy_nil (w : World) :
    Calls Tryz.prog 38 #[.pointer none] w (RetVal (.pointer none) w) := by
  have hN := Lib.hid (fun W (_ : Below w.heap.size w W) => lnone_nil W)
  have hB := Lib.hid (Below.refl w.heap.size w)
  go_enter Tryz.func38, Tryz.ntmps38
  go_wp2_with fail
  refine (hN.out _ hB.out).mono ?_
  rintro en w2 ⟨rfl, hb⟩
  replace hB := Lib.hid (hB.out.trans (hb.mono hB.out.size))
  clear hb hN
  go_wp2_with fail
  go_ret
  exact ⟨rfl, hB.out⟩

set_option maxRecDepth 100000 in
set_option maxHeartbeats 2000000 in
/-- lamin.Close: nil -/
theorem lClose_nil (d : Int) (w : World) :
    Calls Tryz.prog 39 #[.pointer none, .int .i64 d] w (RetVal (.int .i64 1) w) := by
  have hN := Lib.hid (fun W (_ : Below w.heap.size w W) => lnone_nil W)
  have hB := Lib.hid (Below.refl w.heap.size w)
  go_enter Tryz.func39, Tryz.ntmps39
  go_wp2_with fail
  refine (hN.out _ hB.out).mono ?_
  rintro en w2 ⟨rfl, hb⟩
  replace hB := Lib.hid (hB.out.trans (hb.mono hB.out.size))
  clear hb hN
  go_wp2_with fail
  go_ret
  exact ⟨rfl, hB.out⟩

set_option maxRecDepth 100000 in
set_option maxHeartbeats 2000000 in
/-- lamin.Apart: nil -/
theorem lApart_nil (n1 : Bool) (a1 d1 : ByteArray) (n2 : Bool) (a2 d2 : ByteArray) (w : World) :
    Calls Tryz.prog 37 #[.pointer none, .agg #[.bool n1, .string a1, .string d1], .agg #[.bool n2, .string a2, .string d2]] w (RetVal (.tuple #[.bool false, .int .i64 1]) w) := by
  have hN := Lib.hid (fun W (_ : Below w.heap.size w W) => lnone_nil W)
  have hBW : Below w.heap.size w ((w.alloc (.cells #[.bool n1, .string a1, .string d1] 26)).alloc (.cells #[.bool n2, .string a2, .string d2] 26)) := (((Below.refl _ w).alloc (Nat.le_refl _) _).alloc (by simp) _)
  have kk0 := ((Blk.new w 26 #[.bool n1, .string a1, .string d1]).alloc (.cells #[.bool n2, .string a2, .string d2] 26))
  have kk1 := (Blk.new (w.alloc (.cells #[.bool n1, .string a1, .string d1] 26)) 26 #[.bool n2, .string a2, .string d2])
  simp only [World.size_alloc] at kk1
  have K := Lib.hid ((KeepT.one kk0).snoc kk1)
  have hB := Lib.hid hBW
  clear hBW kk0 kk1
  go_enter Tryz.func37, Tryz.ntmps37
  go_upto_region 1 with fail
  generalize hW : ((w.alloc (.cells #[.bool n1, .string a1, .string d1] 26)).alloc (.cells #[.bool n2, .string a2, .string d2] 26)) = w1 at hB K ⊢
  clear hW K
  go_wp2_with fail
  refine (hN.out _ hB.out).mono ?_
  rintro en w2 ⟨rfl, hb⟩
  replace hB := Lib.hid (hB.out.trans (hb.mono hB.out.size))
  clear hb hN
  go_wp2_with fail
  go_ret2
  exact ⟨rfl, hB.out⟩

set_option maxRecDepth 100000 in
set_option maxHeartbeats 2000000 in
/-- lamin.Open: nil -/
theorem lOpen_nil (d : Int) (w : World) :
    Calls Tryz.prog 40 #[.pointer none, .int .i64 d] w (RetVal (.tuple #[leaf0, .bool false, .int .i64 1]) w) := by
  have hN := Lib.hid (fun W (_ : Below w.heap.size w W) => lnone_nil W)
  have hBW : Below w.heap.size w (((w.alloc (.cells #[.pointer none] 63)).alloc (.cells #[.int .i64 d] 3)).alloc (.cells #[.bool false, .string ⟨#[]⟩, .string ⟨#[]⟩, .bool false, .string ⟨#[]⟩, .string ⟨#[]⟩] 38)) := ((((Below.refl _ w).alloc (Nat.le_refl _) _).alloc (by simp) _).alloc (by simp; omega) _)
  have kk0 := (((Blk.new w 63 #[.pointer none]).alloc (.cells #[.int .i64 d] 3)).alloc (.cells #[.bool false, .string ⟨#[]⟩, .string ⟨#[]⟩, .bool false, .string ⟨#[]⟩, .string ⟨#[]⟩] 38))
  have kk1 := ((Blk.new (w.alloc (.cells #[.pointer none] 63)) 3 #[.int .i64 d]).alloc (.cells #[.bool false, .string ⟨#[]⟩, .string ⟨#[]⟩, .bool false, .string ⟨#[]⟩, .string ⟨#[]⟩] 38))
  simp only [World.size_alloc] at kk1
  have kk2 := (Blk.new ((w.alloc (.cells #[.pointer none] 63)).alloc (.cells #[.int .i64 d] 3)) 38 #[.bool false, .string ⟨#[]⟩, .string ⟨#[]⟩, .bool false, .string ⟨#[]⟩, .string ⟨#[]⟩])
  simp only [World.size_alloc] at kk2
  have K := Lib.hid (((KeepT.one kk0).snoc kk1).snoc kk2)
  have hB := Lib.hid hBW
  clear hBW kk0 kk1 kk2
  go_enter Tryz.func40, Tryz.ntmps40
  go_upto_region 1 with fail
  generalize hW : (((w.alloc (.cells #[.pointer none] 63)).alloc (.cells #[.int .i64 d] 3)).alloc (.cells #[.bool false, .string ⟨#[]⟩, .string ⟨#[]⟩, .bool false, .string ⟨#[]⟩, .string ⟨#[]⟩] 38)) = w1 at hB K ⊢
  clear hW
  have pp0 : w1.cell? ⟨w.heap.size, 0, none⟩ = some (.pointer none) := (K.out.at_ 0 rfl).cell 0
  go_wp2_with fail
  refine (hN.out _ hB.out).mono ?_
  rintro en w2 ⟨rfl, hb⟩
  replace hB := Lib.hid (hB.out.trans (hb.mono hB.out.size))
  replace K := Lib.hid ((K.out.below hb))
  clear hb hN
  clear pp0 
  have f20 := (K.out.at_ 2 rfl).frozen 0
  have f21 := (K.out.at_ 2 rfl).frozen 1
  have f22 := (K.out.at_ 2 rfl).frozen 2
  have f23 := (K.out.at_ 2 rfl).frozen 3
  have f24 := (K.out.at_ 2 rfl).frozen 4
  have f25 := (K.out.at_ 2 rfl).frozen 5
  have rr0 : w2.cell? ⟨w.heap.size + 1 + 1, 0, none⟩ = some (.bool false) := (K.out.at_ 2 rfl).cell 0
  have rr1 : w2.cell? ⟨w.heap.size + 1 + 1, 1, none⟩ = some (.string ⟨#[]⟩) := (K.out.at_ 2 rfl).cell 1
  have rr2 : w2.cell? ⟨w.heap.size + 1 + 1, 2, none⟩ = some (.string ⟨#[]⟩) := (K.out.at_ 2 rfl).cell 2
  have rr3 : w2.cell? ⟨w.heap.size + 1 + 1, 3, none⟩ = some (.bool false) := (K.out.at_ 2 rfl).cell 3
  have rr4 : w2.cell? ⟨w.heap.size + 1 + 1, 4, none⟩ = some (.string ⟨#[]⟩) := (K.out.at_ 2 rfl).cell 4
  have rr5 : w2.cell? ⟨w.heap.size + 1 + 1, 5, none⟩ = some (.string ⟨#[]⟩) := (K.out.at_ 2 rfl).cell 5
  have KZ := Lib.hid (Blk.set_ (Blk.set_ (Blk.set_ (Blk.set_ (Blk.set_ (Blk.set_ (K.out.at_ 2 rfl) 0 (.bool false)) 1 (.string ⟨#[]⟩)) 2 (.string ⟨#[]⟩)) 3 (.bool false)) 4 (.string ⟨#[]⟩)) 5 (.string ⟨#[]⟩))
  have hBZ := Lib.hid ((((((hB.out.setCell (p := ⟨w.heap.size + 1 + 1, 0, none⟩) (by simp; try omega) (.bool false)).setCell (p := ⟨w.heap.size + 1 + 1, 1, none⟩) (by simp; try omega) (.string ⟨#[]⟩)).setCell (p := ⟨w.heap.size + 1 + 1, 2, none⟩) (by simp; try omega) (.string ⟨#[]⟩)).setCell (p := ⟨w.heap.size + 1 + 1, 3, none⟩) (by simp; try omega) (.bool false)).setCell (p := ⟨w.heap.size + 1 + 1, 4, none⟩) (by simp; try omega) (.string ⟨#[]⟩)).setCell (p := ⟨w.heap.size + 1 + 1, 5, none⟩) (by simp; try omega) (.string ⟨#[]⟩))
  clear K hB
  go_wp2_with fail
  have q0 := KZ.out.cell 0
  have q1 := KZ.out.cell 1
  have q2 := KZ.out.cell 2
  have q3 := KZ.out.cell 3
  have q4 := KZ.out.cell 4
  have q5 := KZ.out.cell 5
  refine bodyPost_ret (v := .tuple #[.agg #[.bool false, .string ⟨#[]⟩, .string ⟨#[]⟩, .bool false, .string ⟨#[]⟩, .string ⟨#[]⟩], .bool false, .int .i64 1]) (by simp [results, Tryz.results40, go_sem, q0, q1, q2, q3, q4, q5]) rfl ⟨rfl, hBZ.out⟩

set_option maxRecDepth 100000 in
set_option maxHeartbeats 2000000 in
/-- lamin.Gaps: not -/
theorem lGaps_not (w : World) (x : Nat) (v : Value) (hx : Blk w x 103 #[.bool false, v]) :
    Calls Tryz.prog 28 #[.pointer (some ⟨x, 0, none⟩)] w (RetVal (.slice none 0 0) w) := by
  have hN := Lib.hid (fun W (h : Below w.heap.size w W) => lnone_any x false v W (Blk.below hx h))
  clear hx
  have hB := Lib.hid (Below.refl w.heap.size w)
  go_enter Tryz.func28, Tryz.ntmps28
  go_wp2_with fail
  refine (hN.out _ hB.out).mono ?_
  rintro en w2 ⟨rfl, hb⟩
  replace hB := Lib.hid (hB.out.trans (hb.mono hB.out.size))
  clear hb hN
  go_wp2_with fail
  go_ret
  exact ⟨rfl, hB.out⟩

set_option maxRecDepth 100000 in
set_option maxHeartbeats 2000000 in
/-- lamin.Copy: not -/
theorem lCopy_not (w : World) (x : Nat) (v : Value) (hx : Blk w x 103 #[.bool false, v]) :
    Calls Tryz.prog 38 #[.pointer (some ⟨x, 0, none⟩)] w (RetVal (.pointer none) w) := by
  have hN := Lib.hid (fun W (h : Below w.heap.size w W) => lnone_any x false v W (Blk.below hx h))
  clear hx
  have hB := Lib.hid (Below.refl w.heap.size w)
  go_enter Tryz.func38, Tryz.ntmps38
  go_wp2_with fail
  refine (hN.out _ hB.out).mono ?_
  rintro en w2 ⟨rfl, hb⟩
  replace hB := Lib.hid (hB.out.trans (hb.mono hB.out.size))
  clear hb hN
  go_wp2_with fail
  go_ret
  exact ⟨rfl, hB.out⟩

set_option maxRecDepth 100000 in
set_option maxHeartbeats 2000000 in
/-- lamin.Close: not -/
theorem lClose_not (d : Int) (w : World) (x : Nat) (v : Value) (hx : Blk w x 103 #[.bool false, v]) :
    Calls Tryz.prog 39 #[.pointer (some ⟨x, 0, none⟩), .int .i64 d] w (RetVal (.int .i64 1) w) := by
  have hN := Lib.hid (fun W (h : Below w.heap.size w W) => lnone_any x false v W (Blk.below hx h))
  clear hx
  have hB := Lib.hid (Below.refl w.heap.size w)
  go_enter Tryz.func39, Tryz.ntmps39
  go_wp2_with fail
  refine (hN.out _ hB.out).mono ?_
  rintro en w2 ⟨rfl, hb⟩
  replace hB := Lib.hid (hB.out.trans (hb.mono hB.out.size))
  clear hb hN
  go_wp2_with fail
  go_ret
  exact ⟨rfl, hB.out⟩

set_option maxRecDepth 100000 in
set_option maxHeartbeats 2000000 in
/-- lamin.Apart: not -/
theorem lApart_not (n1 : Bool) (a1 d1 : ByteArray) (n2 : Bool) (a2 d2 : ByteArray) (w : World) (x : Nat) (v : Value) (hx : Blk w x 103 #[.bool false, v]) :
    Calls Tryz.prog 37 #[.pointer (some ⟨x, 0, none⟩), .agg #[.bool n1, .string a1, .string d1], .agg #[.bool n2, .string a2, .string d2]] w (RetVal (.tuple #[.bool false, .int .i64 1]) w) := by
  have hN := Lib.hid (fun W (h : Below w.heap.size w W) => lnone_any x false v W (Blk.below hx h))
  clear hx
  have hBW : Below w.heap.size w ((w.alloc (.cells #[.bool n1, .string a1, .string d1] 26)).alloc (.cells #[.bool n2, .string a2, .string d2] 26)) := (((Below.refl _ w).alloc (Nat.le_refl _) _).alloc (by simp) _)
  have kk0 := ((Blk.new w 26 #[.bool n1, .string a1, .string d1]).alloc (.cells #[.bool n2, .string a2, .string d2] 26))
  have kk1 := (Blk.new (w.alloc (.cells #[.bool n1, .string a1, .string d1] 26)) 26 #[.bool n2, .string a2, .string d2])
  simp only [World.size_alloc] at kk1
  have K := Lib.hid ((KeepT.one kk0).snoc kk1)
  have hB := Lib.hid hBW
  clear hBW kk0 kk1
  go_enter Tryz.func37, Tryz.ntmps37
  go_upto_region 1 with fail
  generalize hW : ((w.alloc (.cells #[.bool n1, .string a1, .string d1] 26)).alloc (.cells #[.bool n2, .string a2, .string d2] 26)) = w1 at hB K ⊢
  clear hW K
  go_wp2_with fail
  refine (hN.out _ hB.out).mono ?_
  rintro en w2 ⟨rfl, hb⟩
  replace hB := Lib.hid (hB.out.trans (hb.mono hB.out.size))
  clear hb hN
  go_wp2_with fail
  go_ret2
  exact ⟨rfl, hB.out⟩

set_option maxRecDepth 100000 in
set_option maxHeartbeats 2000000 in
/-- lamin.Open: not -/
theorem lOpen_not (d : Int) (w : World) (x : Nat) (v : Value) (hx : Blk w x 103 #[.bool false, v]) :
    Calls Tryz.prog 40 #[.pointer (some ⟨x, 0, none⟩), .int .i64 d] w (RetVal (.tuple #[leaf0, .bool false, .int .i64 1]) w) := by
  have hN := Lib.hid (fun W (h : Below w.heap.size w W) => lnone_any x false v W (Blk.below hx h))
  clear hx
  have hBW : Below w.heap.size w (((w.alloc (.cells #[.pointer (some ⟨x, 0, none⟩)] 63)).alloc (.cells #[.int .i64 d] 3)).alloc (.cells #[.bool false, .string ⟨#[]⟩, .string ⟨#[]⟩, .bool false, .string ⟨#[]⟩, .string ⟨#[]⟩] 38)) := ((((Below.refl _ w).alloc (Nat.le_refl _) _).alloc (by simp) _).alloc (by simp; omega) _)
  have kk0 := (((Blk.new w 63 #[.pointer (some ⟨x, 0, none⟩)]).alloc (.cells #[.int .i64 d] 3)).alloc (.cells #[.bool false, .string ⟨#[]⟩, .string ⟨#[]⟩, .bool false, .string ⟨#[]⟩, .string ⟨#[]⟩] 38))
  have kk1 := ((Blk.new (w.alloc (.cells #[.pointer (some ⟨x, 0, none⟩)] 63)) 3 #[.int .i64 d]).alloc (.cells #[.bool false, .string ⟨#[]⟩, .string ⟨#[]⟩, .bool false, .string ⟨#[]⟩, .string ⟨#[]⟩] 38))
  simp only [World.size_alloc] at kk1
  have kk2 := (Blk.new ((w.alloc (.cells #[.pointer (some ⟨x, 0, none⟩)] 63)).alloc (.cells #[.int .i64 d] 3)) 38 #[.bool false, .string ⟨#[]⟩, .string ⟨#[]⟩, .bool false, .string ⟨#[]⟩, .string ⟨#[]⟩])
  simp only [World.size_alloc] at kk2
  have K := Lib.hid (((KeepT.one kk0).snoc kk1).snoc kk2)
  have hB := Lib.hid hBW
  clear hBW kk0 kk1 kk2
  go_enter Tryz.func40, Tryz.ntmps40
  go_upto_region 1 with fail
  generalize hW : (((w.alloc (.cells #[.pointer (some ⟨x, 0, none⟩)] 63)).alloc (.cells #[.int .i64 d] 3)).alloc (.cells #[.bool false, .string ⟨#[]⟩, .string ⟨#[]⟩, .bool false, .string ⟨#[]⟩, .string ⟨#[]⟩] 38)) = w1 at hB K ⊢
  clear hW
  have pp0 : w1.cell? ⟨w.heap.size, 0, none⟩ = some (.pointer (some ⟨x, 0, none⟩)) := (K.out.at_ 0 rfl).cell 0
  go_wp2_with fail
  refine (hN.out _ hB.out).mono ?_
  rintro en w2 ⟨rfl, hb⟩
  replace hB := Lib.hid (hB.out.trans (hb.mono hB.out.size))
  replace K := Lib.hid ((K.out.below hb))
  clear hb hN
  clear pp0 
  have f20 := (K.out.at_ 2 rfl).frozen 0
  have f21 := (K.out.at_ 2 rfl).frozen 1
  have f22 := (K.out.at_ 2 rfl).frozen 2
  have f23 := (K.out.at_ 2 rfl).frozen 3
  have f24 := (K.out.at_ 2 rfl).frozen 4
  have f25 := (K.out.at_ 2 rfl).frozen 5
  have rr0 : w2.cell? ⟨w.heap.size + 1 + 1, 0, none⟩ = some (.bool false) := (K.out.at_ 2 rfl).cell 0
  have rr1 : w2.cell? ⟨w.heap.size + 1 + 1, 1, none⟩ = some (.string ⟨#[]⟩) := (K.out.at_ 2 rfl).cell 1
  have rr2 : w2.cell? ⟨w.heap.size + 1 + 1, 2, none⟩ = some (.string ⟨#[]⟩) := (K.out.at_ 2 rfl).cell 2
  have rr3 : w2.cell? ⟨w.heap.size + 1 + 1, 3, none⟩ = some (.bool false) := (K.out.at_ 2 rfl).cell 3
  have rr4 : w2.cell? ⟨w.heap.size + 1 + 1, 4, none⟩ = some (.string ⟨#[]⟩) := (K.out.at_ 2 rfl).cell 4
  have rr5 : w2.cell? ⟨w.heap.size + 1 + 1, 5, none⟩ = some (.string ⟨#[]⟩) := (K.out.at_ 2 rfl).cell 5
  have KZ := Lib.hid (Blk.set_ (Blk.set_ (Blk.set_ (Blk.set_ (Blk.set_ (Blk.set_ (K.out.at_ 2 rfl) 0 (.bool false)) 1 (.string ⟨#[]⟩)) 2 (.string ⟨#[]⟩)) 3 (.bool false)) 4 (.string ⟨#[]⟩)) 5 (.string ⟨#[]⟩))
  have hBZ := Lib.hid ((((((hB.out.setCell (p := ⟨w.heap.size + 1 + 1, 0, none⟩) (by simp; try omega) (.bool false)).setCell (p := ⟨w.heap.size + 1 + 1, 1, none⟩) (by simp; try omega) (.string ⟨#[]⟩)).setCell (p := ⟨w.heap.size + 1 + 1, 2, none⟩) (by simp; try omega) (.string ⟨#[]⟩)).setCell (p := ⟨w.heap.size + 1 + 1, 3, none⟩) (by simp; try omega) (.bool false)).setCell (p := ⟨w.heap.size + 1 + 1, 4, none⟩) (by simp; try omega) (.string ⟨#[]⟩)).setCell (p := ⟨w.heap.size + 1 + 1, 5, none⟩) (by simp; try omega) (.string ⟨#[]⟩))
  clear K hB
  go_wp2_with fail
  have q0 := KZ.out.cell 0
  have q1 := KZ.out.cell 1
  have q2 := KZ.out.cell 2
  have q3 := KZ.out.cell 3
  have q4 := KZ.out.cell 4
  have q5 := KZ.out.cell 5
  refine bodyPost_ret (v := .tuple #[.agg #[.bool false, .string ⟨#[]⟩, .string ⟨#[]⟩, .bool false, .string ⟨#[]⟩, .string ⟨#[]⟩], .bool false, .int .i64 1]) (by simp [results, Tryz.results40, go_sem, q0, q1, q2, q3, q4, q5]) rfl ⟨rfl, hBZ.out⟩
end Go.Proofs.YtoaggmegmgdgbaaGreat
