/- Package lamin: Has; no leaf; no lamination. -/
import Derived.Test.YtoaggmegmgdgbaaLamI
namespace Go.Proofs.Ytoaggmegmgdgbaa
open Go.RowKit Go.Sort

set_option maxRecDepth 100000 in
set_option maxHeartbeats 2000000 in
/-- lamin.Add: nil -/
theorem lAdd_nil (n1 : Bool) (a1 d1 : ByteArray) (n2 : Bool) (a2 d2 : ByteArray) (w : World) :
    Calls Try.prog 8 #[.pointer none, .agg #[.bool n1, .string a1, .string d1, .bool n2, .string a2, .string d2]] w (RetVal (.int .i64 1) w) := by
  have hN := Lib.hid (fun W (_ : Below w.heap.size w W) => lnone_nil W)
  have hBW : Below w.heap.size w (w.alloc (.cells #[.bool n1, .string a1, .string d1, .bool n2, .string a2, .string d2] 27)) := ((Below.refl _ w).alloc (Nat.le_refl _) _)
  have kk0 := (Blk.new w 27 #[.bool n1, .string a1, .string d1, .bool n2, .string a2, .string d2])
  have K := Lib.hid (KeepT.one kk0)
  have hB := Lib.hid hBW
  clear hBW kk0
  go_enter Try.func8, Try.ntmps8
  go_upto_region 1 with fail
  generalize hW : (w.alloc (.cells #[.bool n1, .string a1, .string d1, .bool n2, .string a2, .string d2] 27)) = w1 at hB K ⊢
  clear hW
  go_wp2_with fail
  refine (hN.out _ hB.out).mono ?_
  rintro en w2 ⟨rfl, hb⟩
  replace hB := Lib.hid (hB.out.trans (hb.mono hB.out.size))
  clear hb hN K
  go_wp2_with fail
  go_ret
  exact ⟨rfl, hB.out⟩

set_option maxRecDepth 100000 in
set_option maxHeartbeats 2000000 in
/-- lamin.Add: not -/
theorem lAdd_not (n1 : Bool) (a1 d1 : ByteArray) (n2 : Bool) (a2 d2 : ByteArray) (w : World) (x : Nat) (v : Value) (hx : Blk w x 52 #[.bool false, v]) :
    Calls Try.prog 8 #[.pointer (some ⟨x, 0, none⟩), .agg #[.bool n1, .string a1, .string d1, .bool n2, .string a2, .string d2]] w (RetVal (.int .i64 1) w) := by
  have hN := Lib.hid (fun W (h : Below w.heap.size w W) => lnone_any x false v W (Blk.below hx h))
  clear hx
  have hBW : Below w.heap.size w (w.alloc (.cells #[.bool n1, .string a1, .string d1, .bool n2, .string a2, .string d2] 27)) := ((Below.refl _ w).alloc (Nat.le_refl _) _)
  have kk0 := (Blk.new w 27 #[.bool n1, .string a1, .string d1, .bool n2, .string a2, .string d2])
  have K := Lib.hid (KeepT.one kk0)
  have hB := Lib.hid hBW
  clear hBW kk0
  go_enter Try.func8, Try.ntmps8
  go_upto_region 1 with fail
  generalize hW : (w.alloc (.cells #[.bool n1, .string a1, .string d1, .bool n2, .string a2, .string d2] 27)) = w1 at hB K ⊢
  clear hW
  go_wp2_with fail
  refine (hN.out _ hB.out).mono ?_
  rintro en w2 ⟨rfl, hb⟩
  replace hB := Lib.hid (hB.out.trans (hb.mono hB.out.size))
  clear hb hN K
  go_wp2_with fail
  go_ret
  exact ⟨rfl, hB.out⟩

set_option maxRecDepth 100000 in
set_option maxHeartbeats 2000000 in
/-- lamin.Has: nil -/
theorem lHas_nil (n1 : Bool) (a1 d1 : ByteArray) (n2 : Bool) (a2 d2 : ByteArray) (w : World) :
    Calls Try.prog 14 #[.pointer none, .agg #[.bool n1, .string a1, .string d1, .bool n2, .string a2, .string d2]] w (RetVal (.bool false) w) := by
  have hN := Lib.hid (fun W (_ : Below w.heap.size w W) => lnone_nil W)
  have hBW : Below w.heap.size w (w.alloc (.cells #[.bool n1, .string a1, .string d1, .bool n2, .string a2, .string d2] 27)) := ((Below.refl _ w).alloc (Nat.le_refl _) _)
  have kk0 := (Blk.new w 27 #[.bool n1, .string a1, .string d1, .bool n2, .string a2, .string d2])
  have K := Lib.hid (KeepT.one kk0)
  have hB := Lib.hid hBW
  clear hBW kk0
  go_enter Try.func14, Try.ntmps14
  go_upto_region 1 with fail
  generalize hW : (w.alloc (.cells #[.bool n1, .string a1, .string d1, .bool n2, .string a2, .string d2] 27)) = w1 at hB K ⊢
  clear hW
  have hc := Lib.hid (hN.out w1 hB.out)
  have cN : ∀ d os, Calls Try.prog 17 #[.pointer none] (grow (redrawn w1 d) os) fun e w'' => e = .returned (.bool true) ∧ ∃ p : Regrown, w'' = grow (redrawn w1 p.d) p.os := fun d os => Calls.regrown_of (hN.out _ (hB.out.trans ((below_regrown w1 d os).mono hB.out.size)))
  clear hc K cN
  go_wp2_with fail
  refine (hN.out _ hB.out).mono ?_
  rintro en w2 ⟨rfl, hb⟩
  replace hB := Lib.hid (hB.out.trans (hb.mono hB.out.size))
  clear hb hN
  go_wp2_with fail
  go_ret
  exact ⟨rfl, hB.out⟩

set_option maxRecDepth 100000 in
set_option maxHeartbeats 2000000 in
/-- lamin.Has: not -/
theorem lHas_not (n1 : Bool) (a1 d1 : ByteArray) (n2 : Bool) (a2 d2 : ByteArray) (w : World) (x : Nat) (v : Value) (hx : Blk w x 52 #[.bool false, v]) :
    Calls Try.prog 14 #[.pointer (some ⟨x, 0, none⟩), .agg #[.bool n1, .string a1, .string d1, .bool n2, .string a2, .string d2]] w (RetVal (.bool false) w) := by
  have hN := Lib.hid (fun W (h : Below w.heap.size w W) => lnone_any x false v W (Blk.below hx h))
  clear hx
  have hBW : Below w.heap.size w (w.alloc (.cells #[.bool n1, .string a1, .string d1, .bool n2, .string a2, .string d2] 27)) := ((Below.refl _ w).alloc (Nat.le_refl _) _)
  have kk0 := (Blk.new w 27 #[.bool n1, .string a1, .string d1, .bool n2, .string a2, .string d2])
  have K := Lib.hid (KeepT.one kk0)
  have hB := Lib.hid hBW
  clear hBW kk0
  go_enter Try.func14, Try.ntmps14
  go_upto_region 1 with fail
  generalize hW : (w.alloc (.cells #[.bool n1, .string a1, .string d1, .bool n2, .string a2, .string d2] 27)) = w1 at hB K ⊢
  clear hW
  have hc := Lib.hid (hN.out w1 hB.out)
  have cN : ∀ d os, Calls Try.prog 17 #[.pointer (some ⟨x, 0, none⟩)] (grow (redrawn w1 d) os) fun e w'' => e = .returned (.bool true) ∧ ∃ p : Regrown, w'' = grow (redrawn w1 p.d) p.os := fun d os => Calls.regrown_of (hN.out _ (hB.out.trans ((below_regrown w1 d os).mono hB.out.size)))
  clear hc K cN
  go_wp2_with fail
  refine (hN.out _ hB.out).mono ?_
  rintro en w2 ⟨rfl, hb⟩
  replace hB := Lib.hid (hB.out.trans (hb.mono hB.out.size))
  clear hb hN
  go_wp2_with fail
  go_ret
  exact ⟨rfl, hB.out⟩

set_option maxRecDepth 100000 in
set_option maxHeartbeats 2000000 in
/-- lamin.Add of no leaf -/
theorem lAdd_bad (n1 : Bool) (a1 d1 : ByteArray) (n2 : Bool) (a2 d2 : ByteArray) (w : World) (x : Nat) (v : Value) (hx : Blk w x 52 #[.bool true, v]) (z1 : a1.size ≤ 9223372036854775807) (y1 : d1.size ≤ 9223372036854775807) (z2 : a2.size ≤ 9223372036854775807) (y2 : d2.size ≤ 9223372036854775807) (hbad : chkLf n1 a1 d1 n2 a2 d2 ≠ 0) :
    Calls Try.prog 8 #[.pointer (some ⟨x, 0, none⟩), .agg #[.bool n1, .string a1, .string d1, .bool n2, .string a2, .string d2]] w (RetVal (.int .i64 (chkLf n1 a1 d1 n2 a2 d2)) w) := by
  have hN := Lib.hid (fun W (h : Below w.heap.size w W) => lnone_any x true v W (Blk.below hx h))
  clear hx
  have hC := Lib.hid (fun W => lCheck_any n1 a1 d1 n2 a2 d2 W z1 y1 z2 y2)
  obtain ⟨r, hr⟩ : ∃ r, r = chkLf n1 a1 d1 n2 a2 d2 := ⟨_, rfl⟩
  rw [← hr] at hC hbad ⊢
  have x0 : (r != 0) = true := by rw [bne_iff_ne]; exact hbad
  clear hr hbad z1 y1 z2 y2
  have hBW : Below w.heap.size w (w.alloc (.cells #[.bool n1, .string a1, .string d1, .bool n2, .string a2, .string d2] 27)) := ((Below.refl _ w).alloc (Nat.le_refl _) _)
  have kk0 := (Blk.new w 27 #[.bool n1, .string a1, .string d1, .bool n2, .string a2, .string d2])
  have K := Lib.hid (KeepT.one kk0)
  have hB := Lib.hid hBW
  clear hBW kk0
  go_enter Try.func8, Try.ntmps8
  go_upto_region 1 with fail
  generalize hW : (w.alloc (.cells #[.bool n1, .string a1, .string d1, .bool n2, .string a2, .string d2] 27)) = w1 at hB K ⊢
  clear hW
  go_wp2_with fail
  refine (hN.out _ hB.out).mono ?_
  rintro en w2 ⟨rfl, hb⟩
  replace hB := Lib.hid (hB.out.trans (hb.mono hB.out.size))
  replace K := Lib.hid ((K.out.below hb))
  clear  hb hN
  have ll0 : w2.cell? ⟨w.heap.size, 0, none⟩ = some (.bool n1) := (K.out.at_ 0 rfl).cell 0
  have ll1 : w2.cell? ⟨w.heap.size, 1, none⟩ = some (.string a1) := (K.out.at_ 0 rfl).cell 1
  have ll2 : w2.cell? ⟨w.heap.size, 2, none⟩ = some (.string d1) := (K.out.at_ 0 rfl).cell 2
  have ll3 : w2.cell? ⟨w.heap.size, 3, none⟩ = some (.bool n2) := (K.out.at_ 0 rfl).cell 3
  have ll4 : w2.cell? ⟨w.heap.size, 4, none⟩ = some (.string a2) := (K.out.at_ 0 rfl).cell 4
  have ll5 : w2.cell? ⟨w.heap.size, 5, none⟩ = some (.string d2) := (K.out.at_ 0 rfl).cell 5
  go_wp2_with fail
  refine (hC.out _).mono ?_
  rintro en w3 ⟨rfl, hb⟩
  replace hB := Lib.hid (hB.out.trans (hb.mono hB.out.size))
  replace K := Lib.hid ((K.out.below hb))
  clear ll0 ll1 ll2 ll3 ll4 ll5 hb hC K
  go_wp2_with fail
  go_ret
  exact ⟨rfl, hB.out⟩

set_option maxRecDepth 100000 in
set_option maxHeartbeats 2000000 in
/-- lamin.Has of no leaf -/
theorem lHas_bad (n1 : Bool) (a1 d1 : ByteArray) (n2 : Bool) (a2 d2 : ByteArray) (w : World) (x : Nat) (v : Value) (hx : Blk w x 52 #[.bool true, v]) (z1 : a1.size ≤ 9223372036854775807) (y1 : d1.size ≤ 9223372036854775807) (z2 : a2.size ≤ 9223372036854775807) (y2 : d2.size ≤ 9223372036854775807) (hbad : chkLf n1 a1 d1 n2 a2 d2 ≠ 0) :
    Calls Try.prog 14 #[.pointer (some ⟨x, 0, none⟩), .agg #[.bool n1, .string a1, .string d1, .bool n2, .string a2, .string d2]] w (RetVal (.bool false) w) := by
  have hN := Lib.hid (fun W (h : Below w.heap.size w W) => lnone_any x true v W (Blk.below hx h))
  clear hx
  have hC := Lib.hid (fun W => lCheck_any n1 a1 d1 n2 a2 d2 W z1 y1 z2 y2)
  obtain ⟨r, hr⟩ : ∃ r, r = chkLf n1 a1 d1 n2 a2 d2 := ⟨_, rfl⟩
  rw [← hr] at hC hbad
  have x0 : (r != 0) = true := by rw [bne_iff_ne]; exact hbad
  clear hr hbad z1 y1 z2 y2
  have hBW : Below w.heap.size w (w.alloc (.cells #[.bool n1, .string a1, .string d1, .bool n2, .string a2, .string d2] 27)) := ((Below.refl _ w).alloc (Nat.le_refl _) _)
  have kk0 := (Blk.new w 27 #[.bool n1, .string a1, .string d1, .bool n2, .string a2, .string d2])
  have K := Lib.hid (KeepT.one kk0)
  have hB := Lib.hid hBW
  clear hBW kk0
  go_enter Try.func14, Try.ntmps14
  go_upto_region 1 with fail
  generalize hW : (w.alloc (.cells #[.bool n1, .string a1, .string d1, .bool n2, .string a2, .string d2] 27)) = w1 at hB K ⊢
  clear hW
  go_wp2_with fail
  refine (hN.out _ hB.out).mono ?_
  rintro en w2 ⟨rfl, hb⟩
  replace hB := Lib.hid (hB.out.trans (hb.mono hB.out.size))
  replace K := Lib.hid ((K.out.below hb))
  clear  hb hN
  have ll0 : w2.cell? ⟨w.heap.size, 0, none⟩ = some (.bool n1) := (K.out.at_ 0 rfl).cell 0
  have ll1 : w2.cell? ⟨w.heap.size, 1, none⟩ = some (.string a1) := (K.out.at_ 0 rfl).cell 1
  have ll2 : w2.cell? ⟨w.heap.size, 2, none⟩ = some (.string d1) := (K.out.at_ 0 rfl).cell 2
  have ll3 : w2.cell? ⟨w.heap.size, 3, none⟩ = some (.bool n2) := (K.out.at_ 0 rfl).cell 3
  have ll4 : w2.cell? ⟨w.heap.size, 4, none⟩ = some (.string a2) := (K.out.at_ 0 rfl).cell 4
  have ll5 : w2.cell? ⟨w.heap.size, 5, none⟩ = some (.string d2) := (K.out.at_ 0 rfl).cell 5
  go_wp2_with fail
  refine (hC.out _).mono ?_
  rintro en w3 ⟨rfl, hb⟩
  replace hB := Lib.hid (hB.out.trans (hb.mono hB.out.size))
  replace K := Lib.hid ((K.out.below hb))
  clear ll0 ll1 ll2 ll3 ll4 ll5 hb hC K
  go_wp2_with fail
  go_ret
  exact ⟨rfl, hB.out⟩

set_option maxRecDepth 100000 in
set_option maxHeartbeats 2000000 in
/-- lamin.Has -/
theorem lHas_any (B x Kp : Nat) (v : Value) (L : List Lf) (l : Lf) (w : World) (hL : Lam w B x v L) (hl : AngL l) (hlt : cmpP l.1 l.2 < 0) (hM : ∀ m, m ∈ L → AngL m) (hP : Plc L l Kp) (hlen : L.length ≤ 4096) :
    Calls Try.prog 14 #[.pointer (some ⟨x, 0, none⟩), .agg #[.bool false, .string (natS l.1.1), .string (natS l.1.2), .bool false, .string (natS l.2.1), .string (natS l.2.2)]] w (RetVal (.bool (decide (Kp < L.length ∧ L[Kp]! = l))) w) := by
  have hLm := Lib.hid hL
  have hN : Hid (∀ W, Lam W B x v L → Calls Try.prog 17 #[.pointer (some ⟨x, 0, none⟩)] W (RetVal (.bool false) W)) := Lib.hid (fun W h => lnone_any x true _ W h.blk)
  have hC := Lib.hid (fun W => lchk_ok l hl hlt W)
  obtain ⟨hs, hhs⟩ : ∃ b, b = decide (Kp < L.length ∧ L[Kp]! = l) := ⟨_, rfl⟩
  have hPl : Hid (∀ W, Lam W B x v L → Calls Try.prog 21 #[.pointer (some ⟨x, 0, none⟩), .agg #[.bool false, .string (natS l.1.1), .string (natS l.1.2), .bool false, .string (natS l.2.1), .string (natS l.2.2)]] W (RetVal (.tuple #[.int .i64 (Kp : Int), .bool hs]) W)) := Lib.hid (fun W h => by rw [hhs]; exact lplace_any B x Kp _ L l W h hl hM hP (by omega))
  rw [← hhs]
  clear hhs hl hlt hM hP hlen
  have hBW : Below w.heap.size w (w.alloc (.cells #[.bool false, .string (natS l.1.1), .string (natS l.1.2), .bool false, .string (natS l.2.1), .string (natS l.2.2)] 27)) := ((Below.refl _ w).alloc (Nat.le_refl _) _)
  have kk0 := (Blk.new w 27 #[.bool false, .string (natS l.1.1), .string (natS l.1.2), .bool false, .string (natS l.2.1), .string (natS l.2.2)])
  have K := Lib.hid (KeepT.one kk0)
  have hB := Lib.hid hBW
  clear hBW kk0
  replace hLm := Lib.hid (hLm.out.alloc (.cells #[.bool false, .string (natS l.1.1), .string (natS l.1.2), .bool false, .string (natS l.2.1), .string (natS l.2.2)] 27))
  clear hL
  go_enter Try.func14, Try.ntmps14
  go_upto_region 1 with fail
  generalize hW : (w.alloc (.cells #[.bool false, .string (natS l.1.1), .string (natS l.1.2), .bool false, .string (natS l.2.1), .string (natS l.2.2)] 27)) = w1 at hB K hLm ⊢
  clear hW
  go_wp2_with fail
  refine (hN.out _ hLm.out).mono ?_
  rintro en w2 ⟨rfl, hb⟩
  replace hB := Lib.hid (hB.out.trans (hb.mono hB.out.size))
  replace K := Lib.hid ((K.out.below hb))
  replace hLm := Lib.hid ((hLm.out.below hb))
  clear  hb hN
  have ll0 : w2.cell? ⟨w.heap.size, 0, none⟩ = some (.bool false) := (K.out.at_ 0 rfl).cell 0
  have ll1 : w2.cell? ⟨w.heap.size, 1, none⟩ = some (.string (natS l.1.1)) := (K.out.at_ 0 rfl).cell 1
  have ll2 : w2.cell? ⟨w.heap.size, 2, none⟩ = some (.string (natS l.1.2)) := (K.out.at_ 0 rfl).cell 2
  have ll3 : w2.cell? ⟨w.heap.size, 3, none⟩ = some (.bool false) := (K.out.at_ 0 rfl).cell 3
  have ll4 : w2.cell? ⟨w.heap.size, 4, none⟩ = some (.string (natS l.2.1)) := (K.out.at_ 0 rfl).cell 4
  have ll5 : w2.cell? ⟨w.heap.size, 5, none⟩ = some (.string (natS l.2.2)) := (K.out.at_ 0 rfl).cell 5
  go_wp2_with fail
  refine (hC.out _).mono ?_
  rintro en w3 ⟨rfl, hb⟩
  replace hB := Lib.hid (hB.out.trans (hb.mono hB.out.size))
  replace K := Lib.hid ((K.out.below hb))
  replace hLm := Lib.hid ((hLm.out.below hb))
  clear ll0 ll1 ll2 ll3 ll4 ll5 hb hC
  have ll0 : w3.cell? ⟨w.heap.size, 0, none⟩ = some (.bool false) := (K.out.at_ 0 rfl).cell 0
  have ll1 : w3.cell? ⟨w.heap.size, 1, none⟩ = some (.string (natS l.1.1)) := (K.out.at_ 0 rfl).cell 1
  have ll2 : w3.cell? ⟨w.heap.size, 2, none⟩ = some (.string (natS l.1.2)) := (K.out.at_ 0 rfl).cell 2
  have ll3 : w3.cell? ⟨w.heap.size, 3, none⟩ = some (.bool false) := (K.out.at_ 0 rfl).cell 3
  have ll4 : w3.cell? ⟨w.heap.size, 4, none⟩ = some (.string (natS l.2.1)) := (K.out.at_ 0 rfl).cell 4
  have ll5 : w3.cell? ⟨w.heap.size, 5, none⟩ = some (.string (natS l.2.2)) := (K.out.at_ 0 rfl).cell 5
  go_wp2_with fail
  refine (hPl.out _ hLm.out).mono ?_
  rintro en w4 ⟨rfl, hb⟩
  replace hB := Lib.hid (hB.out.trans (hb.mono hB.out.size))
  replace K := Lib.hid ((K.out.below hb))
  replace hLm := Lib.hid ((hLm.out.below hb))
  clear ll0 ll1 ll2 ll3 ll4 ll5 hb hPl K hLm
  go_wp2_with fail
  go_ret
  exact ⟨rfl, hB.out⟩
end Go.Proofs.Ytoaggmegmgdgbaa
