/- Package angle: told, small. -/
import Derived.Test.YtciafmnideihjaaAngA
namespace Go.Proofs.Ytciafmnideihjaa
open Go.RowKit

/-- What is told of a part: its ratio, or that its denominator is too great. -/
def toldV (n d : Nat) : Value := if d ≤ 2147483647 then .tuple #[ratV n d, .int .i64 0] else .tuple #[rat0, .int .i64 210]

set_option maxRecDepth 100000 in
set_option maxHeartbeats 400000 in
/-- angle.told -/
theorem told_any (n d : Nat) (w : World) (hn : n < 18446744073709551616) (hd : d < 18446744073709551616) :
    Calls Try.prog 59 #[.agg #[.int .u64 (n : Int), .int .u64 (d : Int)]] w (RetVal (toldV n d) w) := by
  by_cases h : d ≤ 2147483647
  · have hI : ¬ (2147483647 : Int) < (d : Int) := by omega
    have HT : Hid (toldV n d = .tuple #[.agg #[.bool false, .string (natS n), .string (natS d)], .int .i64 0]) := Lib.hid (by simp [toldV, h, ratV])
    clear h
    go_enter Try.func59, Try.ntmps59
    go_wp2_with fail
    have hK1 := (Blk.new w 91 #[.int .u64 (n : Int), .int .u64 (d : Int)]).alloc (.cells #[.bool false, .string ⟨#[]⟩, .string ⟨#[]⟩] 24)
    have hK2 := Blk.new (w.alloc (.cells #[.int .u64 (n : Int), .int .u64 (d : Int)] 91)) 24 #[.bool false, .string ⟨#[]⟩, .string ⟨#[]⟩]
    have hBW : Below w.heap.size w ((w.alloc (.cells #[.int .u64 (n : Int), .int .u64 (d : Int)] 91)).alloc (.cells #[.bool false, .string ⟨#[]⟩, .string ⟨#[]⟩] 24)) := ((Below.refl _ w).alloc (Nat.le_refl _) _).alloc (by simp) _
    have hsz : (w.alloc (.cells #[.int .u64 (n : Int), .int .u64 (d : Int)] 91)).heap.size = w.heap.size + 1 := by simp
    rw [hsz] at hK2
    clear hsz
    refine (ratioOf_any n d _ hn hd).mono ?_
    rintro e w4 ⟨rfl, hB⟩
    have r2 := Blk.below hK2 hB
    have hBx : Below w.heap.size w w4 := hBW.trans (hB.mono (by simp; omega))
    have i0 : w4.cell? ⟨w.heap.size + 1, 0, none⟩ = some (.bool false) := r2.cell 0
    have i1 : w4.cell? ⟨w.heap.size + 1, 1, none⟩ = some (.string ⟨#[]⟩) := r2.cell 1
    have i2 : w4.cell? ⟨w.heap.size + 1, 2, none⟩ = some (.string ⟨#[]⟩) := r2.cell 2
    have f0 := r2.frozen 0
    have f1 := r2.frozen 1
    have f2 := r2.frozen 2
    replace hBx := Lib.hid hBx
    unfold ratV
    clear hK1 hK2 hBW r2 hB
    go_wp2
    refine bodyPost_ret (v := .tuple #[.agg #[.bool false, .string (natS n), .string (natS d)], .int .i64 0]) (by simp [results, Try.results59, go_sem, i0, i1, i2]) rfl ⟨by rw [HT.out], ?_⟩
    exact ((hBx.out.setCell (p := ⟨w.heap.size + 1, 0, none⟩) (by simp) _).setCell (p := ⟨w.heap.size + 1, 1, none⟩) (by simp) _).setCell (p := ⟨w.heap.size + 1, 2, none⟩) (by simp) _
  · have hI : (2147483647 : Int) < (d : Int) := by omega
    have HT : Hid (toldV n d = .tuple #[.agg #[.bool false, .string ⟨#[]⟩, .string ⟨#[]⟩], .int .i64 210]) := Lib.hid (by simp [toldV, h, rat0])
    clear h
    go_enter Try.func59, Try.ntmps59
    go_wp2
    refine bodyPost_ret (v := .tuple #[.agg #[.bool false, .string ⟨#[]⟩, .string ⟨#[]⟩], .int .i64 210]) (by simp [results, Try.results59, go_sem]) rfl ⟨by rw [HT.out], ?_⟩
    repeat (first | exact Below.refl _ _ | apply Below.drew | refine Below.setCell ?_ (by simp) _ | refine Below.alloc ?_ (by simp) _)

/-- Is the ratio an angle? -/
def okA (neg : Bool) (num den : ByteArray) : Bool :=
  ratioMay neg num den && !neg && smallB num && smallB den && decide (be (sl num) < be (sl den)) && decide (be (sl den) ≤ 2147483647)
/-- The outcome of 'small': the angle's two numbers. -/
def smallV (neg : Bool) (num den : ByteArray) : Value :=
  .tuple #[.agg #[.int .u64 ((if okA neg num den then be (sl num) else 0 : Nat) : Int), .int .u64 ((if okA neg num den then be (sl den) else 0 : Nat) : Int)], .bool (okA neg num den)]

theorem smallV_no {neg : Bool} {num den : ByteArray} (h : okA neg num den = false) : smallV neg num den = .tuple #[.agg #[.int .u64 0, .int .u64 0], .bool false] := by simp [smallV, h]
theorem smallV_yes {neg : Bool} {num den : ByteArray} (h : okA neg num den = true) : smallV neg num den = .tuple #[.agg #[.int .u64 ((be (sl num) : Nat) : Int), .int .u64 ((be (sl den) : Nat) : Int)], .bool true] := by simp [smallV, h]

theorem be_small {s : ByteArray} (h : smallB s = true) : be (sl s) < 18446744073709551616 := by
  simp [smallB] at h
  have h1 := be_lt (sl_lt s)
  rw [sl_len] at h1
  exact Nat.lt_of_lt_of_le h1 (Nat.le_trans (Nat.pow_le_pow_right (by omega) h.2) (by omega))

theorem natSmall_yes (s : ByteArray) (x : Nat) (w : World) (hs : s.size ≤ 9223372036854775807) (h : smallB s = true) (hx : Hid (x = be (sl s))) :
    Calls Try.prog 86 #[.string s] w (RetVal (.tuple #[.int .u64 (x : Int), .bool true]) w) := by
  refine (natSmall_any s w hs).mono ?_
  rintro e w' ⟨rfl, hb⟩
  rw [h, if_pos rfl, ← hx.out]
  exact ⟨rfl, hb⟩
theorem natSmall_no (s : ByteArray) (w : World) (hs : s.size ≤ 9223372036854775807) (h : smallB s = false) :
    Calls Try.prog 86 #[.string s] w (RetVal (.tuple #[.int .u64 0, .bool false]) w) := by
  refine (natSmall_any s w hs).mono ?_
  rintro e w' ⟨rfl, hb⟩
  rw [h, if_neg (by decide)]
  exact ⟨rfl, hb⟩

set_option maxRecDepth 100000 in
set_option maxHeartbeats 1000000 in
/-- angle.small -/
theorem small_any (neg : Bool) (num den : ByteArray) (w : World) (z1 : num.size ≤ 9223372036854775807) (z2 : den.size ≤ 9223372036854775807) :
    Calls Try.prog 50 #[.agg #[.bool neg, .string num, .string den]] w (RetVal (smallV neg num den) w) := by
  have hK1 := (Blk.new w 24 #[.bool neg, .string num, .string den]).alloc (.cells #[.int .u64 0, .int .u64 0] 91)
  have hK2 := Blk.new (w.alloc (.cells #[.bool neg, .string num, .string den] 24)) 91 #[.int .u64 0, .int .u64 0]
  have hBW : Below w.heap.size w ((w.alloc (.cells #[.bool neg, .string num, .string den] 24)).alloc (.cells #[.int .u64 0, .int .u64 0] 91)) := ((Below.refl _ w).alloc (Nat.le_refl _) _).alloc (by simp) _
  rw [show (w.alloc (.cells #[.bool neg, .string num, .string den] 24)).heap.size = w.heap.size + 1 by simp] at hK2
  replace hK1 := Lib.hid hK1
  replace hK2 := Lib.hid hK2
  replace hBW := Lib.hid hBW
  cases hm : ratioMay neg num den
  · have hv : Hid (smallV neg num den = .tuple #[.agg #[.int .u64 0, .int .u64 0], .bool false]) := Lib.hid (smallV_no (by simp [okA, hm]))
    replace hm := Lib.hid hm
    go_enter Try.func50, Try.ntmps50
    go_wp2_with fail
    refine (ratMay_any neg num den _ z1 z2).mono ?_
    rintro e w1 ⟨rfl, hb⟩
    rw [hm.out]
    have q1 := Blk.below hK1.out hb
    have q2 := Blk.below hK2.out hb
    have hB1 := hBW.out.trans (hb.mono (by simp; omega))
    have c0 : w1.cell? ⟨w.heap.size, 0, none⟩ = some (.bool neg) := q1.cell 0
    have c1 : w1.cell? ⟨w.heap.size, 1, none⟩ = some (.string num) := q1.cell 1
    have c2 : w1.cell? ⟨w.heap.size, 2, none⟩ = some (.string den) := q1.cell 2
    have p0 : w1.cell? ⟨w.heap.size + 1, 0, none⟩ = some (.int .u64 0) := q2.cell 0
    have p1 : w1.cell? ⟨w.heap.size + 1, 1, none⟩ = some (.int .u64 0) := q2.cell 1
    have f0 := q2.frozen 0
    have f1 := q2.frozen 1
    replace hB1 := Lib.hid hB1
    replace q1 := Lib.hid q1
    replace q2 := Lib.hid q2
    clear hb
    go_wp2
    refine bodyPost_ret (v := .tuple #[.agg #[.int .u64 0, .int .u64 0], .bool false]) (by simp [results, Try.results50, go_sem, p0, p1]) rfl ⟨by rw [hv.out], ?_⟩
    exact (hB1.out.setCell (p := ⟨w.heap.size + 1, 0, none⟩) (by simp) _).setCell (p := ⟨w.heap.size + 1, 1, none⟩) (by simp) _
  cases neg
  rotate_left
  · have hv : Hid (smallV true num den = .tuple #[.agg #[.int .u64 0, .int .u64 0], .bool false]) := Lib.hid (smallV_no (by simp [okA]))
    replace hm := Lib.hid hm
    go_enter Try.func50, Try.ntmps50
    go_wp2_with fail
    refine (ratMay_any true num den _ z1 z2).mono ?_
    rintro e w1 ⟨rfl, hb⟩
    rw [hm.out]
    have q1 := Blk.below hK1.out hb
    have q2 := Blk.below hK2.out hb
    have hB1 := hBW.out.trans (hb.mono (by simp; omega))
    have c0 : w1.cell? ⟨w.heap.size, 0, none⟩ = some (.bool true) := q1.cell 0
    have c1 : w1.cell? ⟨w.heap.size, 1, none⟩ = some (.string num) := q1.cell 1
    have c2 : w1.cell? ⟨w.heap.size, 2, none⟩ = some (.string den) := q1.cell 2
    have p0 : w1.cell? ⟨w.heap.size + 1, 0, none⟩ = some (.int .u64 0) := q2.cell 0
    have p1 : w1.cell? ⟨w.heap.size + 1, 1, none⟩ = some (.int .u64 0) := q2.cell 1
    have f0 := q2.frozen 0
    have f1 := q2.frozen 1
    replace hB1 := Lib.hid hB1
    replace q1 := Lib.hid q1
    replace q2 := Lib.hid q2
    clear hb
    go_wp2
    refine bodyPost_ret (v := .tuple #[.agg #[.int .u64 0, .int .u64 0], .bool false]) (by simp [results, Try.results50, go_sem, p0, p1]) rfl ⟨by rw [hv.out], ?_⟩
    exact (hB1.out.setCell (p := ⟨w.heap.size + 1, 0, none⟩) (by simp) _).setCell (p := ⟨w.heap.size + 1, 1, none⟩) (by simp) _
  cases hs1 : smallB num
  · have hv : Hid (smallV false num den = .tuple #[.agg #[.int .u64 0, .int .u64 0], .bool false]) := Lib.hid (smallV_no (by simp [okA, hs1]))
    cases hs2 : smallB den
    · replace hm := Lib.hid hm
      replace hs1 := Lib.hid hs1
      replace hs2 := Lib.hid hs2
      go_enter Try.func50, Try.ntmps50
      go_wp2_with fail
      refine (ratMay_any false num den _ z1 z2).mono ?_
      rintro e w1 ⟨rfl, hb⟩
      rw [hm.out]
      have q1 := Blk.below hK1.out hb
      have q2 := Blk.below hK2.out hb
      have hB1 := hBW.out.trans (hb.mono (by simp; omega))
      have c0 : w1.cell? ⟨w.heap.size, 0, none⟩ = some (.bool false) := q1.cell 0
      have c1 : w1.cell? ⟨w.heap.size, 1, none⟩ = some (.string num) := q1.cell 1
      have c2 : w1.cell? ⟨w.heap.size, 2, none⟩ = some (.string den) := q1.cell 2
      have p0 : w1.cell? ⟨w.heap.size + 1, 0, none⟩ = some (.int .u64 0) := q2.cell 0
      have p1 : w1.cell? ⟨w.heap.size + 1, 1, none⟩ = some (.int .u64 0) := q2.cell 1
      have f0 := q2.frozen 0
      have f1 := q2.frozen 1
      replace hB1 := Lib.hid hB1
      replace q1 := Lib.hid q1
      replace q2 := Lib.hid q2
      clear hb
      go_wp2_with fail
      refine (natSmall_no num _ z1 hs1.out).mono ?_
      rintro e w2 ⟨rfl, hb⟩
      have r1 := Blk.below q1.out hb
      have r2 := Blk.below q2.out hb
      have hB2 := hB1.out.trans (hb.mono hB1.out.size)
      clear c0 c1 c2 p0 p1 f0 f1 hB1 q1 q2 hb
      have c0 : w2.cell? ⟨w.heap.size, 0, none⟩ = some (.bool false) := r1.cell 0
      have c1 : w2.cell? ⟨w.heap.size, 1, none⟩ = some (.string num) := r1.cell 1
      have c2 : w2.cell? ⟨w.heap.size, 2, none⟩ = some (.string den) := r1.cell 2
      have p0 : w2.cell? ⟨w.heap.size + 1, 0, none⟩ = some (.int .u64 0) := r2.cell 0
      have p1 : w2.cell? ⟨w.heap.size + 1, 1, none⟩ = some (.int .u64 0) := r2.cell 1
      have f0 := r2.frozen 0
      have f1 := r2.frozen 1
      have hB1 := Lib.hid hB2
      have q1 := Lib.hid r1
      have q2 := Lib.hid r2
      clear hB2 r1 r2
      go_wp2_with fail
      refine (natSmall_no den _ z2 hs2.out).mono ?_
      rintro e w3 ⟨rfl, hb⟩
      have r1 := Blk.below q1.out hb
      have r2 := Blk.below q2.out hb
      have hB2 := hB1.out.trans (hb.mono hB1.out.size)
      clear c0 c1 c2 p0 p1 f0 f1 hB1 q1 q2 hb
      have c0 : w3.cell? ⟨w.heap.size, 0, none⟩ = some (.bool false) := r1.cell 0
      have c1 : w3.cell? ⟨w.heap.size, 1, none⟩ = some (.string num) := r1.cell 1
      have c2 : w3.cell? ⟨w.heap.size, 2, none⟩ = some (.string den) := r1.cell 2
      have p0 : w3.cell? ⟨w.heap.size + 1, 0, none⟩ = some (.int .u64 0) := r2.cell 0
      have p1 : w3.cell? ⟨w.heap.size + 1, 1, none⟩ = some (.int .u64 0) := r2.cell 1
      have f0 := r2.frozen 0
      have f1 := r2.frozen 1
      have hB1 := Lib.hid hB2
      have q1 := Lib.hid r1
      have q2 := Lib.hid r2
      clear hB2 r1 r2
      go_wp2
      refine bodyPost_ret (v := .tuple #[.agg #[.int .u64 0, .int .u64 0], .bool false]) (by simp [results, Try.results50, go_sem, p0, p1]) rfl ⟨by rw [hv.out], ?_⟩
      exact (hB1.out.setCell (p := ⟨w.heap.size + 1, 0, none⟩) (by simp) _).setCell (p := ⟨w.heap.size + 1, 1, none⟩) (by simp) _
    · obtain ⟨y, hy⟩ : ∃ y, y = be (sl den) := ⟨_, rfl⟩
      replace hy := Lib.hid hy
      replace hm := Lib.hid hm
      replace hs1 := Lib.hid hs1
      replace hs2 := Lib.hid hs2
      go_enter Try.func50, Try.ntmps50
      go_wp2_with fail
      refine (ratMay_any false num den _ z1 z2).mono ?_
      rintro e w1 ⟨rfl, hb⟩
      rw [hm.out]
      have q1 := Blk.below hK1.out hb
      have q2 := Blk.below hK2.out hb
      have hB1 := hBW.out.trans (hb.mono (by simp; omega))
      have c0 : w1.cell? ⟨w.heap.size, 0, none⟩ = some (.bool false) := q1.cell 0
      have c1 : w1.cell? ⟨w.heap.size, 1, none⟩ = some (.string num) := q1.cell 1
      have c2 : w1.cell? ⟨w.heap.size, 2, none⟩ = some (.string den) := q1.cell 2
      have p0 : w1.cell? ⟨w.heap.size + 1, 0, none⟩ = some (.int .u64 0) := q2.cell 0
      have p1 : w1.cell? ⟨w.heap.size + 1, 1, none⟩ = some (.int .u64 0) := q2.cell 1
      have f0 := q2.frozen 0
      have f1 := q2.frozen 1
      replace hB1 := Lib.hid hB1
      replace q1 := Lib.hid q1
      replace q2 := Lib.hid q2
      clear hb
      go_wp2_with fail
      refine (natSmall_no num _ z1 hs1.out).mono ?_
      rintro e w2 ⟨rfl, hb⟩
      have r1 := Blk.below q1.out hb
      have r2 := Blk.below q2.out hb
      have hB2 := hB1.out.trans (hb.mono hB1.out.size)
      clear c0 c1 c2 p0 p1 f0 f1 hB1 q1 q2 hb
      have c0 : w2.cell? ⟨w.heap.size, 0, none⟩ = some (.bool false) := r1.cell 0
      have c1 : w2.cell? ⟨w.heap.size, 1, none⟩ = some (.string num) := r1.cell 1
      have c2 : w2.cell? ⟨w.heap.size, 2, none⟩ = some (.string den) := r1.cell 2
      have p0 : w2.cell? ⟨w.heap.size + 1, 0, none⟩ = some (.int .u64 0) := r2.cell 0
      have p1 : w2.cell? ⟨w.heap.size + 1, 1, none⟩ = some (.int .u64 0) := r2.cell 1
      have f0 := r2.frozen 0
      have f1 := r2.frozen 1
      have hB1 := Lib.hid hB2
      have q1 := Lib.hid r1
      have q2 := Lib.hid r2
      clear hB2 r1 r2
      go_wp2_with fail
      refine (natSmall_yes den y _ z2 hs2.out hy).mono ?_
      rintro e w3 ⟨rfl, hb⟩
      have r1 := Blk.below q1.out hb
      have r2 := Blk.below q2.out hb
      have hB2 := hB1.out.trans (hb.mono hB1.out.size)
      clear c0 c1 c2 p0 p1 f0 f1 hB1 q1 q2 hb
      have c0 : w3.cell? ⟨w.heap.size, 0, none⟩ = some (.bool false) := r1.cell 0
      have c1 : w3.cell? ⟨w.heap.size, 1, none⟩ = some (.string num) := r1.cell 1
      have c2 : w3.cell? ⟨w.heap.size, 2, none⟩ = some (.string den) := r1.cell 2
      have p0 : w3.cell? ⟨w.heap.size + 1, 0, none⟩ = some (.int .u64 0) := r2.cell 0
      have p1 : w3.cell? ⟨w.heap.size + 1, 1, none⟩ = some (.int .u64 0) := r2.cell 1
      have f0 := r2.frozen 0
      have f1 := r2.frozen 1
      have hB1 := Lib.hid hB2
      have q1 := Lib.hid r1
      have q2 := Lib.hid r2
      clear hB2 r1 r2
      go_wp2
      refine bodyPost_ret (v := .tuple #[.agg #[.int .u64 0, .int .u64 0], .bool false]) (by simp [results, Try.results50, go_sem, p0, p1]) rfl ⟨by rw [hv.out], ?_⟩
      exact (hB1.out.setCell (p := ⟨w.heap.size + 1, 0, none⟩) (by simp) _).setCell (p := ⟨w.heap.size + 1, 1, none⟩) (by simp) _
  obtain ⟨x, hx⟩ : ∃ x, x = be (sl num) := ⟨_, rfl⟩
  have hxs : x < 18446744073709551616 := by rw [hx]; exact be_small hs1
  cases hs2 : smallB den
  · have hv : Hid (smallV false num den = .tuple #[.agg #[.int .u64 0, .int .u64 0], .bool false]) := Lib.hid (smallV_no (by simp [okA, hs2]))
    replace hx := Lib.hid hx
    replace hm := Lib.hid hm
    replace hs1 := Lib.hid hs1
    replace hs2 := Lib.hid hs2
    go_enter Try.func50, Try.ntmps50
    go_wp2_with fail
    refine (ratMay_any false num den _ z1 z2).mono ?_
    rintro e w1 ⟨rfl, hb⟩
    rw [hm.out]
    have q1 := Blk.below hK1.out hb
    have q2 := Blk.below hK2.out hb
    have hB1 := hBW.out.trans (hb.mono (by simp; omega))
    have c0 : w1.cell? ⟨w.heap.size, 0, none⟩ = some (.bool false) := q1.cell 0
    have c1 : w1.cell? ⟨w.heap.size, 1, none⟩ = some (.string num) := q1.cell 1
    have c2 : w1.cell? ⟨w.heap.size, 2, none⟩ = some (.string den) := q1.cell 2
    have p0 : w1.cell? ⟨w.heap.size + 1, 0, none⟩ = some (.int .u64 0) := q2.cell 0
    have p1 : w1.cell? ⟨w.heap.size + 1, 1, none⟩ = some (.int .u64 0) := q2.cell 1
    have f0 := q2.frozen 0
    have f1 := q2.frozen 1
    replace hB1 := Lib.hid hB1
    replace q1 := Lib.hid q1
    replace q2 := Lib.hid q2
    clear hb
    go_wp2_with fail
    refine (natSmall_yes num x _ z1 hs1.out hx).mono ?_
    rintro e w2 ⟨rfl, hb⟩
    have r1 := Blk.below q1.out hb
    have r2 := Blk.below q2.out hb
    have hB2 := hB1.out.trans (hb.mono hB1.out.size)
    clear c0 c1 c2 p0 p1 f0 f1 hB1 q1 q2 hb
    have c0 : w2.cell? ⟨w.heap.size, 0, none⟩ = some (.bool false) := r1.cell 0
    have c1 : w2.cell? ⟨w.heap.size, 1, none⟩ = some (.string num) := r1.cell 1
    have c2 : w2.cell? ⟨w.heap.size, 2, none⟩ = some (.string den) := r1.cell 2
    have p0 : w2.cell? ⟨w.heap.size + 1, 0, none⟩ = some (.int .u64 0) := r2.cell 0
    have p1 : w2.cell? ⟨w.heap.size + 1, 1, none⟩ = some (.int .u64 0) := r2.cell 1
    have f0 := r2.frozen 0
    have f1 := r2.frozen 1
    have hB1 := Lib.hid hB2
    have q1 := Lib.hid r1
    have q2 := Lib.hid r2
    clear hB2 r1 r2
    go_wp2_with fail
    refine (natSmall_no den _ z2 hs2.out).mono ?_
    rintro e w3 ⟨rfl, hb⟩
    have r1 := Blk.below q1.out hb
    have r2 := Blk.below q2.out hb
    have hB2 := hB1.out.trans (hb.mono hB1.out.size)
    clear c0 c1 c2 p0 p1 f0 f1 hB1 q1 q2 hb
    have c0 : w3.cell? ⟨w.heap.size, 0, none⟩ = some (.bool false) := r1.cell 0
    have c1 : w3.cell? ⟨w.heap.size, 1, none⟩ = some (.string num) := r1.cell 1
    have c2 : w3.cell? ⟨w.heap.size, 2, none⟩ = some (.string den) := r1.cell 2
    have p0 : w3.cell? ⟨w.heap.size + 1, 0, none⟩ = some (.int .u64 0) := r2.cell 0
    have p1 : w3.cell? ⟨w.heap.size + 1, 1, none⟩ = some (.int .u64 0) := r2.cell 1
    have f0 := r2.frozen 0
    have f1 := r2.frozen 1
    have hB1 := Lib.hid hB2
    have q1 := Lib.hid r1
    have q2 := Lib.hid r2
    clear hB2 r1 r2
    go_wp2
    refine bodyPost_ret (v := .tuple #[.agg #[.int .u64 0, .int .u64 0], .bool false]) (by simp [results, Try.results50, go_sem, p0, p1]) rfl ⟨by rw [hv.out], ?_⟩
    exact (hB1.out.setCell (p := ⟨w.heap.size + 1, 0, none⟩) (by simp) _).setCell (p := ⟨w.heap.size + 1, 1, none⟩) (by simp) _
  obtain ⟨y, hy⟩ : ∃ y, y = be (sl den) := ⟨_, rfl⟩
  have hys : y < 18446744073709551616 := by rw [hy]; exact be_small hs2
  by_cases hxy : x < y
  rotate_left
  · have hv : Hid (smallV false num den = .tuple #[.agg #[.int .u64 0, .int .u64 0], .bool false]) := Lib.hid (smallV_no (by simp [okA, ← hx, ← hy, hxy]))
    replace hx := Lib.hid hx
    replace hy := Lib.hid hy
    replace hm := Lib.hid hm
    replace hs1 := Lib.hid hs1
    replace hs2 := Lib.hid hs2
    have t1 : ((y : Int) ≤ (x : Int)) := by omega
    clear hxy
    go_enter Try.func50, Try.ntmps50
    go_wp2_with fail
    refine (ratMay_any false num den _ z1 z2).mono ?_
    rintro e w1 ⟨rfl, hb⟩
    rw [hm.out]
    have q1 := Blk.below hK1.out hb
    have q2 := Blk.below hK2.out hb
    have hB1 := hBW.out.trans (hb.mono (by simp; omega))
    have c0 : w1.cell? ⟨w.heap.size, 0, none⟩ = some (.bool false) := q1.cell 0
    have c1 : w1.cell? ⟨w.heap.size, 1, none⟩ = some (.string num) := q1.cell 1
    have c2 : w1.cell? ⟨w.heap.size, 2, none⟩ = some (.string den) := q1.cell 2
    have p0 : w1.cell? ⟨w.heap.size + 1, 0, none⟩ = some (.int .u64 0) := q2.cell 0
    have p1 : w1.cell? ⟨w.heap.size + 1, 1, none⟩ = some (.int .u64 0) := q2.cell 1
    have f0 := q2.frozen 0
    have f1 := q2.frozen 1
    replace hB1 := Lib.hid hB1
    replace q1 := Lib.hid q1
    replace q2 := Lib.hid q2
    clear hb
    go_wp2_with fail
    refine (natSmall_yes num x _ z1 hs1.out hx).mono ?_
    rintro e w2 ⟨rfl, hb⟩
    have r1 := Blk.below q1.out hb
    have r2 := Blk.below q2.out hb
    have hB2 := hB1.out.trans (hb.mono hB1.out.size)
    clear c0 c1 c2 p0 p1 f0 f1 hB1 q1 q2 hb
    have c0 : w2.cell? ⟨w.heap.size, 0, none⟩ = some (.bool false) := r1.cell 0
    have c1 : w2.cell? ⟨w.heap.size, 1, none⟩ = some (.string num) := r1.cell 1
    have c2 : w2.cell? ⟨w.heap.size, 2, none⟩ = some (.string den) := r1.cell 2
    have p0 : w2.cell? ⟨w.heap.size + 1, 0, none⟩ = some (.int .u64 0) := r2.cell 0
    have p1 : w2.cell? ⟨w.heap.size + 1, 1, none⟩ = some (.int .u64 0) := r2.cell 1
    have f0 := r2.frozen 0
    have f1 := r2.frozen 1
    have hB1 := Lib.hid hB2
    have q1 := Lib.hid r1
    have q2 := Lib.hid r2
    clear hB2 r1 r2
    go_wp2_with fail
    refine (natSmall_yes den y _ z2 hs2.out hy).mono ?_
    rintro e w3 ⟨rfl, hb⟩
    have r1 := Blk.below q1.out hb
    have r2 := Blk.below q2.out hb
    have hB2 := hB1.out.trans (hb.mono hB1.out.size)
    clear c0 c1 c2 p0 p1 f0 f1 hB1 q1 q2 hb
    have c0 : w3.cell? ⟨w.heap.size, 0, none⟩ = some (.bool false) := r1.cell 0
    have c1 : w3.cell? ⟨w.heap.size, 1, none⟩ = some (.string num) := r1.cell 1
    have c2 : w3.cell? ⟨w.heap.size, 2, none⟩ = some (.string den) := r1.cell 2
    have p0 : w3.cell? ⟨w.heap.size + 1, 0, none⟩ = some (.int .u64 0) := r2.cell 0
    have p1 : w3.cell? ⟨w.heap.size + 1, 1, none⟩ = some (.int .u64 0) := r2.cell 1
    have f0 := r2.frozen 0
    have f1 := r2.frozen 1
    have hB1 := Lib.hid hB2
    have q1 := Lib.hid r1
    have q2 := Lib.hid r2
    clear hB2 r1 r2
    go_wp2
    refine bodyPost_ret (v := .tuple #[.agg #[.int .u64 0, .int .u64 0], .bool false]) (by simp [results, Try.results50, go_sem, p0, p1]) rfl ⟨by rw [hv.out], ?_⟩
    exact (hB1.out.setCell (p := ⟨w.heap.size + 1, 0, none⟩) (by simp) _).setCell (p := ⟨w.heap.size + 1, 1, none⟩) (by simp) _
  have t1 : ¬ ((y : Int) ≤ (x : Int)) := by omega
  by_cases hyd : y ≤ 2147483647
  rotate_left
  · have hv : Hid (smallV false num den = .tuple #[.agg #[.int .u64 0, .int .u64 0], .bool false]) := Lib.hid (smallV_no (by simp [okA, ← hx, ← hy, hyd]))
    replace hx := Lib.hid hx
    replace hy := Lib.hid hy
    replace hm := Lib.hid hm
    replace hs1 := Lib.hid hs1
    replace hs2 := Lib.hid hs2
    have t2 : ((2147483647 : Int) < (y : Int)) := by omega
    clear hxy hyd
    go_enter Try.func50, Try.ntmps50
    go_wp2_with fail
    refine (ratMay_any false num den _ z1 z2).mono ?_
    rintro e w1 ⟨rfl, hb⟩
    rw [hm.out]
    have q1 := Blk.below hK1.out hb
    have q2 := Blk.below hK2.out hb
    have hB1 := hBW.out.trans (hb.mono (by simp; omega))
    have c0 : w1.cell? ⟨w.heap.size, 0, none⟩ = some (.bool false) := q1.cell 0
    have c1 : w1.cell? ⟨w.heap.size, 1, none⟩ = some (.string num) := q1.cell 1
    have c2 : w1.cell? ⟨w.heap.size, 2, none⟩ = some (.string den) := q1.cell 2
    have p0 : w1.cell? ⟨w.heap.size + 1, 0, none⟩ = some (.int .u64 0) := q2.cell 0
    have p1 : w1.cell? ⟨w.heap.size + 1, 1, none⟩ = some (.int .u64 0) := q2.cell 1
    have f0 := q2.frozen 0
    have f1 := q2.frozen 1
    replace hB1 := Lib.hid hB1
    replace q1 := Lib.hid q1
    replace q2 := Lib.hid q2
    clear hb
    go_wp2_with fail
    refine (natSmall_yes num x _ z1 hs1.out hx).mono ?_
    rintro e w2 ⟨rfl, hb⟩
    have r1 := Blk.below q1.out hb
    have r2 := Blk.below q2.out hb
    have hB2 := hB1.out.trans (hb.mono hB1.out.size)
    clear c0 c1 c2 p0 p1 f0 f1 hB1 q1 q2 hb
    have c0 : w2.cell? ⟨w.heap.size, 0, none⟩ = some (.bool false) := r1.cell 0
    have c1 : w2.cell? ⟨w.heap.size, 1, none⟩ = some (.string num) := r1.cell 1
    have c2 : w2.cell? ⟨w.heap.size, 2, none⟩ = some (.string den) := r1.cell 2
    have p0 : w2.cell? ⟨w.heap.size + 1, 0, none⟩ = some (.int .u64 0) := r2.cell 0
    have p1 : w2.cell? ⟨w.heap.size + 1, 1, none⟩ = some (.int .u64 0) := r2.cell 1
    have f0 := r2.frozen 0
    have f1 := r2.frozen 1
    have hB1 := Lib.hid hB2
    have q1 := Lib.hid r1
    have q2 := Lib.hid r2
    clear hB2 r1 r2
    go_wp2_with fail
    refine (natSmall_yes den y _ z2 hs2.out hy).mono ?_
    rintro e w3 ⟨rfl, hb⟩
    have r1 := Blk.below q1.out hb
    have r2 := Blk.below q2.out hb
    have hB2 := hB1.out.trans (hb.mono hB1.out.size)
    clear c0 c1 c2 p0 p1 f0 f1 hB1 q1 q2 hb
    have c0 : w3.cell? ⟨w.heap.size, 0, none⟩ = some (.bool false) := r1.cell 0
    have c1 : w3.cell? ⟨w.heap.size, 1, none⟩ = some (.string num) := r1.cell 1
    have c2 : w3.cell? ⟨w.heap.size, 2, none⟩ = some (.string den) := r1.cell 2
    have p0 : w3.cell? ⟨w.heap.size + 1, 0, none⟩ = some (.int .u64 0) := r2.cell 0
    have p1 : w3.cell? ⟨w.heap.size + 1, 1, none⟩ = some (.int .u64 0) := r2.cell 1
    have f0 := r2.frozen 0
    have f1 := r2.frozen 1
    have hB1 := Lib.hid hB2
    have q1 := Lib.hid r1
    have q2 := Lib.hid r2
    clear hB2 r1 r2
    go_wp2
    refine bodyPost_ret (v := .tuple #[.agg #[.int .u64 0, .int .u64 0], .bool false]) (by simp [results, Try.results50, go_sem, p0, p1]) rfl ⟨by rw [hv.out], ?_⟩
    exact (hB1.out.setCell (p := ⟨w.heap.size + 1, 0, none⟩) (by simp) _).setCell (p := ⟨w.heap.size + 1, 1, none⟩) (by simp) _
  · have hv : Hid (smallV false num den = .tuple #[.agg #[.int .u64 (x : Int), .int .u64 (y : Int)], .bool true]) := Lib.hid (by rw [smallV_yes (by simp [okA, hm, hs1, hs2, ← hx, ← hy, hxy, hyd]), ← hx, ← hy])
    replace hx := Lib.hid hx
    replace hy := Lib.hid hy
    replace hm := Lib.hid hm
    replace hs1 := Lib.hid hs1
    replace hs2 := Lib.hid hs2
    have t2 : ¬ ((2147483647 : Int) < (y : Int)) := by omega
    clear hxy hyd
    go_enter Try.func50, Try.ntmps50
    go_wp2_with fail
    refine (ratMay_any false num den _ z1 z2).mono ?_
    rintro e w1 ⟨rfl, hb⟩
    rw [hm.out]
    have q1 := Blk.below hK1.out hb
    have q2 := Blk.below hK2.out hb
    have hB1 := hBW.out.trans (hb.mono (by simp; omega))
    have c0 : w1.cell? ⟨w.heap.size, 0, none⟩ = some (.bool false) := q1.cell 0
    have c1 : w1.cell? ⟨w.heap.size, 1, none⟩ = some (.string num) := q1.cell 1
    have c2 : w1.cell? ⟨w.heap.size, 2, none⟩ = some (.string den) := q1.cell 2
    have p0 : w1.cell? ⟨w.heap.size + 1, 0, none⟩ = some (.int .u64 0) := q2.cell 0
    have p1 : w1.cell? ⟨w.heap.size + 1, 1, none⟩ = some (.int .u64 0) := q2.cell 1
    have f0 := q2.frozen 0
    have f1 := q2.frozen 1
    replace hB1 := Lib.hid hB1
    replace q1 := Lib.hid q1
    replace q2 := Lib.hid q2
    clear hb
    go_wp2_with fail
    refine (natSmall_yes num x _ z1 hs1.out hx).mono ?_
    rintro e w2 ⟨rfl, hb⟩
    have r1 := Blk.below q1.out hb
    have r2 := Blk.below q2.out hb
    have hB2 := hB1.out.trans (hb.mono hB1.out.size)
    clear c0 c1 c2 p0 p1 f0 f1 hB1 q1 q2 hb
    have c0 : w2.cell? ⟨w.heap.size, 0, none⟩ = some (.bool false) := r1.cell 0
    have c1 : w2.cell? ⟨w.heap.size, 1, none⟩ = some (.string num) := r1.cell 1
    have c2 : w2.cell? ⟨w.heap.size, 2, none⟩ = some (.string den) := r1.cell 2
    have p0 : w2.cell? ⟨w.heap.size + 1, 0, none⟩ = some (.int .u64 0) := r2.cell 0
    have p1 : w2.cell? ⟨w.heap.size + 1, 1, none⟩ = some (.int .u64 0) := r2.cell 1
    have f0 := r2.frozen 0
    have f1 := r2.frozen 1
    have hB1 := Lib.hid hB2
    have q1 := Lib.hid r1
    have q2 := Lib.hid r2
    clear hB2 r1 r2
    go_wp2_with fail
    refine (natSmall_yes den y _ z2 hs2.out hy).mono ?_
    rintro e w3 ⟨rfl, hb⟩
    have r1 := Blk.below q1.out hb
    have r2 := Blk.below q2.out hb
    have hB2 := hB1.out.trans (hb.mono hB1.out.size)
    clear c0 c1 c2 p0 p1 f0 f1 hB1 q1 q2 hb
    have c0 : w3.cell? ⟨w.heap.size, 0, none⟩ = some (.bool false) := r1.cell 0
    have c1 : w3.cell? ⟨w.heap.size, 1, none⟩ = some (.string num) := r1.cell 1
    have c2 : w3.cell? ⟨w.heap.size, 2, none⟩ = some (.string den) := r1.cell 2
    have p0 : w3.cell? ⟨w.heap.size + 1, 0, none⟩ = some (.int .u64 0) := r2.cell 0
    have p1 : w3.cell? ⟨w.heap.size + 1, 1, none⟩ = some (.int .u64 0) := r2.cell 1
    have f0 := r2.frozen 0
    have f1 := r2.frozen 1
    have hB1 := Lib.hid hB2
    have q1 := Lib.hid r1
    have q2 := Lib.hid r2
    clear hB2 r1 r2
    go_wp2
    refine bodyPost_ret (v := .tuple #[.agg #[.int .u64 (x : Int), .int .u64 (y : Int)], .bool true]) (by simp [results, Try.results50, go_sem, p0, p1]) rfl ⟨by rw [hv.out], ?_⟩
    exact (hB1.out.setCell (p := ⟨w.heap.size + 1, 0, none⟩) (by simp) _).setCell (p := ⟨w.heap.size + 1, 1, none⟩) (by simp) _
end Go.Proofs.Ytciafmnideihjaa
