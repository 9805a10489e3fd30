/- filigreelaw22: code, spoil. -/
import Derived.Test.YtbddlbhanpjdnaaGreatDoorRefO
namespace Go.Proofs.YtbddlbhanpjdnaaGreatDoor
open Go.RowKit Go.Sort

set_option maxRecDepth 100000 in
set_option maxHeartbeats 2000000 in
/-- filigreelaw22.code -/
theorem code_any (n1 : Bool) (a1 d1 : ByteArray) (n2 : Bool) (a2 d2 : ByteArray) (d : Int) (w : World)
    (z1 : a1.size ≤ 9223372036854775807) (y1 : d1.size ≤ 9223372036854775807) (z2 : a2.size ≤ 9223372036854775807) (y2 : d2.size ≤ 9223372036854775807) :
    Calls Tryz.prog 9 #[.agg #[.bool n1, .string a1, .string d1], .agg #[.bool n2, .string a2, .string d2], .int .i64 d] w (RetVal (.int .i64 (mayE (okA n1 a1 d1) (okA n2 a2 d2) d)) w) := by
  obtain ⟨x, y, hs, -⟩ := smallV_form n1 a1 d1
  obtain ⟨x', y', hs', -⟩ := smallV_form n2 a2 d2
  have hO1 := fun W => rof_any n1 a1 d1 W z1 y1
  have hO2 := fun W => rof_any n2 a2 d2 W z2 y2
  rw [hs] at hO1
  rw [hs'] at hO2
  obtain ⟨o1, ho1⟩ : ∃ b, b = okA n1 a1 d1 := ⟨_, rfl⟩
  obtain ⟨o2, ho2⟩ : ∃ b, b = okA n2 a2 d2 := ⟨_, rfl⟩
  rw [← ho1] at hO1
  rw [← ho2] at hO2
  have hE : Hid (mayE (okA n1 a1 d1) (okA n2 a2 d2) d = mayE o1 o2 d) := Lib.hid (by rw [ho1, ho2])
  have ka := (Blk.new w 24 #[.bool n1, .string a1, .string d1]).alloc (.cells #[.bool n2, .string a2, .string d2] 24)
  have kb := Blk.new (w.alloc (.cells #[.bool n1, .string a1, .string d1] 24)) 24 #[.bool n2, .string a2, .string d2]
  have hBW : Below w.heap.size w ((w.alloc (.cells #[.bool n1, .string a1, .string d1] 24)).alloc (.cells #[.bool n2, .string a2, .string d2] 24)) := ((Below.refl _ w).alloc (Nat.le_refl _) _).alloc (by simp) _
  rw [World.size_alloc] at kb
  replace ka := Lib.hid ka
  replace kb := Lib.hid kb
  replace hBW := Lib.hid hBW
  replace hO1 := Lib.hid hO1
  replace hO2 := Lib.hid hO2
  clear hs hs' ho1 ho2
  go_enter Tryz.func9, Tryz.ntmps9
  go_wp2_with fail
  refine (hO1.out _).mono ?_
  rintro en w1 ⟨rfl, hb⟩
  have hB1 := hBW.out.trans (hb.mono hBW.out.size)
  have kb1 := (Blk.below kb.out hb).alloc (.cells #[.int .u64 (x : Int), .int .u64 (y : Int)] 37)
  have b0 : (w1.alloc (.cells #[.int .u64 (x : Int), .int .u64 (y : Int)] 37)).cell? ⟨w.heap.size + 1, 0, none⟩ = some (.bool n2) := kb1.cell 0
  have b1 : (w1.alloc (.cells #[.int .u64 (x : Int), .int .u64 (y : Int)] 37)).cell? ⟨w.heap.size + 1, 1, none⟩ = some (.string a2) := kb1.cell 1
  have b2 : (w1.alloc (.cells #[.int .u64 (x : Int), .int .u64 (y : Int)] 37)).cell? ⟨w.heap.size + 1, 2, none⟩ = some (.string d2) := kb1.cell 2
  have hB2 := Lib.hid (hB1.alloc hB1.size (.cells #[.int .u64 (x : Int), .int .u64 (y : Int)] 37))
  clear hb hB1 kb1 ka kb hBW hO1
  go_wp2_with fail
  refine (hO2.out _).mono ?_
  rintro en w2 ⟨rfl, hb⟩
  have hB3 := hB2.out.trans (hb.mono hB2.out.size)
  have hB4 := Lib.hid (hB3.alloc hB3.size (.cells #[.int .u64 (x' : Int), .int .u64 (y' : Int)] 37))
  clear hb hB3 hB2 b0 b1 b2 hO2
  cases o1
  · clear z1
    go_wp2_with fail
    go_ret
    exact ⟨by rw [hE.out]; rfl, hB4.out⟩
  cases o2
  · go_wp2_with fail
    go_ret
    exact ⟨by rw [hE.out]; rfl, hB4.out⟩
  go_wp2_with fail
  refine (rround_any d _).mono ?_
  rintro en w4 ⟨rfl, rfl⟩
  cases hr : roundB d
  · replace hE : Hid (mayE (okA n1 a1 d1) (okA n2 a2 d2) d = 2) := Lib.hid (by rw [hE.out, mayE, hr]; rfl)
    clear hr
    go_wp2_with fail
    go_ret
    exact ⟨by rw [hE.out]; rfl, hB4.out⟩
  · replace hE : Hid (mayE (okA n1 a1 d1) (okA n2 a2 d2) d = 0) := Lib.hid (by rw [hE.out, mayE, hr]; rfl)
    clear hr
    go_wp2_with fail
    go_ret
    exact ⟨by rw [hE.out]; rfl, hB4.out⟩
end Go.Proofs.YtbddlbhanpjdnaaGreatDoor
