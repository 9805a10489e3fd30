/- filigreelaw21.awake: it is true. -/
import Derived.Test.YtciafmnideihjaaAngH
namespace Go.Proofs.Ytciafmnideihjaa
open Go.RowKit

theorem makeV_16 : makeV 1 6 = .tuple #[.agg #[.bool false, .string ⟨#[1]⟩, .string ⟨#[6]⟩], .int .i64 0] := by kernel_rfl
theorem turnsV_16 : turnsV false ⟨#[1]⟩ ⟨#[6]⟩ 2 1 = .tuple #[.agg #[.bool false, .string ⟨#[1]⟩, .string ⟨#[3]⟩], .int .i64 0] := by kernel_rfl
theorem kindV_16 : kindV false ⟨#[1]⟩ ⟨#[6]⟩ 2 = .tuple #[.int .i64 1, .int .i64 2, .int .i64 0] := by kernel_rfl

set_option maxRecDepth 100000 in
set_option maxHeartbeats 1000000 in
theorem awake_any (w : World) : Calls Try.prog 15 #[] w (RetVal (.bool true) w) := by
  go_enter Try.func15, Try.ntmps15
  go_wp2_with fail
  refine (make_any 1 6 _).mono ?_
  rintro e w1 ⟨rfl, hb⟩
  rw [makeV_16]
  have qa := Blk.new w1 24 #[.bool false, .string ⟨#[1]⟩, .string ⟨#[6]⟩]
  have hB1 := hb.alloc hb.size (.cells #[.bool false, .string ⟨#[1]⟩, .string ⟨#[6]⟩] 24)
  clear hb
  go_upto_region 2 with fail
  generalize hw2 : w1.alloc (.cells #[.bool false, .string ⟨#[1]⟩, .string ⟨#[6]⟩] 24) = w2 at hB1 qa ⊢
  generalize hga : w1.heap.size = ga at *
  have a0 : w2.cell? ⟨ga, 0, none⟩ = some (.bool false) := qa.cell 0
  have a1 : w2.cell? ⟨ga, 1, none⟩ = some (.string ⟨#[1]⟩) := qa.cell 1
  have a2 : w2.cell? ⟨ga, 2, none⟩ = some (.string ⟨#[6]⟩) := qa.cell 2
  replace hB1 := Lib.hid hB1
  replace qa := Lib.hid qa
  clear hw2 hga
  go_wp2_with fail
  refine (turn1_any false ⟨#[1]⟩ ⟨#[6]⟩ 2 _ (by decide) (by decide)).mono ?_
  rintro e w3 ⟨rfl, hb⟩
  rw [turnsV_16]
  have qb := Blk.new w3 24 #[.bool false, .string ⟨#[1]⟩, .string ⟨#[3]⟩]
  have qa3 := (Blk.below qa.out hb).alloc (.cells #[.bool false, .string ⟨#[1]⟩, .string ⟨#[3]⟩] 24)
  have hB3 := hB1.out.trans (hb.mono hB1.out.size)
  replace hB3 := hB3.alloc hB3.size (.cells #[.bool false, .string ⟨#[1]⟩, .string ⟨#[3]⟩] 24)
  clear hb a0 a1 a2 qa
  go_upto_region 3 with fail
  generalize hw4 : w3.alloc (.cells #[.bool false, .string ⟨#[1]⟩, .string ⟨#[3]⟩] 24) = w4 at hB3 qa3 qb ⊢
  generalize hgb : w3.heap.size = gb at *
  have a0 : w4.cell? ⟨ga, 0, none⟩ = some (.bool false) := qa3.cell 0
  have a1 : w4.cell? ⟨ga, 1, none⟩ = some (.string ⟨#[1]⟩) := qa3.cell 1
  have a2 : w4.cell? ⟨ga, 2, none⟩ = some (.string ⟨#[6]⟩) := qa3.cell 2
  replace hB3 := Lib.hid hB3
  replace qb := Lib.hid qb
  clear hw4 hgb qa3
  go_wp2_with fail
  refine (kindW_any false ⟨#[1]⟩ ⟨#[6]⟩ 2 _ (by decide) (by decide)).mono ?_
  rintro e w5 ⟨rfl, hb⟩
  rw [kindV_16]
  have qb5 := Blk.below qb.out hb
  have b0 : w5.cell? ⟨gb, 0, none⟩ = some (.bool false) := qb5.cell 0
  have b1 : w5.cell? ⟨gb, 1, none⟩ = some (.string ⟨#[1]⟩) := qb5.cell 1
  have b2 : w5.cell? ⟨gb, 2, none⟩ = some (.string ⟨#[3]⟩) := qb5.cell 2
  have hB5 := hB3.out.trans (hb.mono hB3.out.size)
  replace hB5 := Lib.hid hB5
  clear hb qb5 a0 a1 a2
  go_wp2_with fail
  go_ret
  exact ⟨rfl, hB5.out⟩
end Go.Proofs.Ytciafmnideihjaa
