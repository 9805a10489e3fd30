/- filigreelaw21.awake: it is true. -/
import Derived.Test.YtoaggmegmgdgbaaGreatAngH
namespace Go.Proofs.YtoaggmegmgdgbaaGreat
open Go.RowKit

theorem makeV_16 : makeV 1 6 = .tuple #[.agg #[.bool false, .string ⟨#[1]⟩, .string ⟨#[6]⟩], .int .i64 0] := by kernel_rfl
theorem turnsV_16 : turnsV false ⟨#[1]⟩ ⟨#[6]⟩ 2 1 = .tuple #[.agg #[.bool false, .string ⟨#[1]⟩, .string ⟨#[3]⟩], .int .i64 0] := by kernel_rfl
theorem kindV_16 : kindV false ⟨#[1]⟩ ⟨#[6]⟩ 2 = .tuple #[.int .i64 1, .int .i64 2, .int .i64 0] := by kernel_rfl

end Go.Proofs.YtoaggmegmgdgbaaGreat
