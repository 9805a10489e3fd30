import Derived.Test.YtoaggmegmgdgbaaGreatROpen
import Derived.Test.YtoaggmegmgdgbaaGreatGapC
import Derived.Test.YtoaggmegmgdgbaaGreatLamO
namespace Go.Proofs.YtoaggmegmgdgbaaGreat
open Go.RowKit Go.Sort Go.Maps
theorem own_blk {w : World} {g n B size : Nat} {T : TypeId} {cs : List Value} (h : Blk w g T cs.toArray) (hl : cs.length = n * size) (hb : B ≤ g) (hn : n ≤ maxLen) : w.ownsRow B T size (.slice (some ⟨g, 0, none⟩) n n) n cs :=
  ⟨hl, .inr ⟨g, n, cs.toArray, rfl, hb, h, Nat.le_refl _, hn, by simp [hl], by simp [← hl]⟩⟩
theorem gb_of_but {A B : World} {g : Nat} (h : But (fun k => k = g) A B) : A.grownBy B (some g) := ⟨h.os, h.tape, h.output, h.size, fun k hk hn => h.block k hk (fun e => hn (by rw [e]))⟩
theorem grpG_ilen {α β : Type} [DecidableEq α] {κ : Nat → α} {arc : Nat → β} (k : Nat) : ∀ x, x ∈ grpG κ arc k → x.length ≤ k := fun x hx => by
  obtain ⟨r, -, rfl⟩ := List.mem_map.1 hx
  rw [List.length_map]
  have := List.length_filter_le (fun j => decide (κ j = κ r)) (List.range k)
  rw [List.length_range] at this
  exact this
end Go.Proofs.YtoaggmegmgdgbaaGreat
