import Derived.Test.YtoaggmegmgdgbaaGreatLOf
import Derived.Test.YtoaggmegmgdgbaaGreatRGaps
namespace Go.Proofs.YtoaggmegmgdgbaaGreat
open Go.RowKit Go.Sort Go.Maps
section
variable {α : Type} {B : Nat} {e oe : TypeId} {size : Nat} {enc : α → List Value} {us : List Value} {G : List (List α)} {u : Value} {W W' : World}
structure NestR [Inhabited α] (W : World) (B : Nat) (oe e : TypeId) (size : Nat) (enc : α → List Value) (u : Value) (us : List Value) (G : List (List α)) : Prop where
  len : us.length = G.length
  row : W.ownsRow B oe 1 u us.length us
  inn : ∀ i, i < G.length → W.ownsRow B e size us[i]! G[i]!.length (G[i]!.flatMap enc)
theorem NestP.reads [Inhabited α] {X : List It} (h : NestP W B oe e size enc X u us G) : NestR W B oe e size enc u us G := ⟨h.1, h.row, fun i hi => by
  have hi2 : i < us.length := by rw [h.1]; exact hi
  have h2 := h.inner (g := i) hi2
  rw [← getElem!_pos us i hi2, ← getElem!_pos G i hi] at h2
  exact h2⟩
theorem NestR.but [Inhabited α] {S : Nat → Prop} (h : NestR W B oe e size enc u us G) (hb : But S W W') (hn : ∀ k, B ≤ k → k < W.heap.size → ¬ S k) : NestR W' B oe e size enc u us G :=
  ⟨h.len, row_but h.row hb (fun k hk => hn k (World.ownsRow.lt h.row k hk).1 (World.ownsRow.lt h.row k hk).2), fun i hi => row_but (h.inn i hi) hb (fun k hk => hn k (World.ownsRow.lt (h.inn i hi) k hk).1 (World.ownsRow.lt (h.inn i hi) k hk).2)⟩
theorem NestR.below [Inhabited α] (h : NestR W B oe e size enc u us G) (hb : Below W.heap.size W W') : NestR W' B oe e size enc u us G := h.but (But.of_below (r := fun _ => False) hb) (fun _ _ _ h => h)
theorem NestR.nil_ [Inhabited α] (W : World) (B : Nat) (oe e : TypeId) (size : Nat) (enc : α → List Value) : NestR W B oe e size enc (.slice none 0 0) [] [] := ⟨rfl, World.ownsRow_nil _ _ _ _, fun _ hi => absurd hi (Nat.not_lt_zero _)⟩
theorem NestR.outer [Inhabited α] {g n cap : Nat} (h : NestR W B oe e size enc (.slice (some ⟨g, 0, none⟩) n cap) us G) {i : Nat} (hi : i < G.length) : W.cell? ⟨g, i, none⟩ = some us[i]! := by
  have hi2 : i < us.length := by rw [h.len]; exact hi
  have h1 := h.row
  have hn : n = us.length := by
    rcases own_forms h1 with ⟨h2, -⟩ | ⟨_, _, h2⟩
    · cases h2
    · injection h2
  subst hn
  rw [World.ownsRow.cellAt h1 i (by omega), List.getElem?_eq_getElem hi2, getElem!_pos us i hi2]
theorem NestR.cell [Inhabited α] (h : NestR W B oe e size enc u us G) (he : ∀ a, (enc a).length = size) {i k g n cap : Nat} (hi : i < G.length) (hg : us[i]! = .slice (some ⟨g, 0, none⟩) n cap) (hk : k < G[i]!.length) : ∀ (j : Nat) (v : Value), (enc G[i]![k]!)[j]? = some v → W.cell? ⟨g, k * size + j, none⟩ = some v := fun j v hv => by
  have h1 := h.inn i hi
  rw [hg] at h1
  have hj : j < size := by rw [← he G[i]![k]!]; exact (List.getElem?_eq_some_iff.1 hv).1
  have e1 := flatMap_get enc size he G[i]! k j hk hj
  rw [← getElem!_pos G[i]! k hk, hv] at e1
  have hn : n = G[i]!.length := by
    rcases own_forms h1 with ⟨h2, -⟩ | ⟨_, _, h2⟩
    · cases h2
    · injection h2
  subst hn
  have hlt : k * size + j < G[i]!.length * size := by
    have : (k + 1) * size ≤ G[i]!.length * size := Nat.mul_le_mul_right _ hk
    rw [Nat.add_mul] at this
    omega
  rw [World.ownsRow.cellAt h1 _ hlt]
  exact e1
end
end Go.Proofs.YtoaggmegmgdgbaaGreat
