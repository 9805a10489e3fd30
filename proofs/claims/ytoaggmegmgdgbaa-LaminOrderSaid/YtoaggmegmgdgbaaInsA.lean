/- slices.Insert in the middle: what copy does at elements of k cells; cells written one by one. (No program in sight.) -/
import Derived.Test.YtoaggmegmgdgbaaLamH
import Derived.Lib.AppendZerosOnto
import Derived.Lib.AppendZeros
import Derived.Lib.Overlaps
import Derived.Laws.Externs
import Derived.Laws.IdiomCopy
import Derived.Laws.NewBlocks
namespace Go.Proofs.Ytoaggmegmgdgbaa
open Go.RowKit Go.Sort

section
variable {P : Program}
/-- copy, at elements of k cells. -/
theorem run_copyK (w : World) (dT sT ty elem : TypeId) (b o dLen dCap : Nat) (a : Addr) (sLen sCap k n : Nat) (cs : List Value)
    (hu : P.underlying dT = some (.slice elem)) (hs : (P.info? elem).map (·.size) = some k) (hn : Nat.min sLen dLen = n) (hl : cs.length = n * k)
    (hsrc : ∀ j v, cs[j]? = some v → w.cell? (a.add j) = some v) (hc : ∀ j, j < cs.length → (w.cell? ⟨b, o + j, none⟩).isSome = true) (hf : ∀ j, j < cs.length → w.frozen? ⟨b, o + j, none⟩ = false) (h1 : ∀ v ∈ cs, v.oneCell' = true) :
    (Builtin.copy_ #[dT, sT] ty #[.slice (some ⟨b, o, none⟩) dLen dCap, .slice (some a) sLen sCap]).run P w = .ok (goInt n) (w.setCells b o cs) := by
  have hld := run_loadCells_list (P := P) w a cs hsrc
  have hst := run_storeCells_cells (P := P) b o cs 0 w (by simpa using hc) (by simpa using hf) h1
  cases hq : P.info? elem with
  | none => simp [hq] at hs
  | some i =>
    have hi : i.size = k := by simpa [hq] using hs
    simp [Builtin.copy_, run_underlying hu, Builtin.lenOf, Builtin.firstCells, sizeOf, typeInfo, hq, hi, hn, ← hl, hld, hst]
end
/-- Cells written one by one. -/
def writeA (cur : Array Value) : Nat → List Value → Array Value
  | _, [] => cur
  | o, v :: r => writeA (cur.setIfInBounds o v) (o + 1) r
theorem writeA_size : ∀ (vs : List Value) (cur : Array Value) (o : Nat), (writeA cur o vs).size = cur.size
  | [], _, _ => rfl
  | v :: r, cur, o => by rw [writeA, writeA_size r]; simp
theorem writeA_get : ∀ (vs : List Value) (cur : Array Value) (o t : Nat), o + vs.length ≤ cur.size → (writeA cur o vs)[t]? = if o ≤ t ∧ t < o + vs.length then vs[t - o]? else cur[t]?
  | [], cur, o, t, _ => by rw [writeA, if_neg (by simp only [List.length_nil]; omega)]
  | v :: r, cur, o, t, h => by
    have hl : o + (r.length + 1) ≤ cur.size := by simpa using h
    rw [writeA, writeA_get r _ (o + 1) t (by simp; omega)]
    simp only [List.length_cons]
    by_cases e : t = o
    · subst e
      rw [if_neg (by omega), if_pos (by omega), Nat.sub_self, Array.getElem?_setIfInBounds, if_pos rfl, if_pos (by omega)]
      rfl
    · by_cases c : o + 1 ≤ t ∧ t < o + 1 + r.length
      · rw [if_pos c, if_pos (by omega)]
        obtain ⟨q, rfl⟩ : ∃ q, t = o + 1 + q := ⟨t - (o + 1), by omega⟩
        rw [show o + 1 + q - (o + 1) = q by omega, show o + 1 + q - o = q + 1 by omega]
        simp
      · rw [if_neg c, if_neg (by omega), Array.getElem?_setIfInBounds, if_neg (fun h => e h.symm)]
theorem setCells_heap {g : Nat} {T : TypeId} : ∀ (vs : List Value) (o : Nat) (w : World) (cur : Array Value), w.heap[g]? = some (.cells cur T (0, 0)) → (w.setCells g o vs).heap[g]? = some (.cells (writeA cur o vs) T (0, 0))
  | [], _, _, _, h => h
  | v :: r, o, w, cur, h => setCells_heap r (o + 1) _ _ (heap_setCell_same w g o cur T v h)
theorem setCells_other {g : Nat} : ∀ (vs : List Value) (o : Nat) (w : World) (k : Nat), k ≠ g → (w.setCells g o vs).heap[k]? = w.heap[k]?
  | [], _, _, _, _ => rfl
  | v :: r, o, w, k, h => (setCells_other r (o + 1) _ k h).trans (heap_setCell_other w ⟨g, o, none⟩ k v (fun e => h (by simp [e])))
theorem setCells_gb {g : Nat} (vs : List Value) (o : Nat) (w : World) : w.grownBy (w.setCells g o vs) (some g) := by
  induction vs generalizing o w with
  | nil => exact ⟨rfl, rfl, rfl, Nat.le_refl _, fun _ _ _ => rfl⟩
  | cons v r ih =>
    have h1 : w.grownBy (w.setCell ⟨g, o, none⟩ v) (some g) := ⟨rfl, rfl, rfl, by simp [World.setCell], fun k _ hk => heap_setCell_other w ⟨g, o, none⟩ k v (fun e => hk (by simp [e]))⟩
    exact h1.trans (ih (o + 1) _)
end Go.Proofs.Ytoaggmegmgdgbaa
