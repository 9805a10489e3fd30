import Derived.Test.YtoaggmegmgdgbaaGreatLiftL
import Derived.Test.YtoaggmegmgdgbaaGreatLamR
import Derived.Deep.Slices
namespace Go.Proofs.YtoaggmegmgdgbaaGreat
open Go.ChangeShapes Go.WideShapes Go.ChangeAt Go.RowKit Go.Deep
section
variable {H : Type} {enc : TypeId × Value → H} {w : World} {base : Nat} {sp : Nat → Bool} {held : Bool} {n : Nat}
set_option maxRecDepth 100000 in
theorem ratio_cells {cs : List Value} {x : DataW H × List MemPlace} (h : DataW.trod enc Tryz.prog w base sp held n 26 cs = some x) :
    ∃ (b : Bool) (a d : ByteArray), cs = [.bool b, .string a, .string d] ∧ a.size ≤ 9223372036854775807 ∧ d.size ≤ 9223372036854775807 := by
  obtain ⟨xs, k, hk, hxy, hlen, hxl, hf⟩ := DataW.trod_struct Tryz.underlying26 h
  rw [show Tryz.prog.cellsOf 26 = 3 by kernel_rfl] at hlen
  have c0 : Tryz.prog.cellsOf 4 = 1 := by kernel_rfl
  have c1 : Tryz.prog.cellsOf 24 = 1 := by kernel_rfl
  match cs, hlen with
  | [v0, v1, v2], _ =>
    match xs, hxl with
    | [y0, y1, y2], _ =>
      have g0 := hf 0 _ rfl
      have g1 := hf 1 _ rfl
      have g2 := hf 2 _ rfl
      simp [c0, c1] at g0 g1 g2
      obtain ⟨b, e0, -⟩ := DataW.trod_bool Tryz.underlying4 g0
      obtain ⟨a, e1, -, s1⟩ := DataW.trod_string Tryz.underlying24 g1
      obtain ⟨d, e2, -, s2⟩ := DataW.trod_string Tryz.underlying24 g2
      simp only [List.cons.injEq, and_true] at e0 e1 e2
      rw [e0, e1, e2]
      exact ⟨b, a, d, rfl, s1, s2⟩
end
theorem addr_plain {W : World} {a : Addr} {v : Value} (h : W.cell? (a.add 0) = some v) : a = ⟨a.block, a.off, none⟩ := by
  rw [show a.add 0 = a by simp [Addr.add]] at h
  obtain ⟨g, off, sp⟩ := a
  unfold World.cell? at h
  simp only at h
  split at h
  · split at h
    · cases h
    · rename_i hsp
      have : sp = none := by simpa using hsp
      rw [this]
  · cases h
set_option maxRecDepth 100000 in
theorem rows_open {H : Type} {enc : TypeId × Value → H} {W : World} {v : Value} {d : DataW H} {ps : List MemPlace} {t e : TypeId} {α : Type} [Inhabited α] {k : Nat} {en : α → List Value} {ok : α → Prop}
    (ht : Tryz.prog.underlying t = some (.slice e)) (hk : Tryz.prog.cellsOf e = k) (hk0 : 0 < k) (hv : ∃ a0 len cap, v = .slice a0 len cap)
    (hcell : ∀ {cs : List Value} {x : DataW H × List MemPlace} {n : Nat}, DataW.trod enc Tryz.prog W 0 (fun _ => true) true n e cs = some x → ∃ r : α, cs = en r ∧ ok r)
    (h : DataW.Trod enc Tryz.prog W 0 (fun _ => true) true t v d ps) : ∃ Ls : List α, RdK k en W v Ls ∧ (∀ r, r ∈ Ls → ok r) := by
  obtain ⟨a0, len, cap, rfl⟩ := hv
  obtain ⟨fuel, hf⟩ := h
  rcases open_slice ht hf with ⟨hcs, -⟩ | ⟨a, len', cap', m, n, D, Pl, hcs, -, hl, hm, hmm, -, hx⟩
  · simp [Value.cells] at hcs
    obtain ⟨rfl, rfl, rfl⟩ := hcs
    exact ⟨[], ⟨none, 0, rfl, fun h => absurd h (Nat.lt_irrefl _)⟩, fun r hr => by cases hr⟩
  · simp [Value.cells] at hcs
    obtain ⟨rfl, rfl, rfl⟩ := hcs
    simp only [if_true] at hmm
    have each : ∀ i, i < len → ∃ r : α, (∀ j, j < k → W.cell? ((a.add (i * k)).add j) = (en r)[j]?) ∧ (en r).length = k ∧ ok r := fun i hi => by
      obtain ⟨cs', h1, h2⟩ := hx i (by omega)
      rw [hk] at h1
      obtain ⟨-, hlen, hc⟩ := World.cells?_some h1
      obtain ⟨r, rfl, hok⟩ := hcell h2
      exact ⟨r, hc, hlen, hok⟩
    obtain ⟨S, hS⟩ := choose_lt each
    refine ⟨(List.range len).map S, ⟨some a, cap, by simp, fun h0 => ?_⟩, fun r hr => ?_⟩
    · have h0' : 0 < len := by simpa using h0
      have hz := (hS 0 h0').1 0 hk0
      have hl0 := (hS 0 h0').2.1
      rw [List.getElem?_eq_getElem (by omega), Nat.zero_mul, show (a.add 0) = a by simp [Addr.add]] at hz
      have ha := addr_plain hz
      refine ⟨a.block, a.off, by rw [← ha], fun i hi j u hu => ?_⟩
      rw [List.length_map, List.length_range] at hi
      rw [getElem!_pos _ i (by simpa using hi), List.getElem_map, List.getElem_range] at hu
      have hj : j < k := by
        have := List.getElem?_eq_some_iff.1 hu
        have h2 := (hS i hi).2.1
        obtain ⟨h3, -⟩ := this
        omega
      have h1 := (hS i hi).1 j hj
      rw [hu, ha] at h1
      rw [← h1]
      congr 1
      unfold Addr.add
      by_cases e1 : i * k = 0 <;> by_cases e2 : j = 0 <;> simp [e1, e2] <;> omega
    · obtain ⟨i, hi, rfl⟩ := List.mem_map.1 hr
      exact (hS i (List.mem_range.1 hi)).2.2
abbrev RawQ := Bool × ByteArray × ByteArray
def encQ (r : RawQ) : List Value := [.bool r.1, .string r.2.1, .string r.2.2]
def szQ (r : RawQ) : Prop := r.2.1.size ≤ 9223372036854775807 ∧ r.2.2.size ≤ 9223372036854775807
set_option maxRecDepth 100000 in
theorem ratios_open {H : Type} {enc : TypeId × Value → H} {W : World} {base : Nat} {v : Value} {d : DataW H} {ps : List MemPlace}
    (hv : Value.okWide Tryz.prog W .any base 22 v) (h : DataW.Trod enc Tryz.prog W 0 (fun _ => true) true 22 v d ps) : ∃ Ls : List RawQ, RdK 3 encQ W v Ls ∧ (∀ r, r ∈ Ls → szQ r) :=
  rows_open Tryz.underlying22 (by kernel_rfl) (by decide) (okWide_slice Tryz.underlying22 hv) (fun h => by
    obtain ⟨b, a, d, rfl, h1, h2⟩ := ratio_cells h
    exact ⟨(b, a, d), rfl, h1, h2⟩) h
end Go.Proofs.YtoaggmegmgdgbaaGreat
