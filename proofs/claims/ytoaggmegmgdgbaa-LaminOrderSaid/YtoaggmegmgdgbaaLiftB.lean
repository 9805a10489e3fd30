/- A slice of bytes as an argument: what it reads as. · Five parameters. -/
import Derived.Test.YtoaggmegmgdgbaaLift
import Derived.Test.YtoaggmegmgdgbaaMem
import Derived.ChangeSlices
import Derived.SizedLaws
namespace Go.Proofs.Ytoaggmegmgdgbaa
open Go.ChangeShapes Go.WideShapes Go.ChangeAt Go.RowKit

theorem bytes_cells : Try.prog.cellsOf 5 = 1 := by kernel_rfl
theorem bytes_bytes : Try.prog.bytesOf 5 = 1 := by kernel_rfl

/-- The cells of a stretch of bytes, as a slice that reads. -/
theorem rd_of_ints {W : World} {a : Addr} {len cap : Nat} {zs : List Int} (hl : len ≤ cap) (hm : cap ≤ maxLen) (hz : len ≤ zs.length) (hcell : ∀ i, i < zs.length → W.cell? (a.add i) = some (.int .u8 (zs.getD i 0))) (hw : ∀ n ∈ zs, (Lit.int .u8 n).wf = true) :
    ∃ T, Rd .u8 T W (.slice (some a) len cap) ((zs.take len).map Int.toNat) ∧ ∀ x, x ∈ (zs.take len).map Int.toNat → x < 256 := by
  have hb : ∀ n ∈ zs, 0 ≤ n ∧ n < 256 := fun n hn => by
    have h := hw n hn
    have mx : IntKind.u8.max = 255 := by decide
    have mn : IntKind.u8.min = 0 := by decide
    simp only [Lit.wf, Bool.and_eq_true, decide_eq_true_eq] at h
    omega
  have hlen : ((zs.take len).map Int.toNat).length = len := by simp; omega
  have hlt : ∀ x, x ∈ (zs.take len).map Int.toNat → x < 256 := fun x hx => by
    obtain ⟨n, hn, rfl⟩ := List.mem_map.1 hx
    have := hb n (List.mem_of_mem_take hn)
    omega
  by_cases h0 : len = 0
  · subst h0
    refine ⟨0, ⟨some a, cap, by simp, by simp, hm, fun h => absurd (by simp) h⟩, hlt⟩
  · have hc0 := hcell 0 (by omega)
    rw [show a.add 0 = a by simp [Addr.add]] at hc0
    obtain ⟨g, off, sp⟩ := a
    have hblk : ∃ cs T fr, W.heap[g]? = some (.cells cs T fr) ∧ sp = none := by
      unfold World.cell? at hc0
      simp only at hc0
      split at hc0
      · rename_i c T fr hh
        split at hc0
        · cases hc0
        · rename_i hsp
          exact ⟨c, T, fr, hh, by simpa using hsp⟩
      · cases hc0
    obtain ⟨cs, T, fr, hh, rfl⟩ := hblk
    refine ⟨T, ⟨some ⟨g, off, none⟩, cap, by rw [hlen], by rw [hlen]; exact hl, hm, fun _ => ⟨g, off, fun j => if off ≤ j then ((zs.take len).map Int.toNat)[j - off]? else none, rfl, ⟨cs, fr, hh, fun j x hj => ?_⟩, fun j x hj => ?_⟩⟩, hlt⟩
    · simp only at hj
      split at hj
      · rename_i hoj
        have hjl := lt_of_getElem? hj
        rw [hlen] at hjl
        have hc := hcell (j - off) (by omega)
        have ha : (⟨g, off, none⟩ : Addr).add (j - off) = ⟨g, j, none⟩ := by
          unfold Addr.add
          split
          · rename_i h; rw [show off = j by omega]
          · simp; omega
        rw [ha, cell_of_row W g j cs T fr hh] at hc
        rw [hc]
        have hzl : j - off < zs.length := by omega
        have e : zs.getD (j - off) 0 = zs[j - off] := by simp [List.getD, hzl]
        have hx : x = (zs[j - off]).toNat := by
          rw [List.getElem?_map, List.getElem?_take_of_lt hjl, List.getElem?_eq_getElem hzl] at hj
          simpa using hj.symm
        have h2 := hb _ (List.getElem_mem hzl)
        rw [e, hx, Int.toNat_of_nonneg h2.1]
      · cases hj
    · simp only [Nat.le_add_right, if_true, Nat.add_sub_cancel_left]
      exact hj

set_option maxRecDepth 100000 in
/-- A slice of bytes that comes in. -/
theorem bytes_open {H : Type} {enc : TypeId × Value → H} {W : World} {base : Nat} {v : Value} {d : DataW H} {ps : List MemPlace}
    (hv : Value.okWide Try.prog W .any base 122 v) (h : DataW.Trod enc Try.prog W 0 (fun _ => true) true 122 v d ps) :
    ∃ (A : Option Addr) (L c : Nat) (T : TypeId) (l : List Nat), v = .slice A L c ∧ Rd .u8 T W (.slice A L c) l ∧ (∀ x, x ∈ l → x < 256) ∧ (l = [] ∨ ∃ es sp, d = .slice es sp ∧ es.length = l.length) := by
  obtain ⟨a0, len, cap, rfl⟩ := okWide_slice Try.underlying122 hv
  obtain ⟨fuel, hf⟩ := h
  rcases open_ints Try.underlying122 Try.underlying5 bytes_cells hf with ⟨hcs, -⟩ | ⟨a, len', cap', zs, hcs, -, hl, hm, hz, hx, hcell, hwz⟩
  · simp [Value.cells] at hcs
    obtain ⟨rfl, rfl, rfl⟩ := hcs
    exact ⟨none, 0, 0, 0, [], rfl, Rd.nil_, fun x hx => (by cases hx), .inl rfl⟩
  · simp [Value.cells] at hcs
    obtain ⟨rfl, rfl, rfl⟩ := hcs
    simp only [if_true] at hz
    obtain ⟨T, h1, h2⟩ := rd_of_ints hl hm (by omega) hcell hwz
    refine ⟨_, _, _, T, _, rfl, h1, h2, .inr ⟨_, _, (congrArg Prod.fst hx), ?_⟩⟩
    simp [lits]

theorem trodAll_five {H : Type} {enc : TypeId × Value → H} {P : Program} {w : World} {base : Nat} {sp : Nat → Bool} {held : Bool} {t0 t1 t2 t3 t4 : TypeId} {args : Array Value} {ds : List (DataW H)} {ps : List MemPlace}
    (h : DataW.TrodAll enc P w base sp held [t0, t1, t2, t3, t4] args.toList ds ps) :
    ∃ v0 v1 v2 v3 v4 d0 d1 d2 d3 d4 p0 p1 p2 p3 p4, args = #[v0, v1, v2, v3, v4] ∧ ds = [d0, d1, d2, d3, d4] ∧ ps = p0 ++ (p1 ++ (p2 ++ (p3 ++ (p4 ++ [])))) ∧ DataW.Trod enc P w base sp held t0 v0 d0 p0 ∧ DataW.Trod enc P w base sp held t1 v1 d1 p1 ∧ DataW.Trod enc P w base sp held t2 v2 d2 p2 ∧ DataW.Trod enc P w base sp held t3 v3 d3 p3 ∧ DataW.Trod enc P w base sp held t4 v4 d4 p4 := by
  obtain ⟨v0, s0, d0, e0, p0, q0, ha, rfl, rfl, k0, h⟩ := trodAll_cons h
  obtain ⟨v1, s1, d1, e1, p1, q1, rfl, rfl, rfl, k1, h⟩ := trodAll_cons h
  obtain ⟨v2, s2, d2, e2, p2, q2, rfl, rfl, rfl, k2, h⟩ := trodAll_cons h
  obtain ⟨v3, s3, d3, e3, p3, q3, rfl, rfl, rfl, k3, h⟩ := trodAll_cons h
  obtain ⟨v4, s4, d4, e4, p4, q4, rfl, rfl, rfl, k4, h⟩ := trodAll_cons h
  obtain ⟨rfl, rfl, rfl⟩ := trodAll_nil h
  exact ⟨v0, v1, v2, v3, v4, d0, d1, d2, d3, d4, p0, p1, p2, p3, p4, by cases args; simp_all, rfl, rfl, k0, k1, k2, k3, k4⟩
end Go.Proofs.Ytoaggmegmgdgbaa
