/- From a call's outcome to a row: the law returned true, and of the old world nothing has turned. · A ratio as an argument. · A slice of bytes as an argument: what it reads as. · Five parameters. · A row's last steps: a leaf as an argument. -/
import Derived.Test.YtoaggmegmgdgbaaGreatRows
import Derived.ProofKit
import Derived.Lib.SmallJoins
import Derived.Test.YtoaggmegmgdgbaaGreatMem
import Derived.ChangeSlices
import Derived.SizedLaws
namespace Go.Proofs.YtoaggmegmgdgbaaGreat
open Go.ChangeShapes Go.WideShapes Go.ChangeAt Go.RowKit

theorem own_none : ownKnob Tryz.prog.godebug = none := by kernel_rfl
theorem laid_out : laidOutB Tryz.prog = true := by kernel_rfl

section
variable {H : Type} {enc : TypeId × Value → H} {P : Program}
/-- What the arguments read as, they read as later too. -/
theorem args_later (hl : laidOutB P = true) {W W' : World} (hb : Below W.heap.size W W') :
    ∀ {ts : List TypeId} {vs : List Value} {ds : List (DataW H)} {ps : List MemPlace}, (ts.all fun t => P.readableRec t && decide (t < P.types.size)) = true →
      DataW.TrodAll enc P W 0 (fun _ => true) true ts vs ds ps → (∀ x ∈ ps, x.block < W.heap.size) → DataW.TrodAll enc P W' 0 (fun b => decide (b < W.heap.size)) true ts vs ds ps
  | [], [], [], _, _, h, _ => h
  | [], _ :: _, _, _, _, h, _ => h.elim
  | [], [], _ :: _, _, _, h, _ => h.elim
  | _ :: _, [], _, _, _, h, _ => h.elim
  | _ :: _, _ :: _, [], _, _, h, _ => h.elim
  | t :: ts, v :: vs, d :: ds, ps, ht, ⟨p, q, h1, h2, h3⟩, hlt => by
    simp only [List.all_cons, Bool.and_eq_true, decide_eq_true_eq] at ht
    obtain ⟨⟨r1, r2⟩, r3⟩ := ht
    exact ⟨p, q, Below.trod hl r1 r2 h1 hb (fun x hx => hlt x (by rw [h3]; simp [hx])), args_later hl hb (by simpa using r3) h2 (fun x hx => hlt x (by rw [h3]; simp [hx])), h3⟩

/-- The row's last step, for a law that is true and leaves its arguments alone. -/
theorem post_law {f : Func} {s : ChangeSpec} {apart fresh handsOn : Bool} {W W' : World} {args : Array Value} {v : Value} {ds gs : List (DataW H)} {before : List MemPlace}
    (hl : laidOutB P = true) (hts : (f.params.toList.all fun t => P.readableRec t && decide (t < P.types.size)) = true) (hvs : s.vars = [])
    (hW : DataW.Whole enc P f.params.toList s.vars apart W args.toList ds gs before) (hb : Below W.heap.size W W')
    (hfa : (s.fn H (ds ++ gs)).args = ds) (hfv : (s.fn H (ds ++ gs)).vars = gs)
    (hres : ∀ (b : Nat) (sp : Nat → Bool) (hd : Bool), DataW.TrodAll enc P W' b sp hd f.resultTypes.toList (v.resultList f.resultTypes.size) (s.fn H (ds ++ gs)).results []) :
    s.post enc P f apart fresh handsOn false W args v W' := by
  have hlt : ∀ p ∈ before, p.block < W.heap.size := fun p hp => hW.lt p hp
  obtain ⟨p, q, h1, h2, h3, -, -⟩ := id hW
  refine ⟨ds, gs, before, [], p, q, hW, hres _ _ _, ?_, ?_, hb.frame _, fun h => nomatch h⟩
  · rw [hfa]
    exact args_later hl hb hts h1 (fun x hx => hlt x (by rw [h3]; simp [hx]))
  · rw [hfv]
    rw [hvs] at h2 ⊢
    obtain ⟨rfl, rfl⟩ := trodVars_none h2
    rfl
end
end Go.Proofs.YtoaggmegmgdgbaaGreat

namespace Go.Proofs.YtoaggmegmgdgbaaGreat
open Go.ChangeShapes Go.WideShapes Go.ChangeAt Go.RowKit

set_option maxRecDepth 100000 in
theorem ratio_open {W : World} {base : Nat} {v : Value} (h : Value.okWide Tryz.prog W .any base 26 v) :
    ∃ (ng : Bool) (nu de : ByteArray), v = .agg #[.bool ng, .string nu, .string de] ∧ nu.size ≤ 9223372036854775807 ∧ de.size ≤ 9223372036854775807 := by
  simp only [Value.okWide, Tryz.underlying26] at h
  obtain ⟨cs, rfl, hs, ts, h1, -, h3⟩ := h
  have e1 : Tryz.prog.cellTypes Tryz.prog.depth 26 = some [4, 24, 24] := by kernel_rfl
  have e2 : Tryz.prog.cellsOf 26 = 3 := by kernel_rfl
  rw [e1] at h1
  injection h1 with h1
  subst h1
  rw [e2] at hs
  obtain ⟨c0, c1, c2, rfl⟩ := Go.Joins.array3 hs
  obtain ⟨u0, hu0, k0⟩ := h3 0 c0 rfl
  obtain ⟨u1, hu1, k1⟩ := h3 1 c1 rfl
  obtain ⟨u2, hu2, k2⟩ := h3 2 c2 rfl
  simp at hu0 hu1 hu2
  subst hu0 hu1 hu2
  simp only [Cell.okWide, Cell.ok, Tryz.underlying4] at k0
  simp only [Cell.okWide, Cell.ok, Tryz.underlying24] at k1 k2
  cases c0 <;> try exact k0.elim
  cases c1 <;> try exact k1.elim
  cases c2 <;> try exact k2.elim
  have mx : IntKind.i64.max = ((9223372036854775807 : Nat) : Int) := by decide
  refine ⟨_, _, _, rfl, Int.ofNat_le.1 ?_, Int.ofNat_le.1 ?_⟩
  · rw [← mx]; exact k1
  · rw [← mx]; exact k2
end Go.Proofs.YtoaggmegmgdgbaaGreat

namespace Go.Proofs.YtoaggmegmgdgbaaGreat
open Go.ChangeShapes Go.WideShapes Go.ChangeAt Go.RowKit

theorem bytes_cells : Tryz.prog.cellsOf 5 = 1 := by kernel_rfl
theorem bytes_bytes : Tryz.prog.bytesOf 5 = 1 := by kernel_rfl

/-- The cells of a stretch of bytes, as a slice that reads. -/
theorem rd_of_ints {W : World} {a : Addr} {len cap : Nat} {zs : List Int} (hl : len ≤ cap) (hm : cap ≤ maxLen) (hz : len ≤ zs.length) (hcell : ∀ i, i < zs.length → W.cell? (a.add i) = some (.int .u8 (zs.getD i 0))) (hw : ∀ n ∈ zs, (Lit.int .u8 n).wf = true) :
    ∃ T, Rd .u8 T W (.slice (some a) len cap) ((zs.take len).map Int.toNat) ∧ ∀ x, x ∈ (zs.take len).map Int.toNat → x < 256 := by
  have hb : ∀ n ∈ zs, 0 ≤ n ∧ n < 256 := fun n hn => by
    have h := hw n hn
    have mx : IntKind.u8.max = 255 := by decide
    have mn : IntKind.u8.min = 0 := by decide
    simp only [Lit.wf, Bool.and_eq_true, decide_eq_true_eq] at h
    omega
  have hlen : ((zs.take len).map Int.toNat).length = len := by simp; omega
  have hlt : ∀ x, x ∈ (zs.take len).map Int.toNat → x < 256 := fun x hx => by
    obtain ⟨n, hn, rfl⟩ := List.mem_map.1 hx
    have := hb n (List.mem_of_mem_take hn)
    omega
  by_cases h0 : len = 0
  · subst h0
    refine ⟨0, ⟨some a, cap, by simp, by simp, hm, fun h => absurd (by simp) h⟩, hlt⟩
  · have hc0 := hcell 0 (by omega)
    rw [show a.add 0 = a by simp [Addr.add]] at hc0
    obtain ⟨g, off, sp⟩ := a
    have hblk : ∃ cs T fr, W.heap[g]? = some (.cells cs T fr) ∧ sp = none := by
      unfold World.cell? at hc0
      simp only at hc0
      split at hc0
      · rename_i c T fr hh
        split at hc0
        · cases hc0
        · rename_i hsp
          exact ⟨c, T, fr, hh, by simpa using hsp⟩
      · cases hc0
    obtain ⟨cs, T, fr, hh, rfl⟩ := hblk
    refine ⟨T, ⟨some ⟨g, off, none⟩, cap, by rw [hlen], by rw [hlen]; exact hl, hm, fun _ => ⟨g, off, fun j => if off ≤ j then ((zs.take len).map Int.toNat)[j - off]? else none, rfl, ⟨cs, fr, hh, fun j x hj => ?_⟩, fun j x hj => ?_⟩⟩, hlt⟩
    · simp only at hj
      split at hj
      · rename_i hoj
        have hjl := lt_of_getElem? hj
        rw [hlen] at hjl
        have hc := hcell (j - off) (by omega)
        have ha : (⟨g, off, none⟩ : Addr).add (j - off) = ⟨g, j, none⟩ := by
          unfold Addr.add
          split
          · rename_i h; rw [show off = j by omega]
          · simp; omega
        rw [ha, cell_of_row W g j cs T fr hh] at hc
        rw [hc]
        have hzl : j - off < zs.length := by omega
        have e : zs.getD (j - off) 0 = zs[j - off] := by simp [List.getD, hzl]
        have hx : x = (zs[j - off]).toNat := by
          rw [List.getElem?_map, List.getElem?_take_of_lt hjl, List.getElem?_eq_getElem hzl] at hj
          simpa using hj.symm
        have h2 := hb _ (List.getElem_mem hzl)
        rw [e, hx, Int.toNat_of_nonneg h2.1]
      · cases hj
    · simp only [Nat.le_add_right, if_true, Nat.add_sub_cancel_left]
      exact hj

set_option maxRecDepth 100000 in
/-- A slice of bytes that comes in. -/
theorem bytes_open {H : Type} {enc : TypeId × Value → H} {W : World} {base : Nat} {v : Value} {d : DataW H} {ps : List MemPlace}
    (hv : Value.okWide Tryz.prog W .any base 118 v) (h : DataW.Trod enc Tryz.prog W 0 (fun _ => true) true 118 v d ps) :
    ∃ (A : Option Addr) (L c : Nat) (T : TypeId) (l : List Nat), v = .slice A L c ∧ Rd .u8 T W (.slice A L c) l ∧ (∀ x, x ∈ l → x < 256) ∧ (l = [] ∨ ∃ es sp, d = .slice es sp ∧ es.length = l.length) := by
  obtain ⟨a0, len, cap, rfl⟩ := okWide_slice Tryz.underlying118 hv
  obtain ⟨fuel, hf⟩ := h
  rcases open_ints Tryz.underlying118 Tryz.underlying5 bytes_cells hf with ⟨hcs, -⟩ | ⟨a, len', cap', zs, hcs, -, hl, hm, hz, hx, hcell, hwz⟩
  · simp [Value.cells] at hcs
    obtain ⟨rfl, rfl, rfl⟩ := hcs
    exact ⟨none, 0, 0, 0, [], rfl, Rd.nil_, fun x hx => (by cases hx), .inl rfl⟩
  · simp [Value.cells] at hcs
    obtain ⟨rfl, rfl, rfl⟩ := hcs
    simp only [if_true] at hz
    obtain ⟨T, h1, h2⟩ := rd_of_ints hl hm (by omega) hcell hwz
    refine ⟨_, _, _, T, _, rfl, h1, h2, .inr ⟨_, _, (congrArg Prod.fst hx), ?_⟩⟩
    simp [lits]

theorem trodAll_five {H : Type} {enc : TypeId × Value → H} {P : Program} {w : World} {base : Nat} {sp : Nat → Bool} {held : Bool} {t0 t1 t2 t3 t4 : TypeId} {args : Array Value} {ds : List (DataW H)} {ps : List MemPlace}
    (h : DataW.TrodAll enc P w base sp held [t0, t1, t2, t3, t4] args.toList ds ps) :
    ∃ v0 v1 v2 v3 v4 d0 d1 d2 d3 d4 p0 p1 p2 p3 p4, args = #[v0, v1, v2, v3, v4] ∧ ds = [d0, d1, d2, d3, d4] ∧ ps = p0 ++ (p1 ++ (p2 ++ (p3 ++ (p4 ++ [])))) ∧ DataW.Trod enc P w base sp held t0 v0 d0 p0 ∧ DataW.Trod enc P w base sp held t1 v1 d1 p1 ∧ DataW.Trod enc P w base sp held t2 v2 d2 p2 ∧ DataW.Trod enc P w base sp held t3 v3 d3 p3 ∧ DataW.Trod enc P w base sp held t4 v4 d4 p4 := by
  obtain ⟨v0, s0, d0, e0, p0, q0, ha, rfl, rfl, k0, h⟩ := trodAll_cons h
  obtain ⟨v1, s1, d1, e1, p1, q1, rfl, rfl, rfl, k1, h⟩ := trodAll_cons h
  obtain ⟨v2, s2, d2, e2, p2, q2, rfl, rfl, rfl, k2, h⟩ := trodAll_cons h
  obtain ⟨v3, s3, d3, e3, p3, q3, rfl, rfl, rfl, k3, h⟩ := trodAll_cons h
  obtain ⟨v4, s4, d4, e4, p4, q4, rfl, rfl, rfl, k4, h⟩ := trodAll_cons h
  obtain ⟨rfl, rfl, rfl⟩ := trodAll_nil h
  exact ⟨v0, v1, v2, v3, v4, d0, d1, d2, d3, d4, p0, p1, p2, p3, p4, by cases args; simp_all, rfl, rfl, k0, k1, k2, k3, k4⟩
end Go.Proofs.YtoaggmegmgdgbaaGreat

namespace Go.Proofs.YtoaggmegmgdgbaaGreat
open Go.ChangeShapes Go.WideShapes Go.ChangeAt Go.RowKit

theorem array6 {α : Type} {cs : Array α} (h : cs.size = 6) : ∃ c0 c1 c2 c3 c4 c5, cs = #[c0, c1, c2, c3, c4, c5] := by
  obtain ⟨l⟩ := cs
  match l, h with
  | [a, b, c, d, e, f], _ => exact ⟨a, b, c, d, e, f, rfl⟩
set_option maxRecDepth 100000 in
theorem leaf_open {W : World} {base : Nat} {v : Value} (h : Value.okWide Tryz.prog W .any base 38 v) :
    ∃ (n1 : Bool) (a1 d1 : ByteArray) (n2 : Bool) (a2 d2 : ByteArray), v = .agg #[.bool n1, .string a1, .string d1, .bool n2, .string a2, .string d2] ∧ a1.size ≤ 9223372036854775807 ∧ d1.size ≤ 9223372036854775807 ∧ a2.size ≤ 9223372036854775807 ∧ d2.size ≤ 9223372036854775807 := by
  simp only [Value.okWide, Tryz.underlying38] at h
  obtain ⟨cs, rfl, hs, ts, h1, -, h3⟩ := h
  have e1 : Tryz.prog.cellTypes Tryz.prog.depth 38 = some [4, 24, 24, 4, 24, 24] := by kernel_rfl
  have e2 : Tryz.prog.cellsOf 38 = 6 := by kernel_rfl
  rw [e1] at h1
  injection h1 with h1
  subst h1
  rw [e2] at hs
  obtain ⟨c0, c1, c2, c3, c4, c5, rfl⟩ := array6 hs
  obtain ⟨u0, hu0, k0⟩ := h3 0 c0 rfl
  obtain ⟨u1, hu1, k1⟩ := h3 1 c1 rfl
  obtain ⟨u2, hu2, k2⟩ := h3 2 c2 rfl
  obtain ⟨u3, hu3, k3⟩ := h3 3 c3 rfl
  obtain ⟨u4, hu4, k4⟩ := h3 4 c4 rfl
  obtain ⟨u5, hu5, k5⟩ := h3 5 c5 rfl
  simp at hu0 hu1 hu2 hu3 hu4 hu5
  subst hu0 hu1 hu2 hu3 hu4 hu5
  simp only [Cell.okWide, Cell.ok, Tryz.underlying4] at k0 k3
  simp only [Cell.okWide, Cell.ok, Tryz.underlying24] at k1 k2 k4 k5
  cases c0 <;> try exact k0.elim
  cases c1 <;> try exact k1.elim
  cases c2 <;> try exact k2.elim
  cases c3 <;> try exact k3.elim
  cases c4 <;> try exact k4.elim
  cases c5 <;> try exact k5.elim
  have mx : IntKind.i64.max = ((9223372036854775807 : Nat) : Int) := by decide
  refine ⟨_, _, _, _, _, _, rfl, Int.ofNat_le.1 ?_, Int.ofNat_le.1 ?_, Int.ofNat_le.1 ?_, Int.ofNat_le.1 ?_⟩
  · rw [← mx]; exact k1
  · rw [← mx]; exact k2
  · rw [← mx]; exact k4
  · rw [← mx]; exact k5
end Go.Proofs.YtoaggmegmgdgbaaGreat
