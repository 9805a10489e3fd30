/- From a call's outcome to a row: the law returned true, and of the old world nothing has turned. · A ratio as an argument. · A slice of bytes as an argument: what it reads as. · Five parameters. · A row's last steps: a leaf as an argument. -/
import Derived.Test.YtnaadajcehfmiaaDoorRows
import Derived.ProofKit
import Derived.Lib.SmallJoins
import Derived.Test.YtnaadajcehfmiaaDoorMem
import Derived.ChangeSlices
import Derived.SizedLaws
namespace Go.Proofs.YtnaadajcehfmiaaDoor
open Go.ChangeShapes Go.WideShapes Go.ChangeAt Go.RowKit

theorem own_none : ownKnob Tryd.prog.godebug = none := by kernel_rfl
theorem laid_out : laidOutB Tryd.prog = true := by kernel_rfl

section
variable {H : Type} {enc : TypeId × Value → H} {P : Program}
/-- What the arguments read as, they read as later too. -/
theorem args_later (hl : laidOutB P = true) {W W' : World} (hb : Below W.heap.size W W') :
    ∀ {ts : List TypeId} {vs : List Value} {ds : List (DataW H)} {ps : List MemPlace}, (ts.all fun t => P.readableRec t && decide (t < P.types.size)) = true →
      DataW.TrodAll enc P W 0 (fun _ => true) true ts vs ds ps → (∀ x ∈ ps, x.block < W.heap.size) → DataW.TrodAll enc P W' 0 (fun b => decide (b < W.heap.size)) true ts vs ds ps
  | [], [], [], _, _, h, _ => h
  | [], _ :: _, _, _, _, h, _ => h.elim
  | [], [], _ :: _, _, _, h, _ => h.elim
  | _ :: _, [], _, _, _, h, _ => h.elim
  | _ :: _, _ :: _, [], _, _, h, _ => h.elim
  | t :: ts, v :: vs, d :: ds, ps, ht, ⟨p, q, h1, h2, h3⟩, hlt => by
    simp only [List.all_cons, Bool.and_eq_true, decide_eq_true_eq] at ht
    obtain ⟨⟨r1, r2⟩, r3⟩ := ht
    exact ⟨p, q, Below.trod hl r1 r2 h1 hb (fun x hx => hlt x (by rw [h3]; simp [hx])), args_later hl hb (by simpa using r3) h2 (fun x hx => hlt x (by rw [h3]; simp [hx])), h3⟩

/-- The row's last step, for a law that is true and leaves its arguments alone. -/
theorem post_law {f : Func} {s : ChangeSpec} {apart fresh handsOn : Bool} {W W' : World} {args : Array Value} {v : Value} {ds gs : List (DataW H)} {before : List MemPlace}
    (hl : laidOutB P = true) (hts : (f.params.toList.all fun t => P.readableRec t && decide (t < P.types.size)) = true) (hvs : s.vars = [])
    (hW : DataW.Whole enc P f.params.toList s.vars apart W args.toList ds gs before) (hb : Below W.heap.size W W')
    (hfa : (s.fn H (ds ++ gs)).args = ds) (hfv : (s.fn H (ds ++ gs)).vars = gs)
    (hres : ∀ (b : Nat) (sp : Nat → Bool) (hd : Bool), DataW.TrodAll enc P W' b sp hd f.resultTypes.toList (v.resultList f.resultTypes.size) (s.fn H (ds ++ gs)).results []) :
    s.post enc P f apart fresh handsOn false W args v W' := by
  have hlt : ∀ p ∈ before, p.block < W.heap.size := fun p hp => hW.lt p hp
  obtain ⟨p, q, h1, h2, h3, -, -⟩ := id hW
  refine ⟨ds, gs, before, [], p, q, hW, hres _ _ _, ?_, ?_, hb.frame _, fun h => nomatch h⟩
  · rw [hfa]
    exact args_later hl hb hts h1 (fun x hx => hlt x (by rw [h3]; simp [hx]))
  · rw [hfv]
    rw [hvs] at h2 ⊢
    obtain ⟨rfl, rfl⟩ := trodVars_none h2
    rfl
end
end Go.Proofs.YtnaadajcehfmiaaDoor

namespace Go.Proofs.YtnaadajcehfmiaaDoor
open Go.ChangeShapes Go.WideShapes Go.ChangeAt Go.RowKit

end Go.Proofs.YtnaadajcehfmiaaDoor

namespace Go.Proofs.YtnaadajcehfmiaaDoor
open Go.ChangeShapes Go.WideShapes Go.ChangeAt Go.RowKit

theorem bytes_cells : Tryd.prog.cellsOf 5 = 1 := by kernel_rfl
theorem bytes_bytes : Tryd.prog.bytesOf 5 = 1 := by kernel_rfl

/-- The cells of a stretch of bytes, as a slice that reads. -/
theorem rd_of_ints {W : World} {a : Addr} {len cap : Nat} {zs : List Int} (hl : len ≤ cap) (hm : cap ≤ maxLen) (hz : len ≤ zs.length) (hcell : ∀ i, i < zs.length → W.cell? (a.add i) = some (.int .u8 (zs.getD i 0))) (hw : ∀ n ∈ zs, (Lit.int .u8 n).wf = true) :
    ∃ T, Rd .u8 T W (.slice (some a) len cap) ((zs.take len).map Int.toNat) ∧ ∀ x, x ∈ (zs.take len).map Int.toNat → x < 256 := by
  have hb : ∀ n ∈ zs, 0 ≤ n ∧ n < 256 := fun n hn => by
    have h := hw n hn
    have mx : IntKind.u8.max = 255 := by decide
    have mn : IntKind.u8.min = 0 := by decide
    simp only [Lit.wf, Bool.and_eq_true, decide_eq_true_eq] at h
    omega
  have hlen : ((zs.take len).map Int.toNat).length = len := by simp; omega
  have hlt : ∀ x, x ∈ (zs.take len).map Int.toNat → x < 256 := fun x hx => by
    obtain ⟨n, hn, rfl⟩ := List.mem_map.1 hx
    have := hb n (List.mem_of_mem_take hn)
    omega
  by_cases h0 : len = 0
  · subst h0
    refine ⟨0, ⟨some a, cap, by simp, by simp, hm, fun h => absurd (by simp) h⟩, hlt⟩
  · have hc0 := hcell 0 (by omega)
    rw [show a.add 0 = a by simp [Addr.add]] at hc0
    obtain ⟨g, off, sp⟩ := a
    have hblk : ∃ cs T fr, W.heap[g]? = some (.cells cs T fr) ∧ sp = none := by
      unfold World.cell? at hc0
      simp only at hc0
      split at hc0
      · rename_i c T fr hh
        split at hc0
        · cases hc0
        · rename_i hsp
          exact ⟨c, T, fr, hh, by simpa using hsp⟩
      · cases hc0
    obtain ⟨cs, T, fr, hh, rfl⟩ := hblk
    refine ⟨T, ⟨some ⟨g, off, none⟩, cap, by rw [hlen], by rw [hlen]; exact hl, hm, fun _ => ⟨g, off, fun j => if off ≤ j then ((zs.take len).map Int.toNat)[j - off]? else none, rfl, ⟨cs, fr, hh, fun j x hj => ?_⟩, fun j x hj => ?_⟩⟩, hlt⟩
    · simp only at hj
      split at hj
      · rename_i hoj
        have hjl := lt_of_getElem? hj
        rw [hlen] at hjl
        have hc := hcell (j - off) (by omega)
        have ha : (⟨g, off, none⟩ : Addr).add (j - off) = ⟨g, j, none⟩ := by
          unfold Addr.add
          split
          · rename_i h; rw [show off = j by omega]
          · simp; omega
        rw [ha, cell_of_row W g j cs T fr hh] at hc
        rw [hc]
        have hzl : j - off < zs.length := by omega
        have e : zs.getD (j - off) 0 = zs[j - off] := by simp [List.getD, hzl]
        have hx : x = (zs[j - off]).toNat := by
          rw [List.getElem?_map, List.getElem?_take_of_lt hjl, List.getElem?_eq_getElem hzl] at hj
          simpa using hj.symm
        have h2 := hb _ (List.getElem_mem hzl)
        rw [e, hx, Int.toNat_of_nonneg h2.1]
      · cases hj
    · simp only [Nat.le_add_right, if_true, Nat.add_sub_cancel_left]
      exact hj

set_option maxRecDepth 100000 in
/-- A slice of bytes that comes in. -/
theorem bytes_open {H : Type} {enc : TypeId × Value → H} {W : World} {base : Nat} {v : Value} {d : DataW H} {ps : List MemPlace}
    (hv : Value.okWide Tryd.prog W .any base 67 v) (h : DataW.Trod enc Tryd.prog W 0 (fun _ => true) true 67 v d ps) :
    ∃ (A : Option Addr) (L c : Nat) (T : TypeId) (l : List Nat), v = .slice A L c ∧ Rd .u8 T W (.slice A L c) l ∧ (∀ x, x ∈ l → x < 256) ∧ (l = [] ∨ ∃ es sp, d = .slice es sp ∧ es.length = l.length) := by
  obtain ⟨a0, len, cap, rfl⟩ := okWide_slice Tryd.underlying67 hv
  obtain ⟨fuel, hf⟩ := h
  rcases open_ints Tryd.underlying67 Tryd.underlying5 bytes_cells hf with ⟨hcs, -⟩ | ⟨a, len', cap', zs, hcs, -, hl, hm, hz, hx, hcell, hwz⟩
  · simp [Value.cells] at hcs
    obtain ⟨rfl, rfl, rfl⟩ := hcs
    exact ⟨none, 0, 0, 0, [], rfl, Rd.nil_, fun x hx => (by cases hx), .inl rfl⟩
  · simp [Value.cells] at hcs
    obtain ⟨rfl, rfl, rfl⟩ := hcs
    simp only [if_true] at hz
    obtain ⟨T, h1, h2⟩ := rd_of_ints hl hm (by omega) hcell hwz
    refine ⟨_, _, _, T, _, rfl, h1, h2, .inr ⟨_, _, (congrArg Prod.fst hx), ?_⟩⟩
    simp [lits]

theorem trodAll_five {H : Type} {enc : TypeId × Value → H} {P : Program} {w : World} {base : Nat} {sp : Nat → Bool} {held : Bool} {t0 t1 t2 t3 t4 : TypeId} {args : Array Value} {ds : List (DataW H)} {ps : List MemPlace}
    (h : DataW.TrodAll enc P w base sp held [t0, t1, t2, t3, t4] args.toList ds ps) :
    ∃ v0 v1 v2 v3 v4 d0 d1 d2 d3 d4 p0 p1 p2 p3 p4, args = #[v0, v1, v2, v3, v4] ∧ ds = [d0, d1, d2, d3, d4] ∧ ps = p0 ++ (p1 ++ (p2 ++ (p3 ++ (p4 ++ [])))) ∧ DataW.Trod enc P w base sp held t0 v0 d0 p0 ∧ DataW.Trod enc P w base sp held t1 v1 d1 p1 ∧ DataW.Trod enc P w base sp held t2 v2 d2 p2 ∧ DataW.Trod enc P w base sp held t3 v3 d3 p3 ∧ DataW.Trod enc P w base sp held t4 v4 d4 p4 := by
  obtain ⟨v0, s0, d0, e0, p0, q0, ha, rfl, rfl, k0, h⟩ := trodAll_cons h
  obtain ⟨v1, s1, d1, e1, p1, q1, rfl, rfl, rfl, k1, h⟩ := trodAll_cons h
  obtain ⟨v2, s2, d2, e2, p2, q2, rfl, rfl, rfl, k2, h⟩ := trodAll_cons h
  obtain ⟨v3, s3, d3, e3, p3, q3, rfl, rfl, rfl, k3, h⟩ := trodAll_cons h
  obtain ⟨v4, s4, d4, e4, p4, q4, rfl, rfl, rfl, k4, h⟩ := trodAll_cons h
  obtain ⟨rfl, rfl, rfl⟩ := trodAll_nil h
  exact ⟨v0, v1, v2, v3, v4, d0, d1, d2, d3, d4, p0, p1, p2, p3, p4, by cases args; simp_all, rfl, rfl, k0, k1, k2, k3, k4⟩
end Go.Proofs.YtnaadajcehfmiaaDoor

namespace Go.Proofs.YtnaadajcehfmiaaDoor
open Go.ChangeShapes Go.WideShapes Go.ChangeAt Go.RowKit

theorem array6 {α : Type} {cs : Array α} (h : cs.size = 6) : ∃ c0 c1 c2 c3 c4 c5, cs = #[c0, c1, c2, c3, c4, c5] := by
  obtain ⟨l⟩ := cs
  match l, h with
  | [a, b, c, d, e, f], _ => exact ⟨a, b, c, d, e, f, rfl⟩
end Go.Proofs.YtnaadajcehfmiaaDoor
