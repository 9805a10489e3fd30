import Derived.Test.YtoaggmegmgdgbaaGreatPlay0
import Derived.Test.YtoaggmegmgdgbaaGreatLamL
import Derived.Test.YtoaggmegmgdgbaaGreatSame23
import Derived.Test.YtoaggmegmgdgbaaGreatLamM
import Derived.LaidEqlPtr
namespace Go.Proofs.YtoaggmegmgdgbaaGreat
open Go.RowKit Go.Sort
structure PlH (B g2 g4 x : Nat) (vx wv : Value) (L : List Lf) (ds : List Deferred) (w W : World) : Prop where
  lam : LamS W B x vx L
  row : RRow W B wv L
  b2 : Blk W g2 4 #[.bool false]
  b4 : Blk W g4 34 #[wv]
  mks : Marks B ds W
  bel : Below B w W
  lo : B ≤ g2 ∧ B ≤ g4 ∧ B ≤ w.heap.size
theorem PlH.below {B g2 g4 x : Nat} {vx wv : Value} {L : List Lf} {ds : List Deferred} {w W W' : World} (h : PlH B g2 g4 x vx wv L ds w W) (hb : Below W.heap.size W W') : PlH B g2 g4 x vx wv L ds w W' :=
  ⟨h.lam.below hb, RRow.below h.row hb, h.b2.below hb, h.b4.below hb, h.mks.below hb, h.bel.trans (hb.mono (Nat.le_trans h.lo.2.2 h.bel.size)), h.lo⟩
theorem PlH.full {B g2 g4 g6 g7 x : Nat} {vx wv : Value} {L : List Lf} {st lf : Array Value} {ds : List Deferred} {w W : World} (h : PlH B g2 g4 x vx wv L ds w W) (h6 : Blk W g6 91 st) (h7 : Blk W g7 44 lf) : PlS B g2 g4 g6 g7 x vx wv L L st lf ds w W :=
  ⟨h.lam, h.row, h.b2, h.b4, h6, h7, h.mks, h.bel, h.lo⟩
theorem PlS.head {B g2 g4 g6 g7 x : Nat} {vx wv : Value} {L : List Lf} {st lf : Array Value} {ds : List Deferred} {w W : World} (h : PlS B g2 g4 g6 g7 x vx wv L L st lf ds w W) : PlH B g2 g4 x vx wv L ds w W :=
  ⟨h.lam, h.row, h.b2, h.b4, h.mks, h.bel, h.lo⟩
theorem Marks.fresh {lo D : Nat} {ds : List Deferred} {w : World} (h : Marks lo ds w) (hD : w.heap.size ≤ D) : ∀ Ds : List Nat, ds = Ds.map (fun D => { target := .collected D, args := #[] }) → D ∉ Ds := fun Ds e hm => by
  obtain ⟨Es, h1, -, h3⟩ := h
  have hmem : ({ target := .collected D, args := #[] } : Deferred) ∈ ds := by rw [e]; exact List.mem_map_of_mem (f := fun D => ({ target := .collected D, args := #[] } : Deferred)) hm
  rw [h1] at hmem
  obtain ⟨E, hE, he⟩ := List.mem_map.1 hmem
  injection he with he
  injection he with he
  have := heap_some_lt (h3 E hE).2
  omega
theorem PlS.eachHead {B g2 g4 g6 g7 x D : Nat} {vx wv : Value} {L : List Lf} {st lf : Array Value} {ds : List Deferred} {w W W' : World} (h : PlS B g2 g4 g6 g7 x vx wv L L st lf ds w W) (hb : Below W.heap.size W W') (hD : W'.heap[D]? = some (.deferred (some []))) (hlo : W.heap.size ≤ D) : PlH B g2 g4 x vx wv L ({ target := .collected D, args := #[] } :: ds) w W' :=
  have h2 := h.below hb
  ⟨h2.lam, h2.row, h2.b2, h2.b4, h2.mks.cons hD (Nat.le_trans (Nat.le_trans h.lo.2.2 h.bel.size) hlo) (h.mks.fresh hlo), h2.bel, h2.lo⟩
theorem gb_setY {a b : World} {g : Nat} (h : a.grownBy b (some g)) (j : Nat) (v : Value) : a.grownBy (b.setCell ⟨g, j, none⟩ v) (some g) := ⟨h.os, h.tape, h.output, by have := h.size; simp [World.setCell]; omega, fun k hk hn => (Below.heap_setCell b ⟨g, j, none⟩ v k (fun e => hn (by rw [e]))).trans (h.block k hk hn)⟩
theorem gb_trBelow {a b c : World} {r : Option Nat} (h : a.grownBy b r) (hb : Below b.heap.size b c) : a.grownBy c r := ⟨hb.os.trans h.os, hb.tape.trans h.tape, hb.output.trans h.output, Nat.le_trans h.size hb.size, fun k hk hn => (hb.block k (Nat.lt_of_lt_of_le hk h.size)).trans (h.block k hk hn)⟩
theorem info_lamG : ∃ j, Tryz.prog.info? 103 = some j ∧ j.size = 2 := by
  have h : (Tryz.prog.info? 103).map (fun i => i.size) = some 2 := by kernel_rfl
  obtain ⟨j, h1, h2⟩ := Option.map_eq_some_iff.1 h
  exact ⟨j, h1, h2⟩
noncomputable def swCode : Code := (Tryz.f7.body.bind (findBlock 2)).getD .skip
end Go.Proofs.YtoaggmegmgdgbaaGreat
