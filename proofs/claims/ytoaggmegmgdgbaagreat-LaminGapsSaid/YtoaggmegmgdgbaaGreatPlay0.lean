import Derived.Test.YtoaggmegmgdgbaaGreatSGaps
import Derived.Test.YtoaggmegmgdgbaaGreatLeavF
namespace Go.Proofs.YtoaggmegmgdgbaaGreat
open Go.RowKit Go.Sort Go.Maps
theorem gapsL_bd {L : List Lf} (hlen : L.length ≤ 4096) : (gapsL L).length ≤ 8192 ∧ ∀ x, x ∈ gapsL L → x.length ≤ 8192 := by
  by_cases h : L = []
  · subst h
    exact ⟨by decide, fun x hx => by
      have : x = [((0, 1), (0, 1))] := by simpa [gapsL] using hx
      rw [this]; decide⟩
  · rw [gapsL_form h]
    have hE : (endsR L).length ≤ 8192 := by
      have h1 := riseL_len (endsL L)
      rw [endsL_len] at h1
      unfold endsR
      omega
    refine ⟨?_, fun x hx => Nat.le_trans (grpG_ilen _ x hx) hE⟩
    rw [grpG_len]
    exact Nat.le_trans (repsG_len _) hE
set_option maxRecDepth 100000 in
set_option maxHeartbeats 2000000 in
theorem lGaps_empty (B x : Nat) (v : Value) (w : World) (hS : LamS w B x v []) :
    Calls Tryz.prog 28 #[.pointer (some ⟨x, 0, none⟩)] w (fun e w' => ∃ v' vs, e = .returned v' ∧ NestP w' w.heap.size 71 74 6 leafE [] v' vs (gapsL []) ∧ Below w.heap.size w w') := by
  obtain ⟨A, c, rfl, hA⟩ := LRow.form hS.lam.row
  have hN : Hid (∀ W, Blk W x 103 #[.bool true, .slice A ([] : List Lf).length c] → Calls Tryz.prog 76 #[.pointer (some ⟨x, 0, none⟩)] W (RetVal (.bool false) W)) := Lib.hid (fun W h => lnone_any x true _ W h)
  have hLm := Lib.hid hS.lam
  have hB := Lib.hid (Below.refl w.heap.size w)
  clear hS hA
  simp only [List.length_nil] at hLm hN ⊢
  go_enter Tryz.func28, Tryz.ntmps28
  go_wp2_with fail
  refine (hN.out _ hLm.out.blk).mono ?_
  rintro en w2 ⟨rfl, hb⟩
  replace hB := Lib.hid (hB.out.trans (hb.mono hB.out.size))
  replace hLm := Lib.hid (hLm.out.below hb)
  clear hb hN
  go_upto_region 4 with fail
  have k1 := Lib.hid (Blk.new w2 26 #[.bool false, .string ⟨#[]⟩, .string ⟨#[1]⟩])
  replace hB := Lib.hid (hB.out.alloc hB.out.size (.cells #[.bool false, .string ⟨#[]⟩, .string ⟨#[1]⟩] 26))
  replace hLm := Lib.hid (hLm.out.alloc (.cells #[.bool false, .string ⟨#[]⟩, .string ⟨#[1]⟩] 26))
  generalize hW : w2.alloc (.cells #[.bool false, .string ⟨#[]⟩, .string ⟨#[1]⟩] 26) = w3 at hB hLm k1 ⊢
  generalize hgg : w2.heap.size = g1 at k1 ⊢
  clear hW hgg
  have y1 : w3.cell? ⟨x, 1, none⟩ = some (.slice A 0 c) := hLm.out.blk.cell 1
  have b0 : w3.cell? ⟨g1, 0, none⟩ = some (.bool false) := k1.out.cell 0
  have b1 : w3.cell? ⟨g1, 1, none⟩ = some (.string ⟨#[]⟩) := k1.out.cell 1
  have b2 : w3.cell? ⟨g1, 2, none⟩ = some (.string ⟨#[1]⟩) := k1.out.cell 2
  clear k1 hLm
  go_wp2_with fail
  go_ret
  have kA := Blk.new w3 74 #[.bool false, .string ⟨#[]⟩, .string ⟨#[1]⟩, .bool false, .string ⟨#[]⟩, .string ⟨#[1]⟩]
  have kO := Blk.new (w3.alloc (.cells #[.bool false, .string ⟨#[]⟩, .string ⟨#[1]⟩, .bool false, .string ⟨#[]⟩, .string ⟨#[1]⟩] 74)) 71 #[.slice (some ⟨w3.heap.size, 0, none⟩) 1 1]
  have s0 : Sep w3 ([] : List It) := Sep.nil
  have s1 := s0.newR (a := itRow w.heap.size 74 6 (.slice (some ⟨w3.heap.size, 0, none⟩) 1 1) 1 (leafE ((0, 1), (0, 1)))) (World.grownBy_alloc w3 (.cells #[.bool false, .string ⟨#[]⟩, .string ⟨#[1]⟩, .bool false, .string ⟨#[]⟩, .string ⟨#[1]⟩] 74) none) (own_blk kA rfl hB.out.size (by unfold maxLen; omega)) (fun k hk => by have hk : some w3.heap.size = some k := hk; injection hk with hk; omega)
  rw [World.size_alloc] at kO
  have s2 := s1.new (a := itRow w.heap.size 71 1 (.slice (some ⟨w3.heap.size + 1, 0, none⟩) 1 1) 1 [.slice (some ⟨w3.heap.size, 0, none⟩) 1 1]) (World.grownBy_alloc _ (.cells #[.slice (some ⟨w3.heap.size, 0, none⟩) 1 1] 71) none) (own_blk kO rfl (by have := hB.out.size; omega) (by unfold maxLen; omega)) (fun k hk => by have hk : some (w3.heap.size + 1) = some k := hk; injection hk with hk; simp; omega)
  exact ⟨_, [.slice (some ⟨w3.heap.size, 0, none⟩) 1 1], rfl, ⟨rfl, s2⟩, (hB.out.alloc hB.out.size _).alloc (by have := hB.out.size; simp; omega) _⟩
theorem lGaps_any (B x : Nat) (v : Value) (L : List Lf) (w : World) (hS : LamS w B x v L) :
    Calls Tryz.prog 28 #[.pointer (some ⟨x, 0, none⟩)] w (fun e w' => ∃ v' vs, e = .returned v' ∧ NestP w' w.heap.size 71 74 6 leafE [] v' vs (gapsL L) ∧ Below w.heap.size w w') := by
  by_cases h : L = []
  · subst h
    exact lGaps_empty B x v w hS
  · refine (lGaps_some B x v L w hS.lam hS.ok.ang hS.len h).mono ?_
    rintro e w' ⟨v', vs, rfl, h1, h2⟩
    exact ⟨v', vs, rfl, h1.out, h2.out⟩
section
variable {B g2 g4 g6 g7 x : Nat} {vx wv vx' wv' : Value} {L M L' M' : List Lf} {st lf : Array Value} {ds : List Deferred} {w W W' : World}
end
end Go.Proofs.YtoaggmegmgdgbaaGreat
