/- Package itin: Knead. -/
import Derived.Test.YtbddlbhanpjdnaaDoorItO
namespace Go.Proofs.YtbddlbhanpjdnaaDoor
open Go.RowKit Go.Sort

set_option maxRecDepth 100000 in
set_option maxHeartbeats 1000000 in
/-- itin.Knead -/
theorem iKnead_any (n1 : Bool) (a1 d1 : ByteArray) (d : Int) (w : World)
    (z1 : a1.size ≤ 9223372036854775807) (z2 : d1.size ≤ 9223372036854775807) (E : Int) (hE : E = ofE (okA n1 a1 d1) (okA n1 a1 d1) (be (sl d1)) d)
    (PP QQ : List Nat) (hPP : PP = if E = 0 then ofP (be (sl a1)) (be (sl d1)) (be (sl a1)) (be (sl d1)) d.toNat else []) (hQQ : QQ = if E = 0 then ofQ (be (sl a1)) (be (sl d1)) (be (sl a1)) (be (sl d1)) d.toNat else []) :
    Calls Tryd.prog 13 #[.agg #[.bool n1, .string a1, .string d1], .int .i64 d] w (RetRowE PP QQ E w) := by
  have hO := fun W => iOf_any n1 a1 d1 n1 a1 d1 d W z1 z2 z1 z2 E hE PP QQ hPP hQQ
  replace hO := Lib.hid hO
  clear hE hPP hQQ
  go_enter Tryd.func13, Tryd.ntmps13
  go_wp2_with fail
  refine (hO.out _).mono ?_
  rintro en v1 ⟨o1, o2, rfl, ⟨f1, B1, ho1⟩, ⟨f2, B2, ho2⟩, hb⟩
  subst ho1 ho2
  have hBW : Below w.heap.size w v1 := (((Below.refl _ w).alloc (Nat.le_refl _) (.cells #[.bool n1, .string a1, .string d1] 25)).alloc (by simp) (.cells #[.slice none 0 0, .slice none 0 0] 28)).trans (hb.mono (by simp; omega))
  have kr := Blk.below (Blk.new (w.alloc (.cells #[.bool n1, .string a1, .string d1] 25)) 28 #[.slice none 0 0, .slice none 0 0]) hb
  rw [show (w.alloc (.cells #[.bool n1, .string a1, .string d1] 25)).heap.size = w.heap.size + 1 by simp] at kr
  have c0 : v1.cell? ⟨w.heap.size + 1, 0, none⟩ = some (.slice none 0 0) := kr.cell 0
  have c1 : v1.cell? ⟨w.heap.size + 1, 1, none⟩ = some (.slice none 0 0) := kr.cell 1
  have g0 := kr.frozen 0
  have g1 := kr.frozen 1
  have kz := Blk.set_ (Blk.set_ kr 0 (.slice B1 PP.length PP.length)) 1 (.slice B2 QQ.length QQ.length)
  replace kz := Lib.hid kz
  replace hBW := Lib.hid hBW
  replace f1 := Lib.hid f1
  replace f2 := Lib.hid f2
  clear hb kr hO
  go_wp2_with fail
  have q0 := kz.out.cell 0
  have q1 := kz.out.cell 1
  refine bodyPost_ret (v := .tuple #[.agg #[.slice B1 PP.length PP.length, .slice B2 QQ.length QQ.length], .int .i64 E]) (by simp [results, Tryd.results13, go_sem, q0, q1]) rfl ?_
  refine ⟨_, _, rfl, ⟨(f1.out.keep (fun b hb1 hb2 => ?_)).le (by simp; omega), B1, rfl⟩, ⟨(f2.out.keep (fun b hb1 hb2 => ?_)).le (by simp; omega), B2, rfl⟩, (hBW.out.setCell (p := ⟨w.heap.size + 1, 0, none⟩) (by simp) _).setCell (p := ⟨w.heap.size + 1, 1, none⟩) (by simp) _⟩ <;>
    exact (Below.heap_setCell _ _ _ _ (by simp at hb1 ⊢; omega)).trans (Below.heap_setCell _ _ _ _ (by simp at hb1 ⊢; omega))
end Go.Proofs.YtbddlbhanpjdnaaDoor
