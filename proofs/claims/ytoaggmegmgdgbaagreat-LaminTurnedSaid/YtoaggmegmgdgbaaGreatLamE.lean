/- Package lamin: turned, Turn. -/
import Derived.Test.YtoaggmegmgdgbaaGreatLamD
namespace Go.Proofs.YtoaggmegmgdgbaaGreat
open Go.RowKit Go.Sort

/-- What Turn tells. -/
def TurnLf (n1 : Bool) (a1 d1 : ByteArray) (n2 : Bool) (a2 d2 : ByteArray) (d : Int) : Value × Bool × Int :=
  if chkLf n1 a1 d1 n2 a2 d2 = 0 then turnLf ((be (sl a1), be (sl d1)), (be (sl a2), be (sl d2))) d else (leaf0, false, chkLf n1 a1 d1 n2 a2 d2)
theorem turnLf_form (l : Lf) (d : Int) : ∃ (c : (Bool × ByteArray × ByteArray) × (Bool × ByteArray × ByteArray)) (b : Bool) (e : Int), turnLf l d = (.agg #[.bool c.1.1, .string c.1.2.1, .string c.1.2.2, .bool c.2.1, .string c.2.2.1, .string c.2.2.2], b, e) := by
  unfold turnLf
  split
  · split
    · exact ⟨((false, ⟨#[]⟩, ⟨#[]⟩), (false, ⟨#[]⟩, ⟨#[]⟩)), _, _, rfl⟩
    · exact ⟨((false, natS _, natS _), (false, natS _, natS _)), _, _, rfl⟩
  · exact ⟨((false, ⟨#[]⟩, ⟨#[]⟩), (false, ⟨#[]⟩, ⟨#[]⟩)), _, _, rfl⟩

set_option maxRecDepth 100000 in
set_option maxHeartbeats 2000000 in
/-- lamin.turned -/
theorem lturned_any (l : Lf) (d : Int) (w : World) (hl : AngL l) :
    Calls Tryz.prog 69 #[.agg #[.bool false, .string (natS l.1.1), .string (natS l.1.2), .bool false, .string (natS l.2.1), .string (natS l.2.2)], .int .i64 d] w (RetVal (.tuple #[(turnLf l d).1, .bool (turnLf l d).2.1, .int .i64 (turnLf l d).2.2]) w) := by
  obtain ⟨RV, hr⟩ : ∃ r, r = turnLf l d := ⟨_, rfl⟩
  rw [← hr]
  unfold turnLf at hr
  cases h1 : roundB d
  case false =>
    rw [h1] at hr
    replace hr := Lib.hid hr
    have hA := Lib.hid (fun W => lturn0 l.1 d hl.1 h1 W)
    clear h1 hl
    have hBW : Below w.heap.size w ((w.alloc (.cells #[.bool false, .string (natS l.1.1), .string (natS l.1.2), .bool false, .string (natS l.2.1), .string (natS l.2.2)] 38)).alloc (.cells #[.bool false, .string ⟨#[]⟩, .string ⟨#[]⟩, .bool false, .string ⟨#[]⟩, .string ⟨#[]⟩] 38)) := (((Below.refl _ w).alloc (Nat.le_refl _) _).alloc (by simp) _)
    have kk0 := ((Blk.new w 38 #[.bool false, .string (natS l.1.1), .string (natS l.1.2), .bool false, .string (natS l.2.1), .string (natS l.2.2)]).alloc (.cells #[.bool false, .string ⟨#[]⟩, .string ⟨#[]⟩, .bool false, .string ⟨#[]⟩, .string ⟨#[]⟩] 38))
    have kk1 := (Blk.new (w.alloc (.cells #[.bool false, .string (natS l.1.1), .string (natS l.1.2), .bool false, .string (natS l.2.1), .string (natS l.2.2)] 38)) 38 #[.bool false, .string ⟨#[]⟩, .string ⟨#[]⟩, .bool false, .string ⟨#[]⟩, .string ⟨#[]⟩])
    simp only [World.size_alloc] at kk1
    have K := Lib.hid ((KeepT.one kk0).snoc kk1)
    have hB := Lib.hid hBW
    clear hBW kk0 kk1
    go_enter Tryz.func69, Tryz.ntmps69
    go_wp2_with fail
    refine (hA.out _).mono ?_
    rintro en w1 ⟨rfl, hb⟩
    have hBn := hB.out.trans (hb.mono hB.out.size)
    replace hB := Lib.hid (hBn.alloc hBn.size (.cells #[.bool false, .string ⟨#[]⟩, .string ⟨#[]⟩] 26))
    clear hBn
    replace K := Lib.hid ((K.out.below hb).alloc (.cells #[.bool false, .string ⟨#[]⟩, .string ⟨#[]⟩] 26))
    replace K := Lib.hid (K.out.snoc (Blk.new w1 26 #[.bool false, .string ⟨#[]⟩, .string ⟨#[]⟩]))
    clear  hb hA
    go_upto_region 2 with fail
    generalize hW : w1.alloc (.cells #[.bool false, .string ⟨#[]⟩, .string ⟨#[]⟩] 26) = w2 at hB K  ⊢
    generalize hg : w1.heap.size = ga at K  ⊢
    clear hW hg w1
    have f10 := (K.out.at_ 1 rfl).frozen 0
    have f11 := (K.out.at_ 1 rfl).frozen 1
    have f12 := (K.out.at_ 1 rfl).frozen 2
    have f13 := (K.out.at_ 1 rfl).frozen 3
    have f14 := (K.out.at_ 1 rfl).frozen 4
    have f15 := (K.out.at_ 1 rfl).frozen 5
    have rr0 : w2.cell? ⟨w.heap.size + 1, 0, none⟩ = some (.bool false) := (K.out.at_ 1 rfl).cell 0
    have rr1 : w2.cell? ⟨w.heap.size + 1, 1, none⟩ = some (.string ⟨#[]⟩) := (K.out.at_ 1 rfl).cell 1
    have rr2 : w2.cell? ⟨w.heap.size + 1, 2, none⟩ = some (.string ⟨#[]⟩) := (K.out.at_ 1 rfl).cell 2
    have rr3 : w2.cell? ⟨w.heap.size + 1, 3, none⟩ = some (.bool false) := (K.out.at_ 1 rfl).cell 3
    have rr4 : w2.cell? ⟨w.heap.size + 1, 4, none⟩ = some (.string ⟨#[]⟩) := (K.out.at_ 1 rfl).cell 4
    have rr5 : w2.cell? ⟨w.heap.size + 1, 5, none⟩ = some (.string ⟨#[]⟩) := (K.out.at_ 1 rfl).cell 5
    have KZ := Lib.hid (Blk.set_ (Blk.set_ (Blk.set_ (Blk.set_ (Blk.set_ (Blk.set_ (K.out.at_ 1 rfl) 0 (.bool false)) 1 (.string ⟨#[]⟩)) 2 (.string ⟨#[]⟩)) 3 (.bool false)) 4 (.string ⟨#[]⟩)) 5 (.string ⟨#[]⟩))
    have hBZ := Lib.hid ((((((hB.out.setCell (p := ⟨w.heap.size + 1, 0, none⟩) (by simp; try omega) (.bool false)).setCell (p := ⟨w.heap.size + 1, 1, none⟩) (by simp; try omega) (.string ⟨#[]⟩)).setCell (p := ⟨w.heap.size + 1, 2, none⟩) (by simp; try omega) (.string ⟨#[]⟩)).setCell (p := ⟨w.heap.size + 1, 3, none⟩) (by simp; try omega) (.bool false)).setCell (p := ⟨w.heap.size + 1, 4, none⟩) (by simp; try omega) (.string ⟨#[]⟩)).setCell (p := ⟨w.heap.size + 1, 5, none⟩) (by simp; try omega) (.string ⟨#[]⟩))
    clear K hB 
    go_wp2_with fail
    have q0 := KZ.out.cell 0
    have q1 := KZ.out.cell 1
    have q2 := KZ.out.cell 2
    have q3 := KZ.out.cell 3
    have q4 := KZ.out.cell 4
    have q5 := KZ.out.cell 5
    refine bodyPost_ret (v := .tuple #[.agg #[.bool false, .string ⟨#[]⟩, .string ⟨#[]⟩, .bool false, .string ⟨#[]⟩, .string ⟨#[]⟩], .bool false, .int .i64 2]) (by simp [results, Tryz.results69, go_sem, q0, q1, q2, q3, q4, q5]) rfl ⟨by rw [hr.out]; rfl, hBZ.out⟩
  case true =>
    rw [h1, if_pos (by rfl)] at hr
    replace hr := Lib.hid hr
    have hA := Lib.hid (fun W => lturn1 l.1 d hl.1 h1 W)
    have hC := Lib.hid (fun W => lturn1 l.2 d hl.2 h1 W)
    have a1 := hl.1.trn d.toNat
    have a2 := hl.2.trn d.toNat
    obtain ⟨p, hp⟩ : ∃ p, p = trnP d.toNat l.1 := ⟨_, rfl⟩
    obtain ⟨q, hq⟩ : ∃ p, p = trnP d.toNat l.2 := ⟨_, rfl⟩
    replace hr := hr.out
    rw [← hp] at hr hA a1
    rw [← hq] at hr hC a2
    replace hr := Lib.hid hr
    obtain ⟨m, hm⟩ : ∃ m, m = mkL p q := ⟨_, rfl⟩
    replace hr := hr.out
    rw [← hm] at hr
    replace hr := Lib.hid hr
    have hL : Hid (∀ W, Calls Tryz.prog 75 #[.agg #[.bool false, .string (natS p.1), .string (natS p.2)], .agg #[.bool false, .string (natS q.1), .string (natS q.2)]] W (RetVal (.agg #[.bool false, .string (natS m.1.1), .string (natS m.1.2), .bool false, .string (natS m.2.1), .string (natS m.2.2)]) W)) := Lib.hid (fun W => by
      have := lleaf_any p q W a1 a2
      rw [← hm] at this
      exact this)
    clear h1 hl hp hq hm a1 a2
    have e0 := pair_cases p q
    have hBW : Below w.heap.size w ((w.alloc (.cells #[.bool false, .string (natS l.1.1), .string (natS l.1.2), .bool false, .string (natS l.2.1), .string (natS l.2.2)] 38)).alloc (.cells #[.bool false, .string ⟨#[]⟩, .string ⟨#[]⟩, .bool false, .string ⟨#[]⟩, .string ⟨#[]⟩] 38)) := (((Below.refl _ w).alloc (Nat.le_refl _) _).alloc (by simp) _)
    have kk0 := ((Blk.new w 38 #[.bool false, .string (natS l.1.1), .string (natS l.1.2), .bool false, .string (natS l.2.1), .string (natS l.2.2)]).alloc (.cells #[.bool false, .string ⟨#[]⟩, .string ⟨#[]⟩, .bool false, .string ⟨#[]⟩, .string ⟨#[]⟩] 38))
    have kk1 := (Blk.new (w.alloc (.cells #[.bool false, .string (natS l.1.1), .string (natS l.1.2), .bool false, .string (natS l.2.1), .string (natS l.2.2)] 38)) 38 #[.bool false, .string ⟨#[]⟩, .string ⟨#[]⟩, .bool false, .string ⟨#[]⟩, .string ⟨#[]⟩])
    simp only [World.size_alloc] at kk1
    have K := Lib.hid ((KeepT.one kk0).snoc kk1)
    have hB := Lib.hid hBW
    clear hBW kk0 kk1
    rcases e0 with ⟨e0, x1, x2⟩ | ⟨e0, x1, x2⟩ | ⟨e0, x1⟩
    all_goals first | replace hr := Lib.hid (hr.out.trans (if_pos e0)) | replace hr := Lib.hid (hr.out.trans (if_neg e0))
    all_goals clear e0
    all_goals
        go_enter Tryz.func69, Tryz.ntmps69
        go_wp2_with fail
        refine (hA.out _).mono ?_
        rintro en w1 ⟨rfl, hb⟩
        have hBn := hB.out.trans (hb.mono hB.out.size)
        replace hB := Lib.hid (hBn.alloc hBn.size (.cells #[.bool false, .string (natS p.1), .string (natS p.2)] 26))
        clear hBn
        replace K := Lib.hid ((K.out.below hb).alloc (.cells #[.bool false, .string (natS p.1), .string (natS p.2)] 26))
        replace K := Lib.hid (K.out.snoc (Blk.new w1 26 #[.bool false, .string (natS p.1), .string (natS p.2)]))
        clear  hb hA
        go_upto_region 2 with fail
        generalize hW : w1.alloc (.cells #[.bool false, .string (natS p.1), .string (natS p.2)] 26) = w2 at hB K  ⊢
        generalize hg : w1.heap.size = ga at K  ⊢
        clear hW hg w1
        have ll0 : w2.cell? ⟨w.heap.size, 0, none⟩ = some (.bool false) := (K.out.at_ 0 rfl).cell 0
        have ll1 : w2.cell? ⟨w.heap.size, 1, none⟩ = some (.string (natS l.1.1)) := (K.out.at_ 0 rfl).cell 1
        have ll2 : w2.cell? ⟨w.heap.size, 2, none⟩ = some (.string (natS l.1.2)) := (K.out.at_ 0 rfl).cell 2
        have ll3 : w2.cell? ⟨w.heap.size, 3, none⟩ = some (.bool false) := (K.out.at_ 0 rfl).cell 3
        have ll4 : w2.cell? ⟨w.heap.size, 4, none⟩ = some (.string (natS l.2.1)) := (K.out.at_ 0 rfl).cell 4
        have ll5 : w2.cell? ⟨w.heap.size, 5, none⟩ = some (.string (natS l.2.2)) := (K.out.at_ 0 rfl).cell 5
        go_wp2_with fail
        refine (hC.out _).mono ?_
        rintro en w3 ⟨rfl, hb⟩
        have hBn := hB.out.trans (hb.mono hB.out.size)
        replace hB := Lib.hid (hBn.alloc hBn.size (.cells #[.bool false, .string (natS q.1), .string (natS q.2)] 26))
        clear hBn
        replace K := Lib.hid ((K.out.below hb).alloc (.cells #[.bool false, .string (natS q.1), .string (natS q.2)] 26))
        replace K := Lib.hid (K.out.snoc (Blk.new w3 26 #[.bool false, .string (natS q.1), .string (natS q.2)]))
        clear ll0 ll1 ll2 ll3 ll4 ll5 hb hC
        go_upto_region 5 with fail
        generalize hW : w3.alloc (.cells #[.bool false, .string (natS q.1), .string (natS q.2)] 26) = w4 at hB K  ⊢
        generalize hg : w3.heap.size = gb at K  ⊢
        clear hW hg w3
        have aa0 : w4.cell? ⟨ga, 0, none⟩ = some (.bool false) := (K.out.at_ 2 rfl).cell 0
        have aa1 : w4.cell? ⟨ga, 1, none⟩ = some (.string (natS p.1)) := (K.out.at_ 2 rfl).cell 1
        have aa2 : w4.cell? ⟨ga, 2, none⟩ = some (.string (natS p.2)) := (K.out.at_ 2 rfl).cell 2
        have bb0 : w4.cell? ⟨gb, 0, none⟩ = some (.bool false) := (K.out.at_ 3 rfl).cell 0
        have bb1 : w4.cell? ⟨gb, 1, none⟩ = some (.string (natS q.1)) := (K.out.at_ 3 rfl).cell 1
        have bb2 : w4.cell? ⟨gb, 2, none⟩ = some (.string (natS q.2)) := (K.out.at_ 3 rfl).cell 2
    · skip
      have f10 := (K.out.at_ 1 rfl).frozen 0
      have f11 := (K.out.at_ 1 rfl).frozen 1
      have f12 := (K.out.at_ 1 rfl).frozen 2
      have f13 := (K.out.at_ 1 rfl).frozen 3
      have f14 := (K.out.at_ 1 rfl).frozen 4
      have f15 := (K.out.at_ 1 rfl).frozen 5
      have rr0 : w4.cell? ⟨w.heap.size + 1, 0, none⟩ = some (.bool false) := (K.out.at_ 1 rfl).cell 0
      have rr1 : w4.cell? ⟨w.heap.size + 1, 1, none⟩ = some (.string ⟨#[]⟩) := (K.out.at_ 1 rfl).cell 1
      have rr2 : w4.cell? ⟨w.heap.size + 1, 2, none⟩ = some (.string ⟨#[]⟩) := (K.out.at_ 1 rfl).cell 2
      have rr3 : w4.cell? ⟨w.heap.size + 1, 3, none⟩ = some (.bool false) := (K.out.at_ 1 rfl).cell 3
      have rr4 : w4.cell? ⟨w.heap.size + 1, 4, none⟩ = some (.string ⟨#[]⟩) := (K.out.at_ 1 rfl).cell 4
      have rr5 : w4.cell? ⟨w.heap.size + 1, 5, none⟩ = some (.string ⟨#[]⟩) := (K.out.at_ 1 rfl).cell 5
      have KZ := Lib.hid (Blk.set_ (Blk.set_ (Blk.set_ (Blk.set_ (Blk.set_ (Blk.set_ (K.out.at_ 1 rfl) 0 (.bool false)) 1 (.string ⟨#[]⟩)) 2 (.string ⟨#[]⟩)) 3 (.bool false)) 4 (.string ⟨#[]⟩)) 5 (.string ⟨#[]⟩))
      have hBZ := Lib.hid ((((((hB.out.setCell (p := ⟨w.heap.size + 1, 0, none⟩) (by simp; try omega) (.bool false)).setCell (p := ⟨w.heap.size + 1, 1, none⟩) (by simp; try omega) (.string ⟨#[]⟩)).setCell (p := ⟨w.heap.size + 1, 2, none⟩) (by simp; try omega) (.string ⟨#[]⟩)).setCell (p := ⟨w.heap.size + 1, 3, none⟩) (by simp; try omega) (.bool false)).setCell (p := ⟨w.heap.size + 1, 4, none⟩) (by simp; try omega) (.string ⟨#[]⟩)).setCell (p := ⟨w.heap.size + 1, 5, none⟩) (by simp; try omega) (.string ⟨#[]⟩))
      clear K hB 
      go_wp2_with fail
      have q0 := KZ.out.cell 0
      have q1 := KZ.out.cell 1
      have q2 := KZ.out.cell 2
      have q3 := KZ.out.cell 3
      have q4 := KZ.out.cell 4
      have q5 := KZ.out.cell 5
      refine bodyPost_ret (v := .tuple #[.agg #[.bool false, .string ⟨#[]⟩, .string ⟨#[]⟩, .bool false, .string ⟨#[]⟩, .string ⟨#[]⟩], .bool false, .int .i64 0]) (by simp [results, Tryz.results69, go_sem, q0, q1, q2, q3, q4, q5]) rfl ⟨by rw [hr.out]; rfl, hBZ.out⟩
    all_goals
        go_wp2_with fail
        refine (hL.out _).mono ?_
        rintro en w5 ⟨rfl, hb⟩
        replace hB := Lib.hid (hB.out.trans (hb.mono hB.out.size))
        replace K := Lib.hid ((K.out.below hb))
        clear aa0 aa1 aa2 bb0 bb1 bb2 hb hL
        have f10 := (K.out.at_ 1 rfl).frozen 0
        have f11 := (K.out.at_ 1 rfl).frozen 1
        have f12 := (K.out.at_ 1 rfl).frozen 2
        have f13 := (K.out.at_ 1 rfl).frozen 3
        have f14 := (K.out.at_ 1 rfl).frozen 4
        have f15 := (K.out.at_ 1 rfl).frozen 5
        have rr0 : w5.cell? ⟨w.heap.size + 1, 0, none⟩ = some (.bool false) := (K.out.at_ 1 rfl).cell 0
        have rr1 : w5.cell? ⟨w.heap.size + 1, 1, none⟩ = some (.string ⟨#[]⟩) := (K.out.at_ 1 rfl).cell 1
        have rr2 : w5.cell? ⟨w.heap.size + 1, 2, none⟩ = some (.string ⟨#[]⟩) := (K.out.at_ 1 rfl).cell 2
        have rr3 : w5.cell? ⟨w.heap.size + 1, 3, none⟩ = some (.bool false) := (K.out.at_ 1 rfl).cell 3
        have rr4 : w5.cell? ⟨w.heap.size + 1, 4, none⟩ = some (.string ⟨#[]⟩) := (K.out.at_ 1 rfl).cell 4
        have rr5 : w5.cell? ⟨w.heap.size + 1, 5, none⟩ = some (.string ⟨#[]⟩) := (K.out.at_ 1 rfl).cell 5
        have KZ := Lib.hid (Blk.set_ (Blk.set_ (Blk.set_ (Blk.set_ (Blk.set_ (Blk.set_ (K.out.at_ 1 rfl) 0 (.bool false)) 1 (.string (natS m.1.1))) 2 (.string (natS m.1.2))) 3 (.bool false)) 4 (.string (natS m.2.1))) 5 (.string (natS m.2.2)))
        have hBZ := Lib.hid ((((((hB.out.setCell (p := ⟨w.heap.size + 1, 0, none⟩) (by simp; try omega) (.bool false)).setCell (p := ⟨w.heap.size + 1, 1, none⟩) (by simp; try omega) (.string (natS m.1.1))).setCell (p := ⟨w.heap.size + 1, 2, none⟩) (by simp; try omega) (.string (natS m.1.2))).setCell (p := ⟨w.heap.size + 1, 3, none⟩) (by simp; try omega) (.bool false)).setCell (p := ⟨w.heap.size + 1, 4, none⟩) (by simp; try omega) (.string (natS m.2.1))).setCell (p := ⟨w.heap.size + 1, 5, none⟩) (by simp; try omega) (.string (natS m.2.2)))
        clear K hB 
        go_wp2_with fail
        have q0 := KZ.out.cell 0
        have q1 := KZ.out.cell 1
        have q2 := KZ.out.cell 2
        have q3 := KZ.out.cell 3
        have q4 := KZ.out.cell 4
        have q5 := KZ.out.cell 5
        refine bodyPost_ret (v := .tuple #[.agg #[.bool false, .string (natS m.1.1), .string (natS m.1.2), .bool false, .string (natS m.2.1), .string (natS m.2.2)], .bool true, .int .i64 0]) (by simp [results, Tryz.results69, go_sem, q0, q1, q2, q3, q4, q5]) rfl ⟨by rw [hr.out]; rfl, hBZ.out⟩

set_option maxRecDepth 100000 in
set_option maxHeartbeats 2000000 in
/-- lamin.Turn -/
theorem lTurn_any (n1 : Bool) (a1 d1 : ByteArray) (n2 : Bool) (a2 d2 : ByteArray) (d : Int) (w : World) (z1 : a1.size ≤ 9223372036854775807) (y1 : d1.size ≤ 9223372036854775807) (z2 : a2.size ≤ 9223372036854775807) (y2 : d2.size ≤ 9223372036854775807) :
    Calls Tryz.prog 20 #[.agg #[.bool n1, .string a1, .string d1, .bool n2, .string a2, .string d2], .int .i64 d] w (RetVal (.tuple #[(TurnLf n1 a1 d1 n2 a2 d2 d).1, .bool (TurnLf n1 a1 d1 n2 a2 d2 d).2.1, .int .i64 (TurnLf n1 a1 d1 n2 a2 d2 d).2.2]) w) := by
  have hA := Lib.hid (fun W => lCheck_any n1 a1 d1 n2 a2 d2 W z1 y1 z2 y2)
  obtain ⟨RV, hr⟩ : ∃ r, r = TurnLf n1 a1 d1 n2 a2 d2 d := ⟨_, rfl⟩
  rw [← hr]
  unfold TurnLf at hr
  have k1 := @chkLf_zero n1 a1 d1 n2 a2 d2
  obtain ⟨r, h1⟩ : ∃ r, chkLf n1 a1 d1 n2 a2 d2 = r := ⟨_, rfl⟩
  rw [h1] at hA hr k1
  replace hr := Lib.hid hr
  clear h1 z1 y1 z2 y2
  by_cases h1 : r = 0
  case neg =>
    have x0 : (r != 0) = true := by rw [bne_iff_ne]; exact h1
    replace hr := Lib.hid (hr.out.trans (if_neg h1))
    clear k1 h1
    have hBW : Below w.heap.size w ((w.alloc (.cells #[.bool n1, .string a1, .string d1, .bool n2, .string a2, .string d2] 38)).alloc (.cells #[.bool false, .string ⟨#[]⟩, .string ⟨#[]⟩, .bool false, .string ⟨#[]⟩, .string ⟨#[]⟩] 38)) := (((Below.refl _ w).alloc (Nat.le_refl _) _).alloc (by simp) _)
    have kk0 := ((Blk.new w 38 #[.bool n1, .string a1, .string d1, .bool n2, .string a2, .string d2]).alloc (.cells #[.bool false, .string ⟨#[]⟩, .string ⟨#[]⟩, .bool false, .string ⟨#[]⟩, .string ⟨#[]⟩] 38))
    have kk1 := (Blk.new (w.alloc (.cells #[.bool n1, .string a1, .string d1, .bool n2, .string a2, .string d2] 38)) 38 #[.bool false, .string ⟨#[]⟩, .string ⟨#[]⟩, .bool false, .string ⟨#[]⟩, .string ⟨#[]⟩])
    simp only [World.size_alloc] at kk1
    have K := Lib.hid ((KeepT.one kk0).snoc kk1)
    have hB := Lib.hid hBW
    clear hBW kk0 kk1
    go_enter Tryz.func20, Tryz.ntmps20
    go_wp2_with fail
    refine (hA.out _).mono ?_
    rintro en w1 ⟨rfl, hb⟩
    replace hB := Lib.hid (hB.out.trans (hb.mono hB.out.size))
    replace K := Lib.hid ((K.out.below hb))
    clear  hb hA
    have f10 := (K.out.at_ 1 rfl).frozen 0
    have f11 := (K.out.at_ 1 rfl).frozen 1
    have f12 := (K.out.at_ 1 rfl).frozen 2
    have f13 := (K.out.at_ 1 rfl).frozen 3
    have f14 := (K.out.at_ 1 rfl).frozen 4
    have f15 := (K.out.at_ 1 rfl).frozen 5
    have rr0 : w1.cell? ⟨w.heap.size + 1, 0, none⟩ = some (.bool false) := (K.out.at_ 1 rfl).cell 0
    have rr1 : w1.cell? ⟨w.heap.size + 1, 1, none⟩ = some (.string ⟨#[]⟩) := (K.out.at_ 1 rfl).cell 1
    have rr2 : w1.cell? ⟨w.heap.size + 1, 2, none⟩ = some (.string ⟨#[]⟩) := (K.out.at_ 1 rfl).cell 2
    have rr3 : w1.cell? ⟨w.heap.size + 1, 3, none⟩ = some (.bool false) := (K.out.at_ 1 rfl).cell 3
    have rr4 : w1.cell? ⟨w.heap.size + 1, 4, none⟩ = some (.string ⟨#[]⟩) := (K.out.at_ 1 rfl).cell 4
    have rr5 : w1.cell? ⟨w.heap.size + 1, 5, none⟩ = some (.string ⟨#[]⟩) := (K.out.at_ 1 rfl).cell 5
    have KZ := Lib.hid (Blk.set_ (Blk.set_ (Blk.set_ (Blk.set_ (Blk.set_ (Blk.set_ (K.out.at_ 1 rfl) 0 (.bool false)) 1 (.string ⟨#[]⟩)) 2 (.string ⟨#[]⟩)) 3 (.bool false)) 4 (.string ⟨#[]⟩)) 5 (.string ⟨#[]⟩))
    have hBZ := Lib.hid ((((((hB.out.setCell (p := ⟨w.heap.size + 1, 0, none⟩) (by simp; try omega) (.bool false)).setCell (p := ⟨w.heap.size + 1, 1, none⟩) (by simp; try omega) (.string ⟨#[]⟩)).setCell (p := ⟨w.heap.size + 1, 2, none⟩) (by simp; try omega) (.string ⟨#[]⟩)).setCell (p := ⟨w.heap.size + 1, 3, none⟩) (by simp; try omega) (.bool false)).setCell (p := ⟨w.heap.size + 1, 4, none⟩) (by simp; try omega) (.string ⟨#[]⟩)).setCell (p := ⟨w.heap.size + 1, 5, none⟩) (by simp; try omega) (.string ⟨#[]⟩))
    clear K hB 
    go_wp2_with fail
    have q0 := KZ.out.cell 0
    have q1 := KZ.out.cell 1
    have q2 := KZ.out.cell 2
    have q3 := KZ.out.cell 3
    have q4 := KZ.out.cell 4
    have q5 := KZ.out.cell 5
    refine bodyPost_ret (v := .tuple #[.agg #[.bool false, .string ⟨#[]⟩, .string ⟨#[]⟩, .bool false, .string ⟨#[]⟩, .string ⟨#[]⟩], .bool false, .int .i64 r]) (by simp [results, Tryz.results20, go_sem, q0, q1, q2, q3, q4, q5]) rfl ⟨by rw [hr.out]; rfl, hBZ.out⟩
  case pos =>
    subst h1
    replace hr := hr.out.trans (if_pos rfl)
    obtain ⟨l, hl, -, rfl, rfl, rfl, rfl, rfl, rfl⟩ := k1 rfl
    rw [be_natS, be_natS, be_natS, be_natS] at hr
    replace hr := Lib.hid hr
    obtain ⟨c, b, e, hf⟩ := turnLf_form l d
    have hT : Hid (∀ W, Calls Tryz.prog 69 #[.agg #[.bool false, .string (natS l.1.1), .string (natS l.1.2), .bool false, .string (natS l.2.1), .string (natS l.2.2)], .int .i64 d] W (RetVal (.tuple #[.agg #[.bool c.1.1, .string c.1.2.1, .string c.1.2.2, .bool c.2.1, .string c.2.2.1, .string c.2.2.2], .bool b, .int .i64 e]) W)) := Lib.hid (fun W => by
      have := lturned_any l d W hl
      rw [hf] at this
      exact this)
    replace hr := Lib.hid (hr.out.trans hf)
    clear k1 hl hf
    have hBW : Below w.heap.size w ((w.alloc (.cells #[.bool false, .string (natS l.1.1), .string (natS l.1.2), .bool false, .string (natS l.2.1), .string (natS l.2.2)] 38)).alloc (.cells #[.bool false, .string ⟨#[]⟩, .string ⟨#[]⟩, .bool false, .string ⟨#[]⟩, .string ⟨#[]⟩] 38)) := (((Below.refl _ w).alloc (Nat.le_refl _) _).alloc (by simp) _)
    have kk0 := ((Blk.new w 38 #[.bool false, .string (natS l.1.1), .string (natS l.1.2), .bool false, .string (natS l.2.1), .string (natS l.2.2)]).alloc (.cells #[.bool false, .string ⟨#[]⟩, .string ⟨#[]⟩, .bool false, .string ⟨#[]⟩, .string ⟨#[]⟩] 38))
    have kk1 := (Blk.new (w.alloc (.cells #[.bool false, .string (natS l.1.1), .string (natS l.1.2), .bool false, .string (natS l.2.1), .string (natS l.2.2)] 38)) 38 #[.bool false, .string ⟨#[]⟩, .string ⟨#[]⟩, .bool false, .string ⟨#[]⟩, .string ⟨#[]⟩])
    simp only [World.size_alloc] at kk1
    have K := Lib.hid ((KeepT.one kk0).snoc kk1)
    have hB := Lib.hid hBW
    clear hBW kk0 kk1
    go_enter Tryz.func20, Tryz.ntmps20
    go_wp2_with fail
    refine (hA.out _).mono ?_
    rintro en w1 ⟨rfl, hb⟩
    replace hB := Lib.hid (hB.out.trans (hb.mono hB.out.size))
    replace K := Lib.hid ((K.out.below hb))
    clear  hb hA
    have ll0 : w1.cell? ⟨w.heap.size, 0, none⟩ = some (.bool false) := (K.out.at_ 0 rfl).cell 0
    have ll1 : w1.cell? ⟨w.heap.size, 1, none⟩ = some (.string (natS l.1.1)) := (K.out.at_ 0 rfl).cell 1
    have ll2 : w1.cell? ⟨w.heap.size, 2, none⟩ = some (.string (natS l.1.2)) := (K.out.at_ 0 rfl).cell 2
    have ll3 : w1.cell? ⟨w.heap.size, 3, none⟩ = some (.bool false) := (K.out.at_ 0 rfl).cell 3
    have ll4 : w1.cell? ⟨w.heap.size, 4, none⟩ = some (.string (natS l.2.1)) := (K.out.at_ 0 rfl).cell 4
    have ll5 : w1.cell? ⟨w.heap.size, 5, none⟩ = some (.string (natS l.2.2)) := (K.out.at_ 0 rfl).cell 5
    go_wp2_with fail
    refine (hT.out _).mono ?_
    rintro en w2 ⟨rfl, hb⟩
    replace hB := Lib.hid (hB.out.trans (hb.mono hB.out.size))
    replace K := Lib.hid ((K.out.below hb))
    clear ll0 ll1 ll2 ll3 ll4 ll5 hb hT
    have f10 := (K.out.at_ 1 rfl).frozen 0
    have f11 := (K.out.at_ 1 rfl).frozen 1
    have f12 := (K.out.at_ 1 rfl).frozen 2
    have f13 := (K.out.at_ 1 rfl).frozen 3
    have f14 := (K.out.at_ 1 rfl).frozen 4
    have f15 := (K.out.at_ 1 rfl).frozen 5
    have rr0 : w2.cell? ⟨w.heap.size + 1, 0, none⟩ = some (.bool false) := (K.out.at_ 1 rfl).cell 0
    have rr1 : w2.cell? ⟨w.heap.size + 1, 1, none⟩ = some (.string ⟨#[]⟩) := (K.out.at_ 1 rfl).cell 1
    have rr2 : w2.cell? ⟨w.heap.size + 1, 2, none⟩ = some (.string ⟨#[]⟩) := (K.out.at_ 1 rfl).cell 2
    have rr3 : w2.cell? ⟨w.heap.size + 1, 3, none⟩ = some (.bool false) := (K.out.at_ 1 rfl).cell 3
    have rr4 : w2.cell? ⟨w.heap.size + 1, 4, none⟩ = some (.string ⟨#[]⟩) := (K.out.at_ 1 rfl).cell 4
    have rr5 : w2.cell? ⟨w.heap.size + 1, 5, none⟩ = some (.string ⟨#[]⟩) := (K.out.at_ 1 rfl).cell 5
    have KZ := Lib.hid (Blk.set_ (Blk.set_ (Blk.set_ (Blk.set_ (Blk.set_ (Blk.set_ (K.out.at_ 1 rfl) 0 (.bool c.1.1)) 1 (.string c.1.2.1)) 2 (.string c.1.2.2)) 3 (.bool c.2.1)) 4 (.string c.2.2.1)) 5 (.string c.2.2.2))
    have hBZ := Lib.hid ((((((hB.out.setCell (p := ⟨w.heap.size + 1, 0, none⟩) (by simp; try omega) (.bool c.1.1)).setCell (p := ⟨w.heap.size + 1, 1, none⟩) (by simp; try omega) (.string c.1.2.1)).setCell (p := ⟨w.heap.size + 1, 2, none⟩) (by simp; try omega) (.string c.1.2.2)).setCell (p := ⟨w.heap.size + 1, 3, none⟩) (by simp; try omega) (.bool c.2.1)).setCell (p := ⟨w.heap.size + 1, 4, none⟩) (by simp; try omega) (.string c.2.2.1)).setCell (p := ⟨w.heap.size + 1, 5, none⟩) (by simp; try omega) (.string c.2.2.2))
    clear K hB 
    go_wp2_with fail
    have q0 := KZ.out.cell 0
    have q1 := KZ.out.cell 1
    have q2 := KZ.out.cell 2
    have q3 := KZ.out.cell 3
    have q4 := KZ.out.cell 4
    have q5 := KZ.out.cell 5
    refine bodyPost_ret (v := .tuple #[.agg #[.bool c.1.1, .string c.1.2.1, .string c.1.2.2, .bool c.2.1, .string c.2.2.1, .string c.2.2.2], .bool b, .int .i64 e]) (by simp [results, Tryz.results20, go_sem, q0, q1, q2, q3, q4, q5]) rfl ⟨by rw [hr.out], hBZ.out⟩
end Go.Proofs.YtoaggmegmgdgbaaGreat
