import Derived.Test.YtoaggmegmgdgbaaGreatLamB
namespace Go.Proofs.YtoaggmegmgdgbaaGreat
open Go.RowKit Go.Sort
def chkLf (n1 : Bool) (a1 d1 : ByteArray) (n2 : Bool) (a2 d2 : ByteArray) : Int :=
  if okA n1 a1 d1 then (if okA n2 a2 d2 then (if 0 < cmpP (be (sl a1), be (sl d1)) (be (sl a2), be (sl d2)) then 2 else if cmpP (be (sl a1), be (sl d1)) (be (sl a2), be (sl d2)) = 0 then 230 else 0) else 210) else 210
theorem chkLf_zero {n1 : Bool} {a1 d1 : ByteArray} {n2 : Bool} {a2 d2 : ByteArray} (h : chkLf n1 a1 d1 n2 a2 d2 = 0) : ∃ l : Lf, AngL l ∧ cmpP l.1 l.2 < 0 ∧ n1 = false ∧ a1 = natS l.1.1 ∧ d1 = natS l.1.2 ∧ n2 = false ∧ a2 = natS l.2.1 ∧ d2 = natS l.2.2 := by
  unfold chkLf at h
  split at h
  · rename_i h1
    split at h
    · rename_i h2
      split at h
      · cases h
      · rename_i h3
        split at h
        · cases h
        · rename_i h4
          obtain ⟨b1, b2, b3, b4⟩ := Ang.of_ok h1
          obtain ⟨c1, c2, c3, c4⟩ := Ang.of_ok h2
          refine ⟨((be (sl a1), be (sl d1)), (be (sl a2), be (sl d2))), ⟨b1, c1⟩, ?_, b2, b3, b4, c2, c3, c4⟩
          rcases cmpP_bd (be (sl a1), be (sl d1)) (be (sl a2), be (sl d2)) with e | e | e
          · show cmpP (be (sl a1), be (sl d1)) (be (sl a2), be (sl d2)) < 0
            rw [e]; decide
          · exact absurd e h4
          · exact absurd (show 0 < cmpP (be (sl a1), be (sl d1)) (be (sl a2), be (sl d2)) by rw [e]; decide) h3
    · cases h
  · cases h
theorem chkLf_leaf (l : Lf) (hl : AngL l) : chkLf false (natS l.1.1) (natS l.1.2) false (natS l.2.1) (natS l.2.2) = if 0 < cmpP l.1 l.2 then 2 else if cmpP l.1 l.2 = 0 then 230 else 0 := by
  unfold chkLf
  rw [hl.1.ok, hl.2.ok, be_natS, be_natS, be_natS, be_natS]
  rfl
set_option maxRecDepth 100000 in
set_option maxHeartbeats 2000000 in
theorem lleaf_any (p q : Nat × Nat) (w : World) (hp : Ang p) (hq : Ang q) :
    Calls Tryz.prog 75 #[.agg #[.bool false, .string (natS p.1), .string (natS p.2)], .agg #[.bool false, .string (natS q.1), .string (natS q.2)]] w (RetVal (.agg (leafE (mkL p q)).toArray) w) := by
  obtain ⟨b, hb0⟩ : ∃ c, c = decide (cmpP q p < 0) := ⟨_, rfl⟩
  have hC := Lib.hid (fun W => lbelow_any q p W hq hp)
  rw [← hb0] at hC
  have hO : Hid (mkL p q = if b = true then (q, p) else (p, q)) := Lib.hid (by rw [hb0]; unfold mkL; by_cases h : cmpP q p < 0 <;> simp [h])
  have hBW : Below w.heap.size w (((w.alloc (.cells #[.bool false, .string (natS p.1), .string (natS p.2)] 26)).alloc (.cells #[.bool false, .string (natS q.1), .string (natS q.2)] 26)).alloc (.cells #[.bool false, .string ⟨#[]⟩, .string ⟨#[]⟩, .bool false, .string ⟨#[]⟩, .string ⟨#[]⟩] 38)) := ((((Below.refl _ w).alloc (Nat.le_refl _) _).alloc (by simp) _).alloc (by simp; omega) _)
  have kk0 := (((Blk.new w 26 #[.bool false, .string (natS p.1), .string (natS p.2)]).alloc (.cells #[.bool false, .string (natS q.1), .string (natS q.2)] 26)).alloc (.cells #[.bool false, .string ⟨#[]⟩, .string ⟨#[]⟩, .bool false, .string ⟨#[]⟩, .string ⟨#[]⟩] 38))
  have kk1 := ((Blk.new (w.alloc (.cells #[.bool false, .string (natS p.1), .string (natS p.2)] 26)) 26 #[.bool false, .string (natS q.1), .string (natS q.2)]).alloc (.cells #[.bool false, .string ⟨#[]⟩, .string ⟨#[]⟩, .bool false, .string ⟨#[]⟩, .string ⟨#[]⟩] 38))
  simp only [World.size_alloc] at kk1
  have kk2 := (Blk.new ((w.alloc (.cells #[.bool false, .string (natS p.1), .string (natS p.2)] 26)).alloc (.cells #[.bool false, .string (natS q.1), .string (natS q.2)] 26)) 38 #[.bool false, .string ⟨#[]⟩, .string ⟨#[]⟩, .bool false, .string ⟨#[]⟩, .string ⟨#[]⟩])
  simp only [World.size_alloc] at kk2
  have K := Lib.hid (((KeepT.one kk0).snoc kk1).snoc kk2)
  have hB := Lib.hid hBW
  clear hBW kk0 kk1 kk2
  clear hb0
  go_enter Tryz.func75, Tryz.ntmps75
  go_wp2_with fail
  refine (hC.out _).mono ?_
  rintro en w1 ⟨rfl, hb⟩
  replace hB := Lib.hid (hB.out.trans (hb.mono hB.out.size))
  replace K := Lib.hid ((K.out.below hb))
  clear  hb hC
  have aa0 : w1.cell? ⟨w.heap.size, 0, none⟩ = some (.bool false) := (K.out.at_ 0 rfl).cell 0
  have aa1 : w1.cell? ⟨w.heap.size, 1, none⟩ = some (.string (natS p.1)) := (K.out.at_ 0 rfl).cell 1
  have aa2 : w1.cell? ⟨w.heap.size, 2, none⟩ = some (.string (natS p.2)) := (K.out.at_ 0 rfl).cell 2
  have bb0 : w1.cell? ⟨w.heap.size + 1, 0, none⟩ = some (.bool false) := (K.out.at_ 1 rfl).cell 0
  have bb1 : w1.cell? ⟨w.heap.size + 1, 1, none⟩ = some (.string (natS q.1)) := (K.out.at_ 1 rfl).cell 1
  have bb2 : w1.cell? ⟨w.heap.size + 1, 2, none⟩ = some (.string (natS q.2)) := (K.out.at_ 1 rfl).cell 2
  have rr0 : w1.cell? ⟨w.heap.size + 1 + 1, 0, none⟩ = some (.bool false) := (K.out.at_ 2 rfl).cell 0
  have rr1 : w1.cell? ⟨w.heap.size + 1 + 1, 1, none⟩ = some (.string ⟨#[]⟩) := (K.out.at_ 2 rfl).cell 1
  have rr2 : w1.cell? ⟨w.heap.size + 1 + 1, 2, none⟩ = some (.string ⟨#[]⟩) := (K.out.at_ 2 rfl).cell 2
  have rr3 : w1.cell? ⟨w.heap.size + 1 + 1, 3, none⟩ = some (.bool false) := (K.out.at_ 2 rfl).cell 3
  have rr4 : w1.cell? ⟨w.heap.size + 1 + 1, 4, none⟩ = some (.string ⟨#[]⟩) := (K.out.at_ 2 rfl).cell 4
  have rr5 : w1.cell? ⟨w.heap.size + 1 + 1, 5, none⟩ = some (.string ⟨#[]⟩) := (K.out.at_ 2 rfl).cell 5
  have f00 := (K.out.at_ 0 rfl).frozen 0
  have f01 := (K.out.at_ 0 rfl).frozen 1
  have f02 := (K.out.at_ 0 rfl).frozen 2
  have f10 := (K.out.at_ 1 rfl).frozen 0
  have f11 := (K.out.at_ 1 rfl).frozen 1
  have f12 := (K.out.at_ 1 rfl).frozen 2
  have f20 := (K.out.at_ 2 rfl).frozen 0
  have f21 := (K.out.at_ 2 rfl).frozen 1
  have f22 := (K.out.at_ 2 rfl).frozen 2
  have f23 := (K.out.at_ 2 rfl).frozen 3
  have f24 := (K.out.at_ 2 rfl).frozen 4
  have f25 := (K.out.at_ 2 rfl).frozen 5
  cases b
  case false =>
    have KZ := Lib.hid (Blk.set_ (Blk.set_ (Blk.set_ (Blk.set_ (Blk.set_ (Blk.set_ (K.out.at_ 2 rfl) 0 (.bool false)) 1 (.string (natS p.1))) 2 (.string (natS p.2))) 3 (.bool false)) 4 (.string (natS q.1))) 5 (.string (natS q.2)))
    have hBZ := Lib.hid ((((((hB.out.setCell (p := ⟨w.heap.size + 1 + 1, 0, none⟩) (by simp; try omega) (.bool false)).setCell (p := ⟨w.heap.size + 1 + 1, 1, none⟩) (by simp; try omega) (.string (natS p.1))).setCell (p := ⟨w.heap.size + 1 + 1, 2, none⟩) (by simp; try omega) (.string (natS p.2))).setCell (p := ⟨w.heap.size + 1 + 1, 3, none⟩) (by simp; try omega) (.bool false)).setCell (p := ⟨w.heap.size + 1 + 1, 4, none⟩) (by simp; try omega) (.string (natS q.1))).setCell (p := ⟨w.heap.size + 1 + 1, 5, none⟩) (by simp; try omega) (.string (natS q.2)))
    replace K := K.out
    clear K hB
    go_wp2_with fail
    have q0 := KZ.out.cell 0
    have q1 := KZ.out.cell 1
    have q2 := KZ.out.cell 2
    have q3 := KZ.out.cell 3
    have q4 := KZ.out.cell 4
    have q5 := KZ.out.cell 5
    refine bodyPost_ret (v := .agg #[.bool false, .string (natS p.1), .string (natS p.2), .bool false, .string (natS q.1), .string (natS q.2)]) (by simp [results, Tryz.results75, go_sem, q0, q1, q2, q3, q4, q5]) rfl ⟨by rw [hO.out]; rfl, hBZ.out⟩
  case true =>
    have KZ := Lib.hid (Blk.set_ (Blk.set_ (Blk.set_ (Blk.set_ (Blk.set_ (Blk.set_ (Blk.far (Blk.far (Blk.far (Blk.far (Blk.far (Blk.far (K.out.at_ 2 rfl) (p := ⟨w.heap.size, 0, none⟩) (by show w.heap.size + 1 + 1 ≠ _; simp <;> omega) (.bool false)) (p := ⟨w.heap.size, 1, none⟩) (by show w.heap.size + 1 + 1 ≠ _; simp <;> omega) (.string (natS q.1))) (p := ⟨w.heap.size, 2, none⟩) (by show w.heap.size + 1 + 1 ≠ _; simp <;> omega) (.string (natS q.2))) (p := ⟨w.heap.size + 1, 0, none⟩) (by show w.heap.size + 1 + 1 ≠ _; simp <;> omega) (.bool false)) (p := ⟨w.heap.size + 1, 1, none⟩) (by show w.heap.size + 1 + 1 ≠ _; simp <;> omega) (.string (natS p.1))) (p := ⟨w.heap.size + 1, 2, none⟩) (by show w.heap.size + 1 + 1 ≠ _; simp <;> omega) (.string (natS p.2))) 0 (.bool false)) 1 (.string (natS q.1))) 2 (.string (natS q.2))) 3 (.bool false)) 4 (.string (natS p.1))) 5 (.string (natS p.2)))
    have hBZ := Lib.hid ((((((((((((hB.out.setCell (p := ⟨w.heap.size, 0, none⟩) (by simp; try omega) (.bool false)).setCell (p := ⟨w.heap.size, 1, none⟩) (by simp; try omega) (.string (natS q.1))).setCell (p := ⟨w.heap.size, 2, none⟩) (by simp; try omega) (.string (natS q.2))).setCell (p := ⟨w.heap.size + 1, 0, none⟩) (by simp; try omega) (.bool false)).setCell (p := ⟨w.heap.size + 1, 1, none⟩) (by simp; try omega) (.string (natS p.1))).setCell (p := ⟨w.heap.size + 1, 2, none⟩) (by simp; try omega) (.string (natS p.2))).setCell (p := ⟨w.heap.size + 1 + 1, 0, none⟩) (by simp; try omega) (.bool false)).setCell (p := ⟨w.heap.size + 1 + 1, 1, none⟩) (by simp; try omega) (.string (natS q.1))).setCell (p := ⟨w.heap.size + 1 + 1, 2, none⟩) (by simp; try omega) (.string (natS q.2))).setCell (p := ⟨w.heap.size + 1 + 1, 3, none⟩) (by simp; try omega) (.bool false)).setCell (p := ⟨w.heap.size + 1 + 1, 4, none⟩) (by simp; try omega) (.string (natS p.1))).setCell (p := ⟨w.heap.size + 1 + 1, 5, none⟩) (by simp; try omega) (.string (natS p.2)))
    replace K := K.out
    clear K hB
    go_wp2_with fail
    have q0 := KZ.out.cell 0
    have q1 := KZ.out.cell 1
    have q2 := KZ.out.cell 2
    have q3 := KZ.out.cell 3
    have q4 := KZ.out.cell 4
    have q5 := KZ.out.cell 5
    refine bodyPost_ret (v := .agg #[.bool false, .string (natS q.1), .string (natS q.2), .bool false, .string (natS p.1), .string (natS p.2)]) (by simp [results, Tryz.results75, go_sem, q0, q1, q2, q3, q4, q5]) rfl ⟨by rw [hO.out]; rfl, hBZ.out⟩
set_option maxRecDepth 100000 in
set_option maxHeartbeats 2000000 in
theorem lCheck_any (n1 : Bool) (a1 d1 : ByteArray) (n2 : Bool) (a2 d2 : ByteArray) (w : World) (z1 : a1.size ≤ 9223372036854775807) (y1 : d1.size ≤ 9223372036854775807) (z2 : a2.size ≤ 9223372036854775807) (y2 : d2.size ≤ 9223372036854775807) :
    Calls Tryz.prog 17 #[.agg #[.bool n1, .string a1, .string d1, .bool n2, .string a2, .string d2]] w (RetVal (.int .i64 (chkLf n1 a1 d1 n2 a2 d2)) w) := by
  have hA := Lib.hid (fun W => check_any n1 a1 d1 W z1 y1)
  have hC := Lib.hid (fun W => check_any n2 a2 d2 W z2 y2)
  obtain ⟨r, hr⟩ : ∃ r, r = chkLf n1 a1 d1 n2 a2 d2 := ⟨_, rfl⟩
  rw [← hr]
  have hBW : Below w.heap.size w (w.alloc (.cells #[.bool n1, .string a1, .string d1, .bool n2, .string a2, .string d2] 38)) := ((Below.refl _ w).alloc (Nat.le_refl _) _)
  have kk0 := (Blk.new w 38 #[.bool n1, .string a1, .string d1, .bool n2, .string a2, .string d2])
  have K := Lib.hid (KeepT.one kk0)
  have hB := Lib.hid hBW
  clear hBW kk0
  cases h1 : okA n1 a1 d1
  case false =>
    obtain rfl : r = 210 := by rw [hr, chkLf, h1]; rfl
    rw [h1] at hA
    clear hr h1
    go_enter Tryz.func17, Tryz.ntmps17
    go_wp2_with fail
    refine (hA.out _).mono ?_
    rintro en w1 ⟨rfl, hb⟩
    replace hB := Lib.hid (hB.out.trans (hb.mono hB.out.size))
    replace K := Lib.hid ((K.out.below hb))
    clear  hb hA
    go_wp2_with fail
    go_ret
    exact ⟨rfl, hB.out⟩
  case true =>
    rw [h1] at hA
    cases h2 : okA n2 a2 d2
    case false =>
      obtain rfl : r = 210 := by rw [hr, chkLf, h1, h2]; rfl
      rw [h2] at hC
      clear hr h1 h2
      go_enter Tryz.func17, Tryz.ntmps17
      go_wp2_with fail
      refine (hA.out _).mono ?_
      rintro en w1 ⟨rfl, hb⟩
      replace hB := Lib.hid (hB.out.trans (hb.mono hB.out.size))
      replace K := Lib.hid ((K.out.below hb))
      clear  hb hA
      have ll0 : w1.cell? ⟨w.heap.size, 0, none⟩ = some (.bool n1) := (K.out.at_ 0 rfl).cell 0
      have ll1 : w1.cell? ⟨w.heap.size, 1, none⟩ = some (.string a1) := (K.out.at_ 0 rfl).cell 1
      have ll2 : w1.cell? ⟨w.heap.size, 2, none⟩ = some (.string d1) := (K.out.at_ 0 rfl).cell 2
      have ll3 : w1.cell? ⟨w.heap.size, 3, none⟩ = some (.bool n2) := (K.out.at_ 0 rfl).cell 3
      have ll4 : w1.cell? ⟨w.heap.size, 4, none⟩ = some (.string a2) := (K.out.at_ 0 rfl).cell 4
      have ll5 : w1.cell? ⟨w.heap.size, 5, none⟩ = some (.string d2) := (K.out.at_ 0 rfl).cell 5
      go_wp2_with fail
      refine (hC.out _).mono ?_
      rintro en w2 ⟨rfl, hb⟩
      replace hB := Lib.hid (hB.out.trans (hb.mono hB.out.size))
      replace K := Lib.hid ((K.out.below hb))
      clear ll0 ll1 ll2 ll3 ll4 ll5 hb hC
      go_wp2_with fail
      go_ret
      exact ⟨rfl, hB.out⟩
    case true =>
      rw [h2] at hC
      obtain ⟨p, hp⟩ : ∃ p : Nat × Nat, p = (be (sl a1), be (sl d1)) := ⟨_, rfl⟩
      obtain ⟨q, hq⟩ : ∃ p : Nat × Nat, p = (be (sl a2), be (sl d2)) := ⟨_, rfl⟩
      obtain ⟨b1, b2, b3, b4⟩ := Ang.of_ok h1
      obtain ⟨c1, c2, c3, c4⟩ := Ang.of_ok h2
      rw [← hp] at b1
      rw [← hq] at c1
      have hD : Hid (∀ W, Calls Tryz.prog 65 #[.agg #[.bool n1, .string a1, .string d1], .agg #[.bool n2, .string a2, .string d2]] W (RetVal (.int .i64 (cmpP p q)) W)) := Lib.hid (fun W => by
        have := lcmp_any p q W b1 c1
        rw [hp, hq] at this ⊢
        rw [b2, b3, b4, c2, c3, c4, be_natS, be_natS, be_natS, be_natS]
        exact this)
      have hr2 : r = if 0 < cmpP p q then 2 else if cmpP p q = 0 then 230 else 0 := by rw [hr, chkLf, h1, h2, ← hp, ← hq]; rfl
      have hbd := cmpP_bd p q
      obtain ⟨c, hc⟩ : ∃ c, c = cmpP p q := ⟨_, rfl⟩
      rw [← hc] at hr2 hD hbd
      clear hr hp hq b1 b2 b3 b4 c1 c2 c3 c4 h1 h2 hc
      replace hr2 := Lib.hid hr2
      rcases hbd with rfl | rfl | rfl
      all_goals
        go_enter Tryz.func17, Tryz.ntmps17
        go_wp2_with fail
        refine (hA.out _).mono ?_
        rintro en w1 ⟨rfl, hb⟩
        replace hB := Lib.hid (hB.out.trans (hb.mono hB.out.size))
        replace K := Lib.hid ((K.out.below hb))
        clear  hb hA
        have ll0 : w1.cell? ⟨w.heap.size, 0, none⟩ = some (.bool n1) := (K.out.at_ 0 rfl).cell 0
        have ll1 : w1.cell? ⟨w.heap.size, 1, none⟩ = some (.string a1) := (K.out.at_ 0 rfl).cell 1
        have ll2 : w1.cell? ⟨w.heap.size, 2, none⟩ = some (.string d1) := (K.out.at_ 0 rfl).cell 2
        have ll3 : w1.cell? ⟨w.heap.size, 3, none⟩ = some (.bool n2) := (K.out.at_ 0 rfl).cell 3
        have ll4 : w1.cell? ⟨w.heap.size, 4, none⟩ = some (.string a2) := (K.out.at_ 0 rfl).cell 4
        have ll5 : w1.cell? ⟨w.heap.size, 5, none⟩ = some (.string d2) := (K.out.at_ 0 rfl).cell 5
        go_wp2_with fail
        refine (hC.out _).mono ?_
        rintro en w2 ⟨rfl, hb⟩
        replace hB := Lib.hid (hB.out.trans (hb.mono hB.out.size))
        replace K := Lib.hid ((K.out.below hb))
        clear ll0 ll1 ll2 ll3 ll4 ll5 hb hC
        have ll0 : w2.cell? ⟨w.heap.size, 0, none⟩ = some (.bool n1) := (K.out.at_ 0 rfl).cell 0
        have ll1 : w2.cell? ⟨w.heap.size, 1, none⟩ = some (.string a1) := (K.out.at_ 0 rfl).cell 1
        have ll2 : w2.cell? ⟨w.heap.size, 2, none⟩ = some (.string d1) := (K.out.at_ 0 rfl).cell 2
        have ll3 : w2.cell? ⟨w.heap.size, 3, none⟩ = some (.bool n2) := (K.out.at_ 0 rfl).cell 3
        have ll4 : w2.cell? ⟨w.heap.size, 4, none⟩ = some (.string a2) := (K.out.at_ 0 rfl).cell 4
        have ll5 : w2.cell? ⟨w.heap.size, 5, none⟩ = some (.string d2) := (K.out.at_ 0 rfl).cell 5
        go_wp2_with fail
        refine (hD.out _).mono ?_
        rintro en w3 ⟨rfl, hb⟩
        replace hB := Lib.hid (hB.out.trans (hb.mono hB.out.size))
        replace K := Lib.hid ((K.out.below hb))
        clear ll0 ll1 ll2 ll3 ll4 ll5 hb hD K
        go_wp2_with fail
        go_ret
        exact ⟨by rw [hr2.out]; rfl, hB.out⟩
open Go.RowKit Go.Sort
def leaf0 : Value := .agg #[.bool false, .string ⟨#[]⟩, .string ⟨#[]⟩, .bool false, .string ⟨#[]⟩, .string ⟨#[]⟩]
def leafV (l : Lf) : Value := .agg (leafE l).toArray
def makeLf (n1 : Bool) (a1 d1 : ByteArray) (n2 : Bool) (a2 d2 : ByteArray) : Value × Int :=
  if okA n1 a1 d1 then (if okA n2 a2 d2 then (if (be (sl a1), be (sl d1)) = (be (sl a2), be (sl d2)) then (leaf0, 230) else (leafV (mkL (be (sl a1), be (sl d1)) (be (sl a2), be (sl d2))), 0)) else (leaf0, 210)) else (leaf0, 210)
def crossLf (n1 : Bool) (a1 d1 : ByteArray) (n2 : Bool) (a2 d2 : ByteArray) (m1 : Bool) (b1 c1 : ByteArray) (m2 : Bool) (b2 c2 : ByteArray) : Bool × Int :=
  if chkLf n1 a1 d1 n2 a2 d2 = 0 then (if chkLf m1 b1 c1 m2 b2 c2 = 0 then (partsP ((be (sl a1), be (sl d1)), (be (sl a2), be (sl d2))) (be (sl b1), be (sl c1)) (be (sl b2), be (sl c2)), 0) else (false, chkLf m1 b1 c1 m2 b2 c2)) else (false, chkLf n1 a1 d1 n2 a2 d2)
set_option maxRecDepth 100000 in
set_option maxHeartbeats 2000000 in
theorem lMake_any (n1 : Bool) (a1 d1 : ByteArray) (n2 : Bool) (a2 d2 : ByteArray) (w : World) (z1 : a1.size ≤ 9223372036854775807) (y1 : d1.size ≤ 9223372036854775807) (z2 : a2.size ≤ 9223372036854775807) (y2 : d2.size ≤ 9223372036854775807) :
    Calls Tryz.prog 25 #[.agg #[.bool n1, .string a1, .string d1], .agg #[.bool n2, .string a2, .string d2]] w (RetVal (.tuple #[(makeLf n1 a1 d1 n2 a2 d2).1, .int .i64 (makeLf n1 a1 d1 n2 a2 d2).2]) w) := by
  have hA := Lib.hid (fun W => check_any n1 a1 d1 W z1 y1)
  have hC := Lib.hid (fun W => check_any n2 a2 d2 W z2 y2)
  obtain ⟨RV, hr⟩ : ∃ r, r = makeLf n1 a1 d1 n2 a2 d2 := ⟨_, rfl⟩
  rw [← hr]
  unfold makeLf at hr
  replace hr := Lib.hid hr
  cases h1 : okA n1 a1 d1
  case false =>
    rw [h1] at hA
    replace hr := Lib.hid (hr.out.trans (by rw [h1]; rfl : _ = (leaf0, (210 : Int))))
    clear h1 hC z1 y1 z2 y2
    have hBW : Below w.heap.size w (((w.alloc (.cells #[.bool n1, .string a1, .string d1] 26)).alloc (.cells #[.bool n2, .string a2, .string d2] 26)).alloc (.cells #[.bool false, .string ⟨#[]⟩, .string ⟨#[]⟩, .bool false, .string ⟨#[]⟩, .string ⟨#[]⟩] 38)) := ((((Below.refl _ w).alloc (Nat.le_refl _) _).alloc (by simp) _).alloc (by simp; omega) _)
    have kk0 := (((Blk.new w 26 #[.bool n1, .string a1, .string d1]).alloc (.cells #[.bool n2, .string a2, .string d2] 26)).alloc (.cells #[.bool false, .string ⟨#[]⟩, .string ⟨#[]⟩, .bool false, .string ⟨#[]⟩, .string ⟨#[]⟩] 38))
    have kk1 := ((Blk.new (w.alloc (.cells #[.bool n1, .string a1, .string d1] 26)) 26 #[.bool n2, .string a2, .string d2]).alloc (.cells #[.bool false, .string ⟨#[]⟩, .string ⟨#[]⟩, .bool false, .string ⟨#[]⟩, .string ⟨#[]⟩] 38))
    simp only [World.size_alloc] at kk1
    have kk2 := (Blk.new ((w.alloc (.cells #[.bool n1, .string a1, .string d1] 26)).alloc (.cells #[.bool n2, .string a2, .string d2] 26)) 38 #[.bool false, .string ⟨#[]⟩, .string ⟨#[]⟩, .bool false, .string ⟨#[]⟩, .string ⟨#[]⟩])
    simp only [World.size_alloc] at kk2
    have K := Lib.hid (((KeepT.one kk0).snoc kk1).snoc kk2)
    have hB := Lib.hid hBW
    clear hBW kk0 kk1 kk2
    go_enter Tryz.func25, Tryz.ntmps25
    go_wp2_with fail
    refine (hA.out _).mono ?_
    rintro en w1 ⟨rfl, hb⟩
    replace hB := Lib.hid (hB.out.trans (hb.mono hB.out.size))
    replace K := Lib.hid ((K.out.below hb))
    clear  hb hA
    have f20 := (K.out.at_ 2 rfl).frozen 0
    have f21 := (K.out.at_ 2 rfl).frozen 1
    have f22 := (K.out.at_ 2 rfl).frozen 2
    have f23 := (K.out.at_ 2 rfl).frozen 3
    have f24 := (K.out.at_ 2 rfl).frozen 4
    have f25 := (K.out.at_ 2 rfl).frozen 5
    have rr0 : w1.cell? ⟨w.heap.size + 1 + 1, 0, none⟩ = some (.bool false) := (K.out.at_ 2 rfl).cell 0
    have rr1 : w1.cell? ⟨w.heap.size + 1 + 1, 1, none⟩ = some (.string ⟨#[]⟩) := (K.out.at_ 2 rfl).cell 1
    have rr2 : w1.cell? ⟨w.heap.size + 1 + 1, 2, none⟩ = some (.string ⟨#[]⟩) := (K.out.at_ 2 rfl).cell 2
    have rr3 : w1.cell? ⟨w.heap.size + 1 + 1, 3, none⟩ = some (.bool false) := (K.out.at_ 2 rfl).cell 3
    have rr4 : w1.cell? ⟨w.heap.size + 1 + 1, 4, none⟩ = some (.string ⟨#[]⟩) := (K.out.at_ 2 rfl).cell 4
    have rr5 : w1.cell? ⟨w.heap.size + 1 + 1, 5, none⟩ = some (.string ⟨#[]⟩) := (K.out.at_ 2 rfl).cell 5
    have KZ := Lib.hid (Blk.set_ (Blk.set_ (Blk.set_ (Blk.set_ (Blk.set_ (Blk.set_ (K.out.at_ 2 rfl) 0 (.bool false)) 1 (.string ⟨#[]⟩)) 2 (.string ⟨#[]⟩)) 3 (.bool false)) 4 (.string ⟨#[]⟩)) 5 (.string ⟨#[]⟩))
    have hBZ := Lib.hid ((((((hB.out.setCell (p := ⟨w.heap.size + 1 + 1, 0, none⟩) (by simp; try omega) (.bool false)).setCell (p := ⟨w.heap.size + 1 + 1, 1, none⟩) (by simp; try omega) (.string ⟨#[]⟩)).setCell (p := ⟨w.heap.size + 1 + 1, 2, none⟩) (by simp; try omega) (.string ⟨#[]⟩)).setCell (p := ⟨w.heap.size + 1 + 1, 3, none⟩) (by simp; try omega) (.bool false)).setCell (p := ⟨w.heap.size + 1 + 1, 4, none⟩) (by simp; try omega) (.string ⟨#[]⟩)).setCell (p := ⟨w.heap.size + 1 + 1, 5, none⟩) (by simp; try omega) (.string ⟨#[]⟩))
    clear K hB
    go_wp2_with fail
    have q0 := KZ.out.cell 0
    have q1 := KZ.out.cell 1
    have q2 := KZ.out.cell 2
    have q3 := KZ.out.cell 3
    have q4 := KZ.out.cell 4
    have q5 := KZ.out.cell 5
    refine bodyPost_ret (v := .tuple #[.agg #[.bool false, .string ⟨#[]⟩, .string ⟨#[]⟩, .bool false, .string ⟨#[]⟩, .string ⟨#[]⟩], .int .i64 210]) (by simp [results, Tryz.results25, go_sem, q0, q1, q2, q3, q4, q5]) rfl ⟨by rw [hr.out]; rfl, hBZ.out⟩
  case true =>
    cases h2 : okA n2 a2 d2
    case false =>
      rw [h1] at hA
      rw [h2] at hC
      replace hr := Lib.hid (hr.out.trans (by rw [h1, h2]; rfl : _ = (leaf0, (210 : Int))))
      clear h1 h2 z1 y1 z2 y2
      have hBW : Below w.heap.size w (((w.alloc (.cells #[.bool n1, .string a1, .string d1] 26)).alloc (.cells #[.bool n2, .string a2, .string d2] 26)).alloc (.cells #[.bool false, .string ⟨#[]⟩, .string ⟨#[]⟩, .bool false, .string ⟨#[]⟩, .string ⟨#[]⟩] 38)) := ((((Below.refl _ w).alloc (Nat.le_refl _) _).alloc (by simp) _).alloc (by simp; omega) _)
      have kk0 := (((Blk.new w 26 #[.bool n1, .string a1, .string d1]).alloc (.cells #[.bool n2, .string a2, .string d2] 26)).alloc (.cells #[.bool false, .string ⟨#[]⟩, .string ⟨#[]⟩, .bool false, .string ⟨#[]⟩, .string ⟨#[]⟩] 38))
      have kk1 := ((Blk.new (w.alloc (.cells #[.bool n1, .string a1, .string d1] 26)) 26 #[.bool n2, .string a2, .string d2]).alloc (.cells #[.bool false, .string ⟨#[]⟩, .string ⟨#[]⟩, .bool false, .string ⟨#[]⟩, .string ⟨#[]⟩] 38))
      simp only [World.size_alloc] at kk1
      have kk2 := (Blk.new ((w.alloc (.cells #[.bool n1, .string a1, .string d1] 26)).alloc (.cells #[.bool n2, .string a2, .string d2] 26)) 38 #[.bool false, .string ⟨#[]⟩, .string ⟨#[]⟩, .bool false, .string ⟨#[]⟩, .string ⟨#[]⟩])
      simp only [World.size_alloc] at kk2
      have K := Lib.hid (((KeepT.one kk0).snoc kk1).snoc kk2)
      have hB := Lib.hid hBW
      clear hBW kk0 kk1 kk2
      go_enter Tryz.func25, Tryz.ntmps25
      go_wp2_with fail
      refine (hA.out _).mono ?_
      rintro en w1 ⟨rfl, hb⟩
      replace hB := Lib.hid (hB.out.trans (hb.mono hB.out.size))
      replace K := Lib.hid ((K.out.below hb))
      clear  hb hA
      have bb0 : w1.cell? ⟨w.heap.size + 1, 0, none⟩ = some (.bool n2) := (K.out.at_ 1 rfl).cell 0
      have bb1 : w1.cell? ⟨w.heap.size + 1, 1, none⟩ = some (.string a2) := (K.out.at_ 1 rfl).cell 1
      have bb2 : w1.cell? ⟨w.heap.size + 1, 2, none⟩ = some (.string d2) := (K.out.at_ 1 rfl).cell 2
      go_wp2_with fail
      refine (hC.out _).mono ?_
      rintro en w2 ⟨rfl, hb⟩
      replace hB := Lib.hid (hB.out.trans (hb.mono hB.out.size))
      replace K := Lib.hid ((K.out.below hb))
      clear bb0 bb1 bb2 hb hC
      have f20 := (K.out.at_ 2 rfl).frozen 0
      have f21 := (K.out.at_ 2 rfl).frozen 1
      have f22 := (K.out.at_ 2 rfl).frozen 2
      have f23 := (K.out.at_ 2 rfl).frozen 3
      have f24 := (K.out.at_ 2 rfl).frozen 4
      have f25 := (K.out.at_ 2 rfl).frozen 5
      have rr0 : w2.cell? ⟨w.heap.size + 1 + 1, 0, none⟩ = some (.bool false) := (K.out.at_ 2 rfl).cell 0
      have rr1 : w2.cell? ⟨w.heap.size + 1 + 1, 1, none⟩ = some (.string ⟨#[]⟩) := (K.out.at_ 2 rfl).cell 1
      have rr2 : w2.cell? ⟨w.heap.size + 1 + 1, 2, none⟩ = some (.string ⟨#[]⟩) := (K.out.at_ 2 rfl).cell 2
      have rr3 : w2.cell? ⟨w.heap.size + 1 + 1, 3, none⟩ = some (.bool false) := (K.out.at_ 2 rfl).cell 3
      have rr4 : w2.cell? ⟨w.heap.size + 1 + 1, 4, none⟩ = some (.string ⟨#[]⟩) := (K.out.at_ 2 rfl).cell 4
      have rr5 : w2.cell? ⟨w.heap.size + 1 + 1, 5, none⟩ = some (.string ⟨#[]⟩) := (K.out.at_ 2 rfl).cell 5
      have KZ := Lib.hid (Blk.set_ (Blk.set_ (Blk.set_ (Blk.set_ (Blk.set_ (Blk.set_ (K.out.at_ 2 rfl) 0 (.bool false)) 1 (.string ⟨#[]⟩)) 2 (.string ⟨#[]⟩)) 3 (.bool false)) 4 (.string ⟨#[]⟩)) 5 (.string ⟨#[]⟩))
      have hBZ := Lib.hid ((((((hB.out.setCell (p := ⟨w.heap.size + 1 + 1, 0, none⟩) (by simp; try omega) (.bool false)).setCell (p := ⟨w.heap.size + 1 + 1, 1, none⟩) (by simp; try omega) (.string ⟨#[]⟩)).setCell (p := ⟨w.heap.size + 1 + 1, 2, none⟩) (by simp; try omega) (.string ⟨#[]⟩)).setCell (p := ⟨w.heap.size + 1 + 1, 3, none⟩) (by simp; try omega) (.bool false)).setCell (p := ⟨w.heap.size + 1 + 1, 4, none⟩) (by simp; try omega) (.string ⟨#[]⟩)).setCell (p := ⟨w.heap.size + 1 + 1, 5, none⟩) (by simp; try omega) (.string ⟨#[]⟩))
      clear K hB
      go_wp2_with fail
      have q0 := KZ.out.cell 0
      have q1 := KZ.out.cell 1
      have q2 := KZ.out.cell 2
      have q3 := KZ.out.cell 3
      have q4 := KZ.out.cell 4
      have q5 := KZ.out.cell 5
      refine bodyPost_ret (v := .tuple #[.agg #[.bool false, .string ⟨#[]⟩, .string ⟨#[]⟩, .bool false, .string ⟨#[]⟩, .string ⟨#[]⟩], .int .i64 210]) (by simp [results, Tryz.results25, go_sem, q0, q1, q2, q3, q4, q5]) rfl ⟨by rw [hr.out]; rfl, hBZ.out⟩
    case true =>
      rw [h1] at hA
      rw [h2] at hC
      obtain ⟨b1, b2, b3, b4⟩ := Ang.of_ok h1
      obtain ⟨c1, c2, c3, c4⟩ := Ang.of_ok h2
      obtain ⟨p, hp⟩ : ∃ p : Nat × Nat, p = (be (sl a1), be (sl d1)) := ⟨_, rfl⟩
      obtain ⟨q, hq⟩ : ∃ p : Nat × Nat, p = (be (sl a2), be (sl d2)) := ⟨_, rfl⟩
      rw [← hp] at b1
      rw [← hq] at c1
      have e1 : n1 = false ∧ a1 = natS p.1 ∧ d1 = natS p.2 := by rw [hp]; exact ⟨b2, b3, b4⟩
      have e2 : n2 = false ∧ a2 = natS q.1 ∧ d2 = natS q.2 := by rw [hq]; exact ⟨c2, c3, c4⟩
      replace hr := Lib.hid (hr.out.trans (by rw [h1, h2, ← hp, ← hq]; rfl : _ = if p = q then (leaf0, (230 : Int)) else (leafV (mkL p q), (0 : Int))))
      clear h1 h2 hp hq b2 b3 b4 c2 c3 c4
      obtain ⟨rfl, rfl, rfl⟩ := e1
      obtain ⟨rfl, rfl, rfl⟩ := e2
      obtain ⟨m, hm⟩ : ∃ m, m = mkL p q := ⟨_, rfl⟩
      rw [← hm] at hr
      have hL : Hid (∀ W, Calls Tryz.prog 75 #[.agg #[.bool false, .string (natS p.1), .string (natS p.2)], .agg #[.bool false, .string (natS q.1), .string (natS q.2)]] W (RetVal (.agg #[.bool false, .string (natS m.1.1), .string (natS m.1.2), .bool false, .string (natS m.2.1), .string (natS m.2.2)]) W)) := Lib.hid (fun W => by
        have := lleaf_any p q W b1 c1
        rw [← hm] at this
        exact this)
      clear hm b1 c1 z1 y1 z2 y2
      have e0 := pair_cases p q
      have hBW : Below w.heap.size w (((w.alloc (.cells #[.bool false, .string (natS p.1), .string (natS p.2)] 26)).alloc (.cells #[.bool false, .string (natS q.1), .string (natS q.2)] 26)).alloc (.cells #[.bool false, .string ⟨#[]⟩, .string ⟨#[]⟩, .bool false, .string ⟨#[]⟩, .string ⟨#[]⟩] 38)) := ((((Below.refl _ w).alloc (Nat.le_refl _) _).alloc (by simp) _).alloc (by simp; omega) _)
      have kk0 := (((Blk.new w 26 #[.bool false, .string (natS p.1), .string (natS p.2)]).alloc (.cells #[.bool false, .string (natS q.1), .string (natS q.2)] 26)).alloc (.cells #[.bool false, .string ⟨#[]⟩, .string ⟨#[]⟩, .bool false, .string ⟨#[]⟩, .string ⟨#[]⟩] 38))
      have kk1 := ((Blk.new (w.alloc (.cells #[.bool false, .string (natS p.1), .string (natS p.2)] 26)) 26 #[.bool false, .string (natS q.1), .string (natS q.2)]).alloc (.cells #[.bool false, .string ⟨#[]⟩, .string ⟨#[]⟩, .bool false, .string ⟨#[]⟩, .string ⟨#[]⟩] 38))
      simp only [World.size_alloc] at kk1
      have kk2 := (Blk.new ((w.alloc (.cells #[.bool false, .string (natS p.1), .string (natS p.2)] 26)).alloc (.cells #[.bool false, .string (natS q.1), .string (natS q.2)] 26)) 38 #[.bool false, .string ⟨#[]⟩, .string ⟨#[]⟩, .bool false, .string ⟨#[]⟩, .string ⟨#[]⟩])
      simp only [World.size_alloc] at kk2
      have K := Lib.hid (((KeepT.one kk0).snoc kk1).snoc kk2)
      have hB := Lib.hid hBW
      clear hBW kk0 kk1 kk2
      rcases e0 with ⟨e0, x1, x2⟩ | ⟨e0, x1, x2⟩ | ⟨e0, x1⟩
      all_goals first | replace hr := Lib.hid (hr.out.trans (if_pos e0)) | replace hr := Lib.hid (hr.out.trans (if_neg e0))
      all_goals clear e0
      all_goals
        go_enter Tryz.func25, Tryz.ntmps25
        go_wp2_with fail
        refine (hA.out _).mono ?_
        rintro en w1 ⟨rfl, hb⟩
        replace hB := Lib.hid (hB.out.trans (hb.mono hB.out.size))
        replace K := Lib.hid ((K.out.below hb))
        clear  hb hA
        have bb0 : w1.cell? ⟨w.heap.size + 1, 0, none⟩ = some (.bool false) := (K.out.at_ 1 rfl).cell 0
        have bb1 : w1.cell? ⟨w.heap.size + 1, 1, none⟩ = some (.string (natS q.1)) := (K.out.at_ 1 rfl).cell 1
        have bb2 : w1.cell? ⟨w.heap.size + 1, 2, none⟩ = some (.string (natS q.2)) := (K.out.at_ 1 rfl).cell 2
        go_wp2_with fail
        refine (hC.out _).mono ?_
        rintro en w2 ⟨rfl, hb⟩
        replace hB := Lib.hid (hB.out.trans (hb.mono hB.out.size))
        replace K := Lib.hid ((K.out.below hb))
        clear bb0 bb1 bb2 hb hC
        have aa0 : w2.cell? ⟨w.heap.size, 0, none⟩ = some (.bool false) := (K.out.at_ 0 rfl).cell 0
        have aa1 : w2.cell? ⟨w.heap.size, 1, none⟩ = some (.string (natS p.1)) := (K.out.at_ 0 rfl).cell 1
        have aa2 : w2.cell? ⟨w.heap.size, 2, none⟩ = some (.string (natS p.2)) := (K.out.at_ 0 rfl).cell 2
        have bb0 : w2.cell? ⟨w.heap.size + 1, 0, none⟩ = some (.bool false) := (K.out.at_ 1 rfl).cell 0
        have bb1 : w2.cell? ⟨w.heap.size + 1, 1, none⟩ = some (.string (natS q.1)) := (K.out.at_ 1 rfl).cell 1
        have bb2 : w2.cell? ⟨w.heap.size + 1, 2, none⟩ = some (.string (natS q.2)) := (K.out.at_ 1 rfl).cell 2
      · skip
        have f20 := (K.out.at_ 2 rfl).frozen 0
        have f21 := (K.out.at_ 2 rfl).frozen 1
        have f22 := (K.out.at_ 2 rfl).frozen 2
        have f23 := (K.out.at_ 2 rfl).frozen 3
        have f24 := (K.out.at_ 2 rfl).frozen 4
        have f25 := (K.out.at_ 2 rfl).frozen 5
        have rr0 : w2.cell? ⟨w.heap.size + 1 + 1, 0, none⟩ = some (.bool false) := (K.out.at_ 2 rfl).cell 0
        have rr1 : w2.cell? ⟨w.heap.size + 1 + 1, 1, none⟩ = some (.string ⟨#[]⟩) := (K.out.at_ 2 rfl).cell 1
        have rr2 : w2.cell? ⟨w.heap.size + 1 + 1, 2, none⟩ = some (.string ⟨#[]⟩) := (K.out.at_ 2 rfl).cell 2
        have rr3 : w2.cell? ⟨w.heap.size + 1 + 1, 3, none⟩ = some (.bool false) := (K.out.at_ 2 rfl).cell 3
        have rr4 : w2.cell? ⟨w.heap.size + 1 + 1, 4, none⟩ = some (.string ⟨#[]⟩) := (K.out.at_ 2 rfl).cell 4
        have rr5 : w2.cell? ⟨w.heap.size + 1 + 1, 5, none⟩ = some (.string ⟨#[]⟩) := (K.out.at_ 2 rfl).cell 5
        have KZ := Lib.hid (Blk.set_ (Blk.set_ (Blk.set_ (Blk.set_ (Blk.set_ (Blk.set_ (K.out.at_ 2 rfl) 0 (.bool false)) 1 (.string ⟨#[]⟩)) 2 (.string ⟨#[]⟩)) 3 (.bool false)) 4 (.string ⟨#[]⟩)) 5 (.string ⟨#[]⟩))
        have hBZ := Lib.hid ((((((hB.out.setCell (p := ⟨w.heap.size + 1 + 1, 0, none⟩) (by simp; try omega) (.bool false)).setCell (p := ⟨w.heap.size + 1 + 1, 1, none⟩) (by simp; try omega) (.string ⟨#[]⟩)).setCell (p := ⟨w.heap.size + 1 + 1, 2, none⟩) (by simp; try omega) (.string ⟨#[]⟩)).setCell (p := ⟨w.heap.size + 1 + 1, 3, none⟩) (by simp; try omega) (.bool false)).setCell (p := ⟨w.heap.size + 1 + 1, 4, none⟩) (by simp; try omega) (.string ⟨#[]⟩)).setCell (p := ⟨w.heap.size + 1 + 1, 5, none⟩) (by simp; try omega) (.string ⟨#[]⟩))
        clear K hB
        go_wp2_with fail
        have q0 := KZ.out.cell 0
        have q1 := KZ.out.cell 1
        have q2 := KZ.out.cell 2
        have q3 := KZ.out.cell 3
        have q4 := KZ.out.cell 4
        have q5 := KZ.out.cell 5
        refine bodyPost_ret (v := .tuple #[.agg #[.bool false, .string ⟨#[]⟩, .string ⟨#[]⟩, .bool false, .string ⟨#[]⟩, .string ⟨#[]⟩], .int .i64 230]) (by simp [results, Tryz.results25, go_sem, q0, q1, q2, q3, q4, q5]) rfl ⟨by rw [hr.out]; rfl, hBZ.out⟩
      all_goals
        go_wp2_with fail
        refine (hL.out _).mono ?_
        rintro en w3 ⟨rfl, hb⟩
        replace hB := Lib.hid (hB.out.trans (hb.mono hB.out.size))
        replace K := Lib.hid ((K.out.below hb))
        clear aa0 aa1 aa2 bb0 bb1 bb2 hb hL
        have f20 := (K.out.at_ 2 rfl).frozen 0
        have f21 := (K.out.at_ 2 rfl).frozen 1
        have f22 := (K.out.at_ 2 rfl).frozen 2
        have f23 := (K.out.at_ 2 rfl).frozen 3
        have f24 := (K.out.at_ 2 rfl).frozen 4
        have f25 := (K.out.at_ 2 rfl).frozen 5
        have rr0 : w3.cell? ⟨w.heap.size + 1 + 1, 0, none⟩ = some (.bool false) := (K.out.at_ 2 rfl).cell 0
        have rr1 : w3.cell? ⟨w.heap.size + 1 + 1, 1, none⟩ = some (.string ⟨#[]⟩) := (K.out.at_ 2 rfl).cell 1
        have rr2 : w3.cell? ⟨w.heap.size + 1 + 1, 2, none⟩ = some (.string ⟨#[]⟩) := (K.out.at_ 2 rfl).cell 2
        have rr3 : w3.cell? ⟨w.heap.size + 1 + 1, 3, none⟩ = some (.bool false) := (K.out.at_ 2 rfl).cell 3
        have rr4 : w3.cell? ⟨w.heap.size + 1 + 1, 4, none⟩ = some (.string ⟨#[]⟩) := (K.out.at_ 2 rfl).cell 4
        have rr5 : w3.cell? ⟨w.heap.size + 1 + 1, 5, none⟩ = some (.string ⟨#[]⟩) := (K.out.at_ 2 rfl).cell 5
        have KZ := Lib.hid (Blk.set_ (Blk.set_ (Blk.set_ (Blk.set_ (Blk.set_ (Blk.set_ (K.out.at_ 2 rfl) 0 (.bool false)) 1 (.string (natS m.1.1))) 2 (.string (natS m.1.2))) 3 (.bool false)) 4 (.string (natS m.2.1))) 5 (.string (natS m.2.2)))
        have hBZ := Lib.hid ((((((hB.out.setCell (p := ⟨w.heap.size + 1 + 1, 0, none⟩) (by simp; try omega) (.bool false)).setCell (p := ⟨w.heap.size + 1 + 1, 1, none⟩) (by simp; try omega) (.string (natS m.1.1))).setCell (p := ⟨w.heap.size + 1 + 1, 2, none⟩) (by simp; try omega) (.string (natS m.1.2))).setCell (p := ⟨w.heap.size + 1 + 1, 3, none⟩) (by simp; try omega) (.bool false)).setCell (p := ⟨w.heap.size + 1 + 1, 4, none⟩) (by simp; try omega) (.string (natS m.2.1))).setCell (p := ⟨w.heap.size + 1 + 1, 5, none⟩) (by simp; try omega) (.string (natS m.2.2)))
        clear K hB
        go_wp2_with fail
        have q0 := KZ.out.cell 0
        have q1 := KZ.out.cell 1
        have q2 := KZ.out.cell 2
        have q3 := KZ.out.cell 3
        have q4 := KZ.out.cell 4
        have q5 := KZ.out.cell 5
        refine bodyPost_ret (v := .tuple #[.agg #[.bool false, .string (natS m.1.1), .string (natS m.1.2), .bool false, .string (natS m.2.1), .string (natS m.2.2)], .int .i64 0]) (by simp [results, Tryz.results25, go_sem, q0, q1, q2, q3, q4, q5]) rfl ⟨by rw [hr.out]; rfl, hBZ.out⟩
set_option maxRecDepth 100000 in
set_option maxHeartbeats 2000000 in
theorem lCross_any (n1 : Bool) (a1 d1 : ByteArray) (n2 : Bool) (a2 d2 : ByteArray) (m1 : Bool) (b1 c1 : ByteArray) (m2 : Bool) (b2 c2 : ByteArray) (w : World) (z1 : a1.size ≤ 9223372036854775807) (y1 : d1.size ≤ 9223372036854775807) (z2 : a2.size ≤ 9223372036854775807) (y2 : d2.size ≤ 9223372036854775807) (u1 : b1.size ≤ 9223372036854775807) (v1 : c1.size ≤ 9223372036854775807) (u2 : b2.size ≤ 9223372036854775807) (v2 : c2.size ≤ 9223372036854775807) :
    Calls Tryz.prog 18 #[.agg #[.bool n1, .string a1, .string d1, .bool n2, .string a2, .string d2], .agg #[.bool m1, .string b1, .string c1, .bool m2, .string b2, .string c2]] w (RetVal (.tuple #[.bool (crossLf n1 a1 d1 n2 a2 d2 m1 b1 c1 m2 b2 c2).1, .int .i64 (crossLf n1 a1 d1 n2 a2 d2 m1 b1 c1 m2 b2 c2).2]) w) := by
  have hA := Lib.hid (fun W => lCheck_any n1 a1 d1 n2 a2 d2 W z1 y1 z2 y2)
  have hC := Lib.hid (fun W => lCheck_any m1 b1 c1 m2 b2 c2 W u1 v1 u2 v2)
  obtain ⟨RV, hr⟩ : ∃ r, r = crossLf n1 a1 d1 n2 a2 d2 m1 b1 c1 m2 b2 c2 := ⟨_, rfl⟩
  rw [← hr]
  unfold crossLf at hr
  replace hr := Lib.hid hr
  have k1 := @chkLf_zero n1 a1 d1 n2 a2 d2
  have k2 := @chkLf_zero m1 b1 c1 m2 b2 c2
  obtain ⟨r, h1⟩ : ∃ r, chkLf n1 a1 d1 n2 a2 d2 = r := ⟨_, rfl⟩
  obtain ⟨t, h2⟩ : ∃ r, chkLf m1 b1 c1 m2 b2 c2 = r := ⟨_, rfl⟩
  replace hr := hr.out
  rw [h1] at hA hr k1
  rw [h2] at hC hr k2
  replace hr := Lib.hid hr
  clear h1 h2 z1 y1 z2 y2 u1 v1 u2 v2
  by_cases h1 : r = 0
  case neg =>
    have x0 : (r != 0) = true := by rw [bne_iff_ne]; exact h1
    replace hr := Lib.hid (hr.out.trans (if_neg h1))
    clear k1 k2 h1 hC
    have hBW : Below w.heap.size w ((w.alloc (.cells #[.bool n1, .string a1, .string d1, .bool n2, .string a2, .string d2] 38)).alloc (.cells #[.bool m1, .string b1, .string c1, .bool m2, .string b2, .string c2] 38)) := (((Below.refl _ w).alloc (Nat.le_refl _) _).alloc (by simp) _)
    have kk0 := ((Blk.new w 38 #[.bool n1, .string a1, .string d1, .bool n2, .string a2, .string d2]).alloc (.cells #[.bool m1, .string b1, .string c1, .bool m2, .string b2, .string c2] 38))
    have kk1 := (Blk.new (w.alloc (.cells #[.bool n1, .string a1, .string d1, .bool n2, .string a2, .string d2] 38)) 38 #[.bool m1, .string b1, .string c1, .bool m2, .string b2, .string c2])
    simp only [World.size_alloc] at kk1
    have K := Lib.hid ((KeepT.one kk0).snoc kk1)
    have hB := Lib.hid hBW
    clear hBW kk0 kk1
    go_enter Tryz.func18, Tryz.ntmps18
    go_wp2_with fail
    refine (hA.out _).mono ?_
    rintro en w1 ⟨rfl, hb⟩
    replace hB := Lib.hid (hB.out.trans (hb.mono hB.out.size))
    replace K := Lib.hid ((K.out.below hb))
    clear  hb hA
    go_wp2_with fail
    go_ret2
    exact ⟨by rw [hr.out]; rfl, hB.out⟩
  case pos =>
    subst h1
    replace hr := Lib.hid (hr.out.trans (if_pos rfl))
    by_cases h2 : t = 0
    case neg =>
      have x0 : (t != 0) = true := by rw [bne_iff_ne]; exact h2
      replace hr := Lib.hid (hr.out.trans (if_neg h2))
      clear k1 k2 h2
      have hBW : Below w.heap.size w ((w.alloc (.cells #[.bool n1, .string a1, .string d1, .bool n2, .string a2, .string d2] 38)).alloc (.cells #[.bool m1, .string b1, .string c1, .bool m2, .string b2, .string c2] 38)) := (((Below.refl _ w).alloc (Nat.le_refl _) _).alloc (by simp) _)
      have kk0 := ((Blk.new w 38 #[.bool n1, .string a1, .string d1, .bool n2, .string a2, .string d2]).alloc (.cells #[.bool m1, .string b1, .string c1, .bool m2, .string b2, .string c2] 38))
      have kk1 := (Blk.new (w.alloc (.cells #[.bool n1, .string a1, .string d1, .bool n2, .string a2, .string d2] 38)) 38 #[.bool m1, .string b1, .string c1, .bool m2, .string b2, .string c2])
      simp only [World.size_alloc] at kk1
      have K := Lib.hid ((KeepT.one kk0).snoc kk1)
      have hB := Lib.hid hBW
      clear hBW kk0 kk1
      go_enter Tryz.func18, Tryz.ntmps18
      go_wp2_with fail
      refine (hA.out _).mono ?_
      rintro en w1 ⟨rfl, hb⟩
      replace hB := Lib.hid (hB.out.trans (hb.mono hB.out.size))
      replace K := Lib.hid ((K.out.below hb))
      clear  hb hA
      have mm0 : w1.cell? ⟨w.heap.size + 1, 0, none⟩ = some (.bool m1) := (K.out.at_ 1 rfl).cell 0
      have mm1 : w1.cell? ⟨w.heap.size + 1, 1, none⟩ = some (.string b1) := (K.out.at_ 1 rfl).cell 1
      have mm2 : w1.cell? ⟨w.heap.size + 1, 2, none⟩ = some (.string c1) := (K.out.at_ 1 rfl).cell 2
      have mm3 : w1.cell? ⟨w.heap.size + 1, 3, none⟩ = some (.bool m2) := (K.out.at_ 1 rfl).cell 3
      have mm4 : w1.cell? ⟨w.heap.size + 1, 4, none⟩ = some (.string b2) := (K.out.at_ 1 rfl).cell 4
      have mm5 : w1.cell? ⟨w.heap.size + 1, 5, none⟩ = some (.string c2) := (K.out.at_ 1 rfl).cell 5
      go_wp2_with fail
      refine (hC.out _).mono ?_
      rintro en w2 ⟨rfl, hb⟩
      replace hB := Lib.hid (hB.out.trans (hb.mono hB.out.size))
      replace K := Lib.hid ((K.out.below hb))
      clear mm0 mm1 mm2 mm3 mm4 mm5 hb hC
      go_wp2_with fail
      go_ret2
      exact ⟨by rw [hr.out]; rfl, hB.out⟩
    case pos =>
      subst h2
      replace hr := Lib.hid (hr.out.trans (if_pos rfl))
      obtain ⟨l, hl, -, rfl, rfl, rfl, rfl, rfl, rfl⟩ := k1 rfl
      obtain ⟨m, hm, -, rfl, rfl, rfl, rfl, rfl, rfl⟩ := k2 rfl
      replace hr := hr.out
      rw [be_natS, be_natS, be_natS, be_natS, be_natS, be_natS, be_natS, be_natS] at hr
      replace hr := Lib.hid hr
      clear k1 k2
      have hX := Lib.hid (fun W => lcrosses_any l m W hl hm)
      obtain ⟨b, hb1⟩ : ∃ b, b = partsP l m.1 m.2 := ⟨_, rfl⟩
      rw [← hb1] at hX
      replace hr := Lib.hid (hr.out.trans (by rw [hb1] : _ = (b, (0 : Int))))
      clear hb1 hl hm
      have hBW : Below w.heap.size w ((w.alloc (.cells #[.bool false, .string (natS l.1.1), .string (natS l.1.2), .bool false, .string (natS l.2.1), .string (natS l.2.2)] 38)).alloc (.cells #[.bool false, .string (natS m.1.1), .string (natS m.1.2), .bool false, .string (natS m.2.1), .string (natS m.2.2)] 38)) := (((Below.refl _ w).alloc (Nat.le_refl _) _).alloc (by simp) _)
      have kk0 := ((Blk.new w 38 #[.bool false, .string (natS l.1.1), .string (natS l.1.2), .bool false, .string (natS l.2.1), .string (natS l.2.2)]).alloc (.cells #[.bool false, .string (natS m.1.1), .string (natS m.1.2), .bool false, .string (natS m.2.1), .string (natS m.2.2)] 38))
      have kk1 := (Blk.new (w.alloc (.cells #[.bool false, .string (natS l.1.1), .string (natS l.1.2), .bool false, .string (natS l.2.1), .string (natS l.2.2)] 38)) 38 #[.bool false, .string (natS m.1.1), .string (natS m.1.2), .bool false, .string (natS m.2.1), .string (natS m.2.2)])
      simp only [World.size_alloc] at kk1
      have K := Lib.hid ((KeepT.one kk0).snoc kk1)
      have hB := Lib.hid hBW
      clear hBW kk0 kk1
      go_enter Tryz.func18, Tryz.ntmps18
      go_wp2_with fail
      refine (hA.out _).mono ?_
      rintro en w1 ⟨rfl, hb⟩
      replace hB := Lib.hid (hB.out.trans (hb.mono hB.out.size))
      replace K := Lib.hid ((K.out.below hb))
      clear  hb hA
      have mm0 : w1.cell? ⟨w.heap.size + 1, 0, none⟩ = some (.bool false) := (K.out.at_ 1 rfl).cell 0
      have mm1 : w1.cell? ⟨w.heap.size + 1, 1, none⟩ = some (.string (natS m.1.1)) := (K.out.at_ 1 rfl).cell 1
      have mm2 : w1.cell? ⟨w.heap.size + 1, 2, none⟩ = some (.string (natS m.1.2)) := (K.out.at_ 1 rfl).cell 2
      have mm3 : w1.cell? ⟨w.heap.size + 1, 3, none⟩ = some (.bool false) := (K.out.at_ 1 rfl).cell 3
      have mm4 : w1.cell? ⟨w.heap.size + 1, 4, none⟩ = some (.string (natS m.2.1)) := (K.out.at_ 1 rfl).cell 4
      have mm5 : w1.cell? ⟨w.heap.size + 1, 5, none⟩ = some (.string (natS m.2.2)) := (K.out.at_ 1 rfl).cell 5
      go_wp2_with fail
      refine (hC.out _).mono ?_
      rintro en w2 ⟨rfl, hb⟩
      replace hB := Lib.hid (hB.out.trans (hb.mono hB.out.size))
      replace K := Lib.hid ((K.out.below hb))
      clear mm0 mm1 mm2 mm3 mm4 mm5 hb hC
      have ll0 : w2.cell? ⟨w.heap.size, 0, none⟩ = some (.bool false) := (K.out.at_ 0 rfl).cell 0
      have ll1 : w2.cell? ⟨w.heap.size, 1, none⟩ = some (.string (natS l.1.1)) := (K.out.at_ 0 rfl).cell 1
      have ll2 : w2.cell? ⟨w.heap.size, 2, none⟩ = some (.string (natS l.1.2)) := (K.out.at_ 0 rfl).cell 2
      have ll3 : w2.cell? ⟨w.heap.size, 3, none⟩ = some (.bool false) := (K.out.at_ 0 rfl).cell 3
      have ll4 : w2.cell? ⟨w.heap.size, 4, none⟩ = some (.string (natS l.2.1)) := (K.out.at_ 0 rfl).cell 4
      have ll5 : w2.cell? ⟨w.heap.size, 5, none⟩ = some (.string (natS l.2.2)) := (K.out.at_ 0 rfl).cell 5
      have mm0 : w2.cell? ⟨w.heap.size + 1, 0, none⟩ = some (.bool false) := (K.out.at_ 1 rfl).cell 0
      have mm1 : w2.cell? ⟨w.heap.size + 1, 1, none⟩ = some (.string (natS m.1.1)) := (K.out.at_ 1 rfl).cell 1
      have mm2 : w2.cell? ⟨w.heap.size + 1, 2, none⟩ = some (.string (natS m.1.2)) := (K.out.at_ 1 rfl).cell 2
      have mm3 : w2.cell? ⟨w.heap.size + 1, 3, none⟩ = some (.bool false) := (K.out.at_ 1 rfl).cell 3
      have mm4 : w2.cell? ⟨w.heap.size + 1, 4, none⟩ = some (.string (natS m.2.1)) := (K.out.at_ 1 rfl).cell 4
      have mm5 : w2.cell? ⟨w.heap.size + 1, 5, none⟩ = some (.string (natS m.2.2)) := (K.out.at_ 1 rfl).cell 5
      go_wp2_with fail
      refine (hX.out _).mono ?_
      rintro en w3 ⟨rfl, hb⟩
      replace hB := Lib.hid (hB.out.trans (hb.mono hB.out.size))
      replace K := Lib.hid ((K.out.below hb))
      clear ll0 ll1 ll2 ll3 ll4 ll5 mm0 mm1 mm2 mm3 mm4 mm5 hb hX
      go_wp2_with fail
      go_ret2
      exact ⟨by rw [hr.out]; rfl, hB.out⟩
open Go.RowKit Go.Sort
end Go.Proofs.YtoaggmegmgdgbaaGreat
