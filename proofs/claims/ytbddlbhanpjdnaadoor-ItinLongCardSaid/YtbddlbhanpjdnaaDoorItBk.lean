/- filigreelaw22.ItinBack: the walk. -/
import Derived.Test.YtbddlbhanpjdnaaDoorSame
import Derived.Deep.CutRange
namespace Go.Proofs.YtbddlbhanpjdnaaDoor
open Go.RowKit Go.Sort

theorem textL_len {P Q : List Nat} (h : mayI P Q = true) : (textL P Q).length ≤ 16384 := by
  have h1 := preW_len P
  have h2 := perW_len Q
  have h3 := (mayI_spec h).2.1
  simp only [textL, List.length_append, List.length_cons, List.length_nil]
  omega
theorem rdOut_text {P Q : List Nat} (h : mayI P Q = true) : RdOut (textL P Q) P Q 0 := .inr ⟨textL_len h, .inl ⟨h, rfl, rfl⟩⟩
theorem rdOut_cases {s P Q : List Nat} {E : Int} (h : RdOut s P Q E) : (mayI P Q = true ∧ textL P Q = s ∧ E = 0) ∨ (P = [] ∧ Q = [] ∧ (E = 4 ∨ E = 220)) := by
  rcases h with ⟨-, h1, h2, h3⟩ | ⟨-, h | ⟨h1, h2, h3, -⟩⟩
  · exact .inr ⟨h1, h2, .inl h3⟩
  · exact .inl h
  · exact .inr ⟨h1, h2, .inr h3⟩
theorem rdOut_itn {s P Q : List Nat} {E : Int} (h : RdOut s P Q E) {w : World} {B : Nat} {v1 v2 : Value} (h1 : Pf w B v1 P) (h2 : Pf w B v2 Q) : Itn w v1 v2 P Q := by
  have hb : (∀ x, x ∈ P → x < 256) ∧ (∀ x, x ∈ Q → x < 256) ∧ P.length ≤ 4096 ∧ Q.length ≤ 4096 := by
    rcases rdOut_cases h with ⟨hm, -, -⟩ | ⟨rfl, rfl, -⟩
    · obtain ⟨-, m2, m3, m4⟩ := mayI_spec hm
      have hs : ∀ x, symB x = true → x < 256 := fun x h => by simp [symB] at h; omega
      exact ⟨fun x hx => hs x (m3 x hx), fun x hx => hs x (m4 x hx), by omega, by omega⟩
    · exact ⟨fun x hx => (by cases hx), fun x hx => (by cases hx), by simp, by simp⟩
  obtain ⟨A1, c1, e1, -⟩ := h1.form
  obtain ⟨A2, c2, e2, -⟩ := h2.form
  exact ⟨⟨_, _, _, _, e1, h1.rd⟩, ⟨_, _, _, _, e2, h2.rd⟩, hb.1, hb.2.1, by omega, by omega⟩

set_option maxRecDepth 100000 in
set_option maxHeartbeats 2000000 in
/-- filigreelaw22.ItinBack -/
theorem itinBack_any (a b : Value) (P Q : List Nat) (s : ByteArray) (w : World) (h : Itn w a b P Q) (hs : s.size ≤ 140737488351232) :
    Calls Tryd.prog 9 #[.agg #[a, b], .string s] w (RetVal (.bool true) w) := by
  have hI0 := h
  obtain ⟨⟨A1, n1, c1, T1, rfl, h1⟩, ⟨A2, n2, c2, T2, rfl, h2⟩, s1, s2, l1, l2⟩ := h
  have hBW : Below w.heap.size w (w.alloc (.cells #[.slice A1 n1 c1, .slice A2 n2 c2] 28)) := (Below.refl _ w).alloc (Nat.le_refl _) _
  have k0 := Lib.hid (Blk.new w 28 #[.slice A1 n1 c1, .slice A2 n2 c2])
  have hI := Lib.hid (hI0.alloc (.cells #[.slice A1 n1 c1, .slice A2 n2 c2] 28))
  have hC := fun W h1 h2 => iCheck_any (T1 := T1) (T2 := T2) A1 A2 n1 c1 n2 c2 P Q W h1 h2 s1 s2 l1 l2
  obtain ⟨r, hr⟩ : ∃ r, r = chkE P Q := ⟨_, rfl⟩
  rw [← hr] at hC
  have hR1 := Lib.hid h1
  have hR2 := Lib.hid h2
  replace hBW := Lib.hid hBW
  replace hC := Lib.hid hC
  replace hr := Lib.hid hr
  replace hs := Lib.hid hs
  clear h1 h2 s1 s2 l1 l2 hI0
  go_enter Tryd.func9, Tryd.ntmps9
  go_upto_if 15 with (go_at_call 23; refine (hC.out _ (hR1.out.below hBW.out) (hR2.out.below hBW.out)).mono ?_; rintro e1 w1 ⟨rfl, hb⟩)
  have hB1 := Lib.hid (hBW.out.trans (hb.mono (by simp)))
  have j1 := Lib.hid (Blk.below k0.out hb)
  have hI1 := Lib.hid (hI.out.below hb)
  clear hb hBW k0 hI hC
  go_cut [5, 6, 7, 8] from 15 to 37 (fun _ _ _ _ wx => Below w.heap.size w wx)
  case first =>
    cases hm : mayI P Q
    · obtain rfl : r = 220 := by rw [hr.out]; exact mayI_no hm
      go_wp2_with fail
      go_meet
      case rel => exact hB1.out
    · obtain rfl : r = 0 := by rw [hr.out]; exact mayI_yes hm
      have a0 : w1.cell? ⟨w.heap.size, 0, none⟩ = some (.slice A1 n1 c1) := j1.out.cell 0
      have a1 : w1.cell? ⟨w.heap.size, 1, none⟩ = some (.slice A2 n2 c2) := j1.out.cell 1
      have hck : Hid (chkE P Q = 0) := Lib.hid (mayI_yes hm)
      have hRo : Hid (sl (mkS (textL P Q)) = textL P Q ∧ RdOut (textL P Q) P Q 0) := Lib.hid ⟨sl_mk _ (textL_lt hm), rdOut_text hm⟩
      have hsz : Hid ((mkS (textL P Q)).size ≤ 140737488355328) := Lib.hid (by rw [mkS_size]; have := textL_len hm; omega)
      have htx : Hid (mkS (textL P Q) = if mayI P Q then mkS (textL P Q) else ⟨#[]⟩) := Lib.hid (by rw [hm]; rfl)
      clear hm hr
      go_wp2_with fail
      refine (iText_any _ _ P Q _ hI1.out _ htx.out).mono ?_
      rintro e w2 ⟨rfl, hb⟩
      rw [hck.out]
      have hB2 := Lib.hid (hB1.out.trans (hb.mono hB1.out.size))
      have j2 := Lib.hid (Blk.below j1.out hb)
      have hI2 := Lib.hid (hI1.out.below hb)
      clear hb hB1 j1 hI1 a0 a1
      go_wp2_with fail
      refine (iRead_any _ _ hsz.out).mono ?_
      rintro e w3 ⟨P2, Q2, E2, ho, v1, v2, rfl, g1, g2, hb⟩
      rw [hRo.out.1] at ho
      have hIr := rdOut_itn ho g1 g2
      obtain ⟨rfl, rfl, rfl⟩ := rdOut_same ho hRo.out.2
      obtain ⟨A3, c3, rfl, -⟩ := g1.form
      obtain ⟨A4, c4, rfl, -⟩ := g2.form
      have hB3 := hB2.out.trans (hb.mono hB2.out.size)
      have j3 := Blk.below j2.out hb
      have hI3 := hI2.out.below hb
      obtain ⟨p3, hp3⟩ : ∃ p, p = P2.length := ⟨_, rfl⟩
      obtain ⟨q3, hq3⟩ : ∃ q, q = Q2.length := ⟨_, rfl⟩
      rw [← hp3, ← hq3] at hIr ⊢
      have k4 := Blk.new w3 28 #[.slice A3 p3 c3, .slice A4 q3 c4]
      have hB4 := Lib.hid (hB3.alloc hB3.size (.cells #[.slice A3 p3 c3, .slice A4 q3 c4] 28))
      have j4 := Lib.hid (j3.alloc (.cells #[.slice A3 p3 c3, .slice A4 q3 c4] 28))
      have hI4 := Lib.hid (hI3.alloc (.cells #[.slice A3 p3 c3, .slice A4 q3 c4] 28))
      have hIr4 := Lib.hid (hIr.alloc (.cells #[.slice A3 p3 c3, .slice A4 q3 c4] 28))
      replace k4 := Lib.hid k4
      clear hb hB2 j2 hI2 ho g1 g2 hB3 j3 hI3 hIr hp3 hq3 hRo hsz htx hck
      go_upto_region 4 with fail
      generalize hW4 : w3.alloc (.cells #[.slice A3 p3 c3, .slice A4 q3 c4] 28) = w4 at k4 hB4 j4 hI4 hIr4 ⊢
      generalize hg4 : w3.heap.size = g4 at k4 ⊢
      clear hW4 hg4
      have a0 : w4.cell? ⟨w.heap.size, 0, none⟩ = some (.slice A1 n1 c1) := j4.out.cell 0
      have a1 : w4.cell? ⟨w.heap.size, 1, none⟩ = some (.slice A2 n2 c2) := j4.out.cell 1
      have b0 : w4.cell? ⟨g4, 0, none⟩ = some (.slice A3 p3 c3) := k4.out.cell 0
      have b1 : w4.cell? ⟨g4, 1, none⟩ = some (.slice A4 q3 c4) := k4.out.cell 1
      go_wp2_with fail
      refine (lsame_any _ _ _ _ P2 Q2 P2 Q2 _ hI4.out hIr4.out).mono ?_
      rintro e w5 ⟨rfl, hb⟩
      have hB5 := Lib.hid (hB4.out.trans (hb.mono hB4.out.size))
      rw [decide_eq_true (rfl : P2 = P2), decide_eq_true (rfl : Q2 = Q2)]
      clear hb a0 a1 b0 b1
      go_wp2_with fail
      go_meet
      case rel => exact hB5.out
  replace hcut := Lib.hid hcut
  clear hB1 j1 hI1
  go_wp2_with fail
  refine (iRead_any s _ (by have := hs.out; omega)).mono ?_
  rintro e w3 ⟨P2, Q2, E2, ho, v1, v2, rfl, g1, g2, hb⟩
  have hIr := rdOut_itn ho g1 g2
  obtain ⟨A3, c3, rfl, -⟩ := g1.form
  obtain ⟨A4, c4, rfl, -⟩ := g2.form
  have hB3 := hcut.out.trans (hb.mono hcut.out.size)
  obtain ⟨p3, hp3⟩ : ∃ p, p = P2.length := ⟨_, rfl⟩
  obtain ⟨q3, hq3⟩ : ∃ q, q = Q2.length := ⟨_, rfl⟩
  rw [← hp3, ← hq3] at hIr ⊢
  have k4 := Lib.hid (Blk.new w3 28 #[.slice A3 p3 c3, .slice A4 q3 c4])
  have hB4 := Lib.hid (hB3.alloc hB3.size (.cells #[.slice A3 p3 c3, .slice A4 q3 c4] 28))
  have hIr4 := Lib.hid (hIr.alloc (.cells #[.slice A3 p3 c3, .slice A4 q3 c4] 28))
  have hcs := Lib.hid (rdOut_cases ho)
  clear hb ho g1 g2 hB3 hIr hp3 hq3 hcut
  go_upto_region 7 with fail
  generalize hW4 : w3.alloc (.cells #[.slice A3 p3 c3, .slice A4 q3 c4] 28) = w4 at k4 hB4 hIr4 ⊢
  generalize hg4 : w3.heap.size = g4 at k4 ⊢
  clear hW4 hg4
  have b0 : w4.cell? ⟨g4, 0, none⟩ = some (.slice A3 p3 c3) := k4.out.cell 0
  have b1 : w4.cell? ⟨g4, 1, none⟩ = some (.slice A4 q3 c4) := k4.out.cell 1
  obtain ⟨tx, htx⟩ : ∃ tx, tx = if mayI P2 Q2 then mkS (textL P2 Q2) else ⟨#[]⟩ := ⟨_, rfl⟩
  replace htx := Lib.hid htx
  go_wp2_with fail
  refine (iText_any _ _ P2 Q2 _ hIr4.out tx htx.out).mono ?_
  rintro e w5 ⟨rfl, hb⟩
  have hB5 := Lib.hid (hB4.out.trans (hb.mono hB4.out.size))
  clear hb b0 b1 k4 hB4 hIr4
  rcases hcs.out with ⟨hm, he, rfl⟩ | ⟨-, -, hE⟩
  · rw [mayI_yes hm]
    obtain rfl : tx = s := by
      rw [htx.out, hm, he]
      exact sl_inj (sl_mk _ (sl_lt s))
    have hss : (tx.toList == tx.toList) = true := by simp
    clear hm he hcs htx
    go_wp2_with fail
    refine (lives_any _).mono ?_
    rintro e w6 ⟨rfl, hb⟩
    have hB6 := Lib.hid (hB5.out.trans (hb.mono hB5.out.size))
    clear hb
    go_wp2_with fail
    go_ret
    exact ⟨rfl, hB6.out⟩
  · obtain ⟨ck, hck⟩ : ∃ c, c = chkE P2 Q2 := ⟨_, rfl⟩
    rw [← hck]
    replace hck := Lib.hid hck
    clear hcs
    rcases hE with rfl | rfl
    all_goals
      go_wp2_with fail
      refine (lives_any _).mono ?_
      rintro e w6 ⟨rfl, hb⟩
      have hB6 := Lib.hid (hB5.out.trans (hb.mono hB5.out.size))
      clear hb
      go_wp2_with fail
      go_ret
      exact ⟨rfl, hB6.out⟩
end Go.Proofs.YtbddlbhanpjdnaaDoor
