/- filigreelaw22: lent, kept. -/
import Derived.Test.YtbddlbhanpjdnaaGreatDoorSpl
import Derived.Test.YtbddlbhanpjdnaaGreatDoorRSm
import Derived.StillTailTactics
namespace Go.Proofs.YtbddlbhanpjdnaaGreatDoor
open Go.RowKit Go.Sort

/-- A row in new memory, with marks behind its lists. -/
def Lent (P Q : List Nat) (B g1 c1 g2 c2 : Nat) (w : World) : Prop :=
  w.ownsRow B 5 1 (.slice (some ⟨g1, 0, none⟩) (P.length + 2) c1) (P.length + 2) (ivs .u8 (P ++ [201, 202])) ∧ w.ownsRow B 5 1 (.slice (some ⟨g2, 0, none⟩) (Q.length + 2) c2) (Q.length + 2) (ivs .u8 (Q ++ [203, 204]))
def RetLent (P Q : List Nat) (w : World) (e : Ending) (w' : World) : Prop :=
  ∃ g1 c1 g2 c2, e = .returned (.agg #[.slice (some ⟨g1, 0, none⟩) P.length c1, .slice (some ⟨g2, 0, none⟩) Q.length c2]) ∧ Lent P Q w.heap.size g1 c1 g2 c2 w' ∧ Below w.heap.size w w'
theorem Lent.below {P Q : List Nat} {B g1 c1 g2 c2 : Nat} {w w' : World} (h : Lent P Q B g1 c1 g2 c2 w) (hb : Below w.heap.size w w') : Lent P Q B g1 c1 g2 c2 w' := ⟨own_below h.1 hb, own_below h.2 hb⟩
theorem Lent.alloc {P Q : List Nat} {B g1 c1 g2 c2 : Nat} {w : World} (h : Lent P Q B g1 c1 g2 c2 w) (o : Obj) : Lent P Q B g1 c1 g2 c2 (w.alloc o) := ⟨h.1.alloc o, h.2.alloc o⟩
theorem lent_caps {w : World} {B g n c : Nat} {xs : List Value} (h : w.ownsRow B 5 1 (.slice (some ⟨g, 0, none⟩) n c) n xs) : n ≤ c ∧ c ≤ maxLen := by
  rcases h.2 with ⟨e, -⟩ | ⟨g', cap, cur, e, -, -, h1, h2, -⟩
  · cases e
  · injection e with e1 e2 e3
    subst e3
    exact ⟨h1, h2⟩
theorem rd_front {w : World} {B g n m c : Nat} {l : List Nat} {T : List Nat} (h : w.ownsRow B 5 1 (.slice (some ⟨g, 0, none⟩) n c) n (ivs .u8 (l ++ T))) (hm : m = l.length) : Rd .u8 5 w (.slice (some ⟨g, 0, none⟩) m c) l := by
  have h1 := rd_take (own_rdn h) (p := m) (by simp; omega)
  rw [hm, List.take_left] at h1
  rw [hm]
  exact h1
theorem Lent.itn {P Q : List Nat} {B g1 c1 g2 c2 : Nat} {w : World} (h : Lent P Q B g1 c1 g2 c2 w) (s1 : ∀ x, x ∈ P → x < 256) (s2 : ∀ x, x ∈ Q → x < 256) (l1 : P.length ≤ 140737488351232) (l2 : Q.length ≤ 140737488351232) :
    Itn w (.slice (some ⟨g1, 0, none⟩) P.length c1) (.slice (some ⟨g2, 0, none⟩) Q.length c2) P Q := by
  exact ⟨⟨_, _, _, _, rfl, rd_front h.1 rfl⟩, ⟨_, _, _, _, rfl, rd_front h.2 rfl⟩, s1, s2, l1, l2⟩

set_option maxRecDepth 100000 in
set_option maxHeartbeats 4000000 in
/-- filigreelaw22.lent -/
theorem lent_any (a b : Value) (P Q : List Nat) (w : World) (h : Itn w a b P Q) : Calls Tryz.prog 16 #[.agg #[a, b]] w (RetLent P Q w) := by
  obtain ⟨i0, hi, hz0, hz1, hz2⟩ := info_parts info_u8
  obtain ⟨⟨A1, n1, c1, T1, rfl, h1⟩, ⟨A2, n2, c2, T2, rfl, h2⟩, -, -, l1, l2⟩ := h
  have e1 := (rd_cells h1).1
  have e2 := (rd_cells h2).1
  have k0 := (Blk.new w 30 #[.slice A1 n1 c1, .slice A2 n2 c2]).alloc (.cells #[.slice none 0 0, .slice none 0 0] 30)
  have k1 := Blk.new (w.alloc (.cells #[.slice A1 n1 c1, .slice A2 n2 c2] 30)) 30 #[.slice none 0 0, .slice none 0 0]
  rw [World.size_alloc] at k1
  have hBW : Below w.heap.size w ((w.alloc (.cells #[.slice A1 n1 c1, .slice A2 n2 c2] 30)).alloc (.cells #[.slice none 0 0, .slice none 0 0] 30)) := ((Below.refl _ w).alloc (Nat.le_refl _) _).alloc (by simp) _
  have r1 := h1.below hBW
  have r2 := h2.below hBW
  have m1 : n1 ≤ 140737488351232 := by omega
  have m2 : n2 ≤ 140737488351232 := by omega
  clear h1 h2 l1 l2
  replace e1 := Lib.hid e1
  replace e2 := Lib.hid e2
  go_enter Tryz.func16, Tryz.ntmps16
  go_upto_region 1 with fail
  generalize hW : (w.alloc (.cells #[.slice A1 n1 c1, .slice A2 n2 c2] 30)).alloc (.cells #[.slice none 0 0, .slice none 0 0] 30) = w0 at k0 k1 hBW r1 r2 ⊢
  clear hW
  have hw01 := Lib.hid k1.lt
  replace k0 := Lib.hid k0
  replace k1 := Lib.hid k1
  have hB := Lib.hid hBW
  replace r1 := Lib.hid r1
  replace r2 := Lib.hid r2
  have b0 : (w0.alloc (.cells #[] 5)).cell? ⟨w.heap.size, 0, none⟩ = some (.slice A1 n1 c1) := (k0.out.alloc _).cell 0
  clear hBW
  go_wp2_with (at_builtin; refine wpList_append_rd rfl _ _ 28 rfl .u8 w0.heap.size 5 T1 i0 (.int .u8 0) 1 Tryz.underlying28 hi hz0 hz1 hz2 rfl _ 0 [] rfl (World.ownsRow_made w0 #[] 0 (Nat.le_refl _) (Nat.zero_le _) rfl) _ _ _ P rfl (r1.out.alloc _) ?d1 ?d2 (by simp) ?_)
  case d1 => unfold maxLen; omega
  case d2 => omega
  intro va wa hoa hga
  replace hoa : Hid (wa.ownsRow w0.heap.size 5 1 va n1 (ivs .u8 P)) := Lib.hid (by simpa using hoa)
  have hU1 : Below w0.heap.size w0 wa := ((Below.refl _ w0).alloc (Nat.le_refl _) _).grown hga (by simp) (by intro k hk; simp [Value.ownBlock] at hk; omega)
  replace hU1 := Lib.hid hU1
  clear hga b0
  go_wp2_with (at_builtin; refine wpList_append_own _ rfl _ _ 28 rfl w0.heap.size 5 i0 (.int .u8 0) 1 1 Tryz.underlying28 hi hz0 hz1 hz2 rfl (by decide) _ _ _ rfl (hoa.out.alloc _) ⟨wa.heap.size, 0, none⟩ 2 2 [.int .u8 201, .int .u8 202] rfl rfl ?e1 ?e2 ?e3 ?e4 ?e5 ?_)
  try (case e1 => exact two_new _ _ _)
  case e2 => first | exact ⟨rfl, rfl⟩ | (intro u hu; simp at hu; rcases hu with rfl | rfl <;> rfl)
  case e3 => unfold maxLen; omega
  case e4 => omega
  case e5 => have := hU1.out.size; simp; omega
  intro vb wb hob hgb _
  obtain ⟨g1, y1, rfl⟩ : ∃ g c, vb = .slice (some ⟨g, 0, none⟩) (n1 + 2) c := by
    rcases own_forms hob with ⟨-, h⟩ | h
    · omega
    · exact h
  replace hob : Hid (wb.ownsRow w0.heap.size 5 1 (.slice (some ⟨g1, 0, none⟩) (n1 + 2) y1) (n1 + 2) (ivs .u8 (P ++ [201, 202]))) := Lib.hid (by rw [ivs_append]; exact hob)
  have hU2 := Lib.hid ((hU1.out.alloc hU1.out.size _).grown hgb (by have := hU1.out.size; simp; omega) (fun k hk => (hoa.out.lt k hk).1))
  clear hgb hU1 hoa
  have r2b := Lib.hid ((r2.out.below hU2.out).alloc (.cells #[] 5))
  have hgb1 : Hid (g1 < wb.heap.size) := Lib.hid (hob.out.lt g1 rfl).2
  have b1 : (wb.alloc (.cells #[] 5)).cell? ⟨w.heap.size, 1, none⟩ = some (.slice A2 n2 c2) := ((Blk.below k0.out hU2.out).alloc _).cell 1
  go_wp2_with (at_builtin; refine wpList_append_rd rfl _ _ 28 rfl .u8 wb.heap.size 5 T2 i0 (.int .u8 0) 1 Tryz.underlying28 hi hz0 hz1 hz2 rfl _ 0 [] rfl (World.ownsRow_made wb #[] 0 (Nat.le_refl _) (Nat.zero_le _) rfl) _ _ _ Q rfl r2b.out ?f1 ?f2 (by simp) ?_)
  case f1 => unfold maxLen; omega
  case f2 => omega
  intro vc wc hoc hgc
  replace hoc : Hid (wc.ownsRow wb.heap.size 5 1 vc n2 (ivs .u8 Q)) := Lib.hid (by simpa using hoc)
  have hV1 : Below wb.heap.size wb wc := ((Below.refl _ wb).alloc (Nat.le_refl _) _).grown hgc (by simp) (by intro k hk; simp [Value.ownBlock] at hk; omega)
  replace hV1 := Lib.hid hV1
  clear hgc b1 r2b
  go_wp2_with (at_builtin; refine wpList_append_own _ rfl _ _ 28 rfl wb.heap.size 5 i0 (.int .u8 0) 1 1 Tryz.underlying28 hi hz0 hz1 hz2 rfl (by decide) _ _ _ rfl (hoc.out.alloc _) ⟨wc.heap.size, 0, none⟩ 2 2 [.int .u8 203, .int .u8 204] rfl rfl ?h1 ?h2 ?h3 ?h4 ?h5 ?_)
  try (case h1 => exact two_new _ _ _)
  case h2 => first | exact ⟨rfl, rfl⟩ | (intro u hu; simp at hu; rcases hu with rfl | rfl <;> rfl)
  case h3 => unfold maxLen; omega
  case h4 => omega
  case h5 => have := hV1.out.size; simp; omega
  intro vd wd hod hgd _
  obtain ⟨g2, y2, rfl⟩ : ∃ g c, vd = .slice (some ⟨g, 0, none⟩) (n2 + 2) c := by
    rcases own_forms hod with ⟨-, h⟩ | h
    · omega
    · exact h
  replace hod : Hid (wd.ownsRow wb.heap.size 5 1 (.slice (some ⟨g2, 0, none⟩) (n2 + 2) y2) (n2 + 2) (ivs .u8 (Q ++ [203, 204]))) := Lib.hid (by rw [ivs_append]; exact hod)
  have hV2 := Lib.hid ((hV1.out.alloc hV1.out.size _).grown hgd (by have := hV1.out.size; simp; omega) (fun k hk => (hoc.out.lt k hk).1))
  have hob2 := Lib.hid (own_below hob.out hV2.out)
  have hU3 := Lib.hid (hU2.out.trans (hV2.out.mono hU2.out.size))
  have k02 := Lib.hid (Blk.below k0.out hU3.out)
  have k12 := Lib.hid (Blk.below k1.out hU3.out)
  have hB3 := Lib.hid (hB.out.trans (hU3.out.mono hB.out.size))
  have hzU := hU2.out.size
  clear hgd hV1 hoc hob hU2 k0 k1 hU3 hgb1 r1 r2
  have a0 : wd.cell? ⟨w.heap.size, 0, none⟩ = some (.slice A1 n1 c1) := k02.out.cell 0
  have a1 : wd.cell? ⟨w.heap.size, 1, none⟩ = some (.slice A2 n2 c2) := k02.out.cell 1
  have d0 : wd.cell? ⟨w.heap.size + 1, 0, none⟩ = some (.slice none 0 0) := k12.out.cell 0
  have d1 : wd.cell? ⟨w.heap.size + 1, 1, none⟩ = some (.slice none 0 0) := k12.out.cell 1
  have f0 := k12.out.frozen 0
  have f1 := k12.out.frozen 1
  obtain ⟨c1a, -⟩ := lent_caps hob2.out
  obtain ⟨c2a, -⟩ := lent_caps hod.out
  have x1 : (n1 : Int) ≤ (y1 : Int) := by omega
  have x2 : (n2 : Int) ≤ (y2 : Int) := by omega
  go_wp2_with fail
  go_still_tail 11, (by kernel_rfl)
  change wpList _ _ _ _ _ wd.drew
  go_wp2_with fail
  have KZ := Blk.drew (Blk.set_ (Blk.set_ k12.out 0 (.slice (some ⟨g1, 0, none⟩) n1 y1)) 1 (.slice (some ⟨g2, 0, none⟩) n2 y2))
  have hBZ := Lib.hid ((hB3.out.setCell (p := ⟨w.heap.size + 1, 0, none⟩) (by simp) (.slice (some ⟨g1, 0, none⟩) n1 y1)).setCell (p := ⟨w.heap.size + 1, 1, none⟩) (by simp) (.slice (some ⟨g2, 0, none⟩) n2 y2)).drew
  have q0 := KZ.cell 0
  have q1 := KZ.cell 1
  have hwz := hB.out.size
  refine bodyPost_ret (v := .agg #[.slice (some ⟨g1, 0, none⟩) n1 y1, .slice (some ⟨g2, 0, none⟩) n2 y2]) (by simp [results, Tryz.results16, go_sem, q0, q1]) rfl ?_
  have hlt : w.heap.size + 1 < w0.heap.size := hw01.out
  have o1 : ((wd.setCell ⟨w.heap.size + 1, 0, none⟩ (.slice (some ⟨g1, 0, none⟩) n1 y1)).setCell ⟨w.heap.size + 1, 1, none⟩ (.slice (some ⟨g2, 0, none⟩) n2 y2)).drew.ownsRow w.heap.size 5 1 (.slice (some ⟨g1, 0, none⟩) (n1 + 2) y1) (n1 + 2) (ivs .u8 (P ++ [201, 202])) :=
    own_le (own_drewN (ownsRow_setCell_below (ownsRow_setCell_below hob2.out (a := ⟨w.heap.size + 1, 0, none⟩) hlt _) (a := ⟨w.heap.size + 1, 1, none⟩) hlt _) 1) hwz
  have o2 : ((wd.setCell ⟨w.heap.size + 1, 0, none⟩ (.slice (some ⟨g1, 0, none⟩) n1 y1)).setCell ⟨w.heap.size + 1, 1, none⟩ (.slice (some ⟨g2, 0, none⟩) n2 y2)).drew.ownsRow w.heap.size 5 1 (.slice (some ⟨g2, 0, none⟩) (n2 + 2) y2) (n2 + 2) (ivs .u8 (Q ++ [203, 204])) :=
    own_le (own_drewN (ownsRow_setCell_below (ownsRow_setCell_below hod.out (a := ⟨w.heap.size + 1, 0, none⟩) (by show w.heap.size + 1 < wb.heap.size; omega) _) (a := ⟨w.heap.size + 1, 1, none⟩) (by show w.heap.size + 1 < wb.heap.size; omega) _) 1) (by omega)
  have hb9 := hBZ.out
  rw [e1.out, e2.out] at o1 o2 hb9 ⊢
  exact ⟨g1, y1, g2, y2, rfl, ⟨o1, o2⟩, hb9⟩

theorem marks_get (l : List Nat) (x y : Nat) : (ivs .u8 (l ++ [x, y]))[l.length]? = some (.int .u8 (x : Int)) ∧ (ivs .u8 (l ++ [x, y]))[l.length + 1]? = some (.int .u8 (y : Int)) := by
  constructor
  · exact ivs_get (by rw [List.getElem?_append_right (Nat.le_refl _)]; simp)
  · exact ivs_get (by rw [List.getElem?_append_right (by omega)]; simp)

set_option maxRecDepth 100000 in
set_option maxHeartbeats 4000000 in
/-- filigreelaw22.kept -/
theorem kept_any (g1 c1 g2 c2 B : Nat) (a b : Value) (P Q : List Nat) (w : World) (h : Itn w a b P Q) (hL : Lent P Q B g1 c1 g2 c2 w) :
    Calls Tryz.prog 20 #[.agg #[.slice (some ⟨g1, 0, none⟩) P.length c1, .slice (some ⟨g2, 0, none⟩) Q.length c2], .agg #[a, b]] w (RetVal (.bool true) w) := by
  have hIs := h
  obtain ⟨⟨A1, n1, c1', T1, rfl, h1⟩, ⟨A2, n2, c2', T2, rfl, h2⟩, s1, s2, l1, l2⟩ := h
  have e1 := (rd_cells h1).1
  have e2 := (rd_cells h2).1
  have hIm := hL.itn s1 s2 l1 l2
  obtain ⟨k1, k2⟩ := lent_caps hL.1
  obtain ⟨k3, k4⟩ := lent_caps hL.2
  obtain ⟨u0, u1⟩ := marks_get P 201 202
  obtain ⟨u2, u3⟩ := marks_get Q 203 204
  rw [← e1] at u0 u1 k1
  rw [← e2] at u2 u3 k3
  obtain ⟨N1, hN1⟩ : ∃ N, N = n1 + 2 := ⟨_, rfl⟩
  obtain ⟨N2, hN2⟩ : ∃ N, N = n2 + 2 := ⟨_, rfl⟩
  have m1 : n1 ≤ 140737488351232 := by omega
  have m2 : n2 ≤ 140737488351232 := by omega
  have hcell : Hid (∀ W, Below w.heap.size w W → W.cell? ⟨g1, n1, none⟩ = some (.int .u8 201) ∧ W.cell? ⟨g1, n1 + 1, none⟩ = some (.int .u8 202) ∧ W.cell? ⟨g2, n2, none⟩ = some (.int .u8 203) ∧ W.cell? ⟨g2, n2 + 1, none⟩ = some (.int .u8 204)) := Lib.hid (fun W hb => by
    have hW := hL.below hb
    refine ⟨?_, ?_, ?_, ?_⟩
    · rw [hW.1.cellAt _ (by omega)]; exact u0
    · rw [hW.1.cellAt _ (by omega)]; exact u1
    · rw [hW.2.cellAt _ (by omega)]; exact u2
    · rw [hW.2.cellAt _ (by omega)]; exact u3)
  have hY : Hid (∀ W, Below w.heap.size w W → Calls Tryz.prog 12 #[.agg #[.slice (some ⟨g1, 0, none⟩) n1 c1, .slice (some ⟨g2, 0, none⟩) n2 c2], .agg #[.slice A1 n1 c1', .slice A2 n2 c2']] W (RetVal (.bool true) W)) := Lib.hid (fun W hb => by
    have h3 := hIm.below hb
    rw [← e1, ← e2] at h3
    exact rsameT _ _ _ _ P Q W h3 (hIs.below hb))
  rw [← e1, ← e2]
  have kb := (Blk.new w 30 #[.slice (some ⟨g1, 0, none⟩) n1 c1, .slice (some ⟨g2, 0, none⟩) n2 c2]).alloc (.cells #[.slice A1 n1 c1', .slice A2 n2 c2'] 30)
  have kc := Blk.new (w.alloc (.cells #[.slice (some ⟨g1, 0, none⟩) n1 c1, .slice (some ⟨g2, 0, none⟩) n2 c2] 30)) 30 #[.slice A1 n1 c1', .slice A2 n2 c2']
  rw [World.size_alloc] at kc
  have hBW : Below w.heap.size w ((w.alloc (.cells #[.slice (some ⟨g1, 0, none⟩) n1 c1, .slice (some ⟨g2, 0, none⟩) n2 c2] 30)).alloc (.cells #[.slice A1 n1 c1', .slice A2 n2 c2'] 30)) := ((Below.refl _ w).alloc (Nat.le_refl _) _).alloc (by simp) _
  clear h1 h2 s1 s2 l1 l2 hIs hIm hL u0 u1 u2 u3 e1 e2 k2 k4
  go_enter Tryz.func20, Tryz.ntmps20
  go_upto_region 1 with fail
  generalize hW : (w.alloc (.cells #[.slice (some ⟨g1, 0, none⟩) n1 c1, .slice (some ⟨g2, 0, none⟩) n2 c2] 30)).alloc (.cells #[.slice A1 n1 c1', .slice A2 n2 c2'] 30) = w0 at kb kc hBW ⊢
  clear hW
  have b0 : w0.cell? ⟨w.heap.size, 0, none⟩ = some (.slice (some ⟨g1, 0, none⟩) n1 c1) := kb.cell 0
  have b1 : w0.cell? ⟨w.heap.size, 1, none⟩ = some (.slice (some ⟨g2, 0, none⟩) n2 c2) := kb.cell 1
  have d0 : w0.cell? ⟨w.heap.size + 1, 0, none⟩ = some (.slice A1 n1 c1') := kc.cell 0
  have d1 : w0.cell? ⟨w.heap.size + 1, 1, none⟩ = some (.slice A2 n2 c2') := kc.cell 1
  have x1 : IntKind.i64.wrap ((n1 : Int) + 2) = (N1 : Int) := by rw [IntKind.wrap_i64]; omega
  have x2 : IntKind.i64.wrap ((n2 : Int) + 2) = (N2 : Int) := by rw [IntKind.wrap_i64]; omega
  have x3 : (N1 : Int) ≤ (c1 : Int) := by omega
  have x4 : (N2 : Int) ≤ (c2 : Int) := by omega
  replace kb := Lib.hid kb
  replace kc := Lib.hid kc
  replace hBW := Lib.hid hBW
  go_wp2_with fail
  go_quiet (fail)
  clear x1 x2
  have hB1 := below_drewN hBW.out nq
  have y1 : (n1 : Int) < (N1 : Int) := by omega
  have y2 : (n1 : Int) + 1 < (N1 : Int) := by omega
  have y3 : (n2 : Int) < (N2 : Int) := by omega
  have y4 : (n2 : Int) + 1 < (N2 : Int) := by omega
  replace hB1 := Lib.hid hB1
  go_wp2_with fail
  refine (hY.out _ hB1.out).mono ?_
  rintro en w2 ⟨rfl, hb⟩
  have hB2 := hB1.out.trans (hb.mono hB1.out.size)
  obtain ⟨z0, z1, z2, z3⟩ := hcell.out w2 hB2
  have d0' : w2.cell? ⟨w.heap.size + 1, 0, none⟩ = some (.slice A1 n1 c1') := (Blk.below (Blk.drewN kc.out nq) hb).cell 0
  have d1' : w2.cell? ⟨w.heap.size + 1, 1, none⟩ = some (.slice A2 n2 c2') := (Blk.below (Blk.drewN kc.out nq) hb).cell 1
  replace hB2 := Lib.hid hB2
  clear hb b0 b1 d0 d1 hY hcell
  go_wp2_with fail
  go_ret
  exact ⟨rfl, hB2.out⟩
end Go.Proofs.YtbddlbhanpjdnaaGreatDoor
