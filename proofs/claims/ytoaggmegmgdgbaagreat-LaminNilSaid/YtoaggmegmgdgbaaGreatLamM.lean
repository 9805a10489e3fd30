/- filigreelaw23.LaminNil: the walk. -/
import Derived.Test.YtoaggmegmgdgbaaGreatLamL
import Derived.Test.YtoaggmegmgdgbaaGreatLeave
namespace Go.Proofs.YtoaggmegmgdgbaaGreat
open Go.RowKit Go.Sort
attribute [local go_sem] Oper.semAt_some

/-- No lamination: nil, or one that was not made. -/
def NoL (pv : Value) (W : World) : Prop := pv = .pointer none ∨ ∃ x, pv = .pointer (some ⟨x, 0, none⟩) ∧ Blk W x 103 #[.bool false, .slice none 0 0]
theorem NoL.below {pv : Value} {W W' : World} (h : NoL pv W) (hb : Below W.heap.size W W') : NoL pv W' := h.imp id (fun ⟨x, e, k⟩ => ⟨x, e, Blk.below k hb⟩)
set_option maxRecDepth 100000 in
set_option maxHeartbeats 1000000 in
/-- lamin.Leaves -/
theorem lLeaves_any (pv : Value) (h1 : pv.oneCell' = true) (hp : pv.cells = #[pv]) (w : World) :
    Calls Tryz.prog 41 #[pv] w fun e w' => e = .returned (.func (.func 93) #[] #[.pointer (some ⟨w.heap.size, 0, none⟩)]) ∧ w' = w.alloc (.cells #[pv] 63) := by
  go_enter Tryz.func41, Tryz.ntmps41
  go_wp2_with fail
  go_ret
  simp [hp]
set_option maxRecDepth 100000 in
set_option maxHeartbeats 1000000 in
/-- The leaves of no lamination: none. -/
theorem lLeaves_no (pv : Value) (gx : Nat) (w0 : World) (hx : Blk w0 gx 63 #[pv]) (hN : NoL pv w0) :
    IterB Tryz.prog 93 #[.pointer (some ⟨gx, 0, none⟩)] (fun (l : Lf) => #[leafV l]) [] (fun _ => False) w0 := by
  intro l J Jx W hW hJ hJx hY h0
  have hNN : Hid (∀ W', Below w0.heap.size w0 W' → Calls Tryz.prog 76 #[pv] W' (RetVal (.bool true) W')) := Lib.hid (fun W' hb => by
    rcases hN with rfl | ⟨x, rfl, k⟩
    · exact lnone_nil W'
    · exact lnone_any x false _ W' (Blk.below k hb))
  have x0 : W.cell? ⟨gx, 0, none⟩ = some pv := (hx.below hW).cell 0
  replace hW := Lib.hid hW
  replace hJ := Lib.hid hJ
  replace h0 := Lib.hid h0
  clear hx hN hJx hY
  refine callsIn_of_wp Tryz.func93 rfl trivial ?_ rfl
  simp only [Tryz.ntmps93, List.size_toArray, List.length_cons, List.length_nil, Nat.reduceAdd, Nat.reduceSub, Array.replicate_succ, Array.replicate_zero, List.push_toArray, List.append_toArray, List.nil_append, List.cons_append]
  refine wpIn_wide.2 ?_
  go_wp2_with fail
  refine (hNN.out _ hW.out).mono ?_
  rintro e v1 ⟨rfl, hb⟩
  clear x0
  go_wp2_with fail
  refine bodyPost_ret (results_none rfl _ _ _) rfl ?_
  exact ⟨⟨_, rfl⟩, 0, .inl (hJ.out _ _ _ _ (h0.out 0) (outB_of_below hb))⟩

set_option maxRecDepth 100000 in
set_option maxHeartbeats 4000000 in
/-- filigreelaw23.LaminNil: it is true. -/
theorem laminNil_any (n1 : Bool) (a1 d1 : ByteArray) (n2 : Bool) (a2 d2 : ByteArray) (d : Int) (w : World) : Calls Tryz.prog 8 #[.agg #[.bool n1, .string a1, .string d1, .bool n2, .string a2, .string d2], .int .i64 d] w (RetVal (.bool true) w) := by
  have hBW : Below w.heap.size w ((w.alloc (.cells #[.bool n1, .string a1, .string d1, .bool n2, .string a2, .string d2] 38)).alloc (.cells #[.bool false] 4)) := ((Below.refl _ w).alloc (Nat.le_refl _) _).alloc (by simp) _
  have hL := (Blk.new w 38 #[.bool n1, .string a1, .string d1, .bool n2, .string a2, .string d2]).alloc (.cells #[.bool false] 4)
  have hR := Blk.new (w.alloc (.cells #[.bool n1, .string a1, .string d1, .bool n2, .string a2, .string d2] 38)) 4 #[.bool false]
  rw [World.size_alloc] at hR
  obtain ⟨bl, hbl⟩ : ∃ g, g = w.heap.size := ⟨_, rfl⟩
  obtain ⟨br, hbr⟩ : ∃ g, g = w.heap.size + 1 := ⟨_, rfl⟩
  rw [← hbl] at hL
  rw [← hbr] at hR
  have hbrB : w.heap.size ≤ br := by omega
  have hblr : bl ≠ br := by omega
  replace hL := Lib.hid hL
  replace hR := Lib.hid hR
  have hB := Lib.hid hBW
  clear hBW
  have cAp : Hid (∀ pv W, NoL pv W → Calls Tryz.prog 37 #[pv, .agg #[.bool n1, .string a1, .string d1], .agg #[.bool n2, .string a2, .string d2]] W (RetVal (.tuple #[.bool false, .int .i64 1]) W)) := Lib.hid (fun pv W h => by
    rcases h with rfl | ⟨x, rfl, k⟩
    · exact lApart_nil n1 a1 d1 n2 a2 d2 W
    · exact lApart_not n1 a1 d1 n2 a2 d2 W x _ k)
  have cOp : Hid (∀ pv W, NoL pv W → Calls Tryz.prog 40 #[pv, .int .i64 d] W (RetVal (.tuple #[.agg #[.bool false, .string ⟨#[]⟩, .string ⟨#[]⟩, .bool false, .string ⟨#[]⟩, .string ⟨#[]⟩], .bool false, .int .i64 1]) W)) := Lib.hid (fun pv W h => by
    rcases h with rfl | ⟨x, rfl, k⟩
    · exact lOpen_nil d W
    · exact lOpen_not d W x _ k)
  have cAd : Hid (∀ pv W, NoL pv W → Calls Tryz.prog 45 #[pv, .agg #[.bool n1, .string a1, .string d1, .bool n2, .string a2, .string d2]] W (RetVal (.int .i64 1) W)) := Lib.hid (fun pv W h => by
    rcases h with rfl | ⟨x, rfl, k⟩
    · exact lAdd_nil n1 a1 d1 n2 a2 d2 W
    · exact lAdd_not n1 a1 d1 n2 a2 d2 W x _ k)
  have cHa : Hid (∀ pv W, NoL pv W → Calls Tryz.prog 42 #[pv, .agg #[.bool n1, .string a1, .string d1, .bool n2, .string a2, .string d2]] W (RetVal (.bool false) W)) := Lib.hid (fun pv W h => by
    rcases h with rfl | ⟨x, rfl, k⟩
    · exact lHas_nil n1 a1 d1 n2 a2 d2 W
    · exact lHas_not n1 a1 d1 n2 a2 d2 W x _ k)
  have cLe : Hid (∀ pv W, NoL pv W → Calls Tryz.prog 29 #[pv] W (RetVal (.int .i64 0) W)) := Lib.hid (fun pv W h => by
    rcases h with rfl | ⟨x, rfl, k⟩
    · exact lLen_nil W
    · exact lLen_any x false none 0 0 W k)
  have cGa : Hid (∀ pv W, NoL pv W → Calls Tryz.prog 28 #[pv] W (RetVal (.slice none 0 0) W)) := Lib.hid (fun pv W h => by
    rcases h with rfl | ⟨x, rfl, k⟩
    · exact lGaps_nil W
    · exact lGaps_not W x _ k)
  have cCl : Hid (∀ pv W, NoL pv W → Calls Tryz.prog 39 #[pv, .int .i64 d] W (RetVal (.int .i64 1) W)) := Lib.hid (fun pv W h => by
    rcases h with rfl | ⟨x, rfl, k⟩
    · exact lClose_nil d W
    · exact lClose_not d W x _ k)
  have cCo : Hid (∀ pv W, NoL pv W → Calls Tryz.prog 38 #[pv] W (RetVal (.pointer none) W)) := Lib.hid (fun pv W h => by
    rcases h with rfl | ⟨x, rfl, k⟩
    · exact lCopy_nil W
    · exact lCopy_not W x _ k)
  have cOf : Hid (∀ W, Calls Tryz.prog 53 #[.int .i64 1, .int .i64 3] W (RetVal (.agg #[.bool false, .string (natS 1), .string (natS 3)]) W)) := Lib.hid (fun W => lof_any 1 3 W ⟨by decide, by decide, by decide⟩)
  obtain ⟨s1, hs1⟩ : ∃ s, s = natS 1 := ⟨_, rfl⟩
  obtain ⟨s3, hs3⟩ : ∃ s, s = natS 3 := ⟨_, rfl⟩
  rw [← hs1, ← hs3] at cOf
  have cCh : Hid (∀ W, Calls Tryz.prog 35 #[.agg #[.bool false, .string s1, .string s3]] W (RetVal (.int .i64 0) W)) := Lib.hid (fun W => by
    rw [hs1, hs3]
    have h := check_any false (natS 1) (natS 3) W (by decide) (by decide)
    have e : okA false (natS 1) (natS 3) = true := Ang.ok (p := (1, 3)) ⟨by decide, by decide, by decide⟩
    rwa [e] at h)
  have cAw := Lib.hid (fun W => lawake_any W)
  clear hs1 hs3
  replace hbl := Lib.hid hbl
  replace hbr := Lib.hid hbr
  refine callsIn_wide.1 (callsIn_of_wp_marks (n := 0) Tryz.func8 rfl trivial ?_ rfl)
  simp only [Tryz.ntmps8, List.size_toArray, List.length_cons, List.length_nil, Nat.reduceAdd, Nat.reduceSub, Array.replicate_succ, Array.replicate_zero, List.push_toArray, List.append_toArray, List.nil_append, List.cons_append]
  refine wpIn_wide.2 ?_
  go_upto_region 1 with fail
  generalize hW : (w.alloc (.cells #[.bool n1, .string a1, .string d1, .bool n2, .string a2, .string d2] 38)).alloc (.cells #[.bool false] 4) = w1 at hL hR hB ⊢
  rw [← hbr.out, ← hbl.out]
  clear hW
  go_wp2_with fail
  refine (cAw.out _).mono ?_
  rintro en w2 ⟨rfl, hb⟩
  replace hB := Lib.hid (hB.out.trans (hb.mono hB.out.size))
  replace hL := Lib.hid (Blk.below hL.out hb)
  replace hR := Lib.hid (Blk.below hR.out hb)
  clear hb
  go_upto_region 5 with fail
  have hX := (Blk.new w2 103 #[.bool false, .slice none 0 0]).alloc (.cells #[.pointer none, .pointer (some ⟨w2.heap.size, 0, none⟩)] 63)
  have hS := Blk.new (w2.alloc (.cells #[.bool false, .slice none 0 0] 103)) 63 #[.pointer none, .pointer (some ⟨w2.heap.size, 0, none⟩)]
  rw [World.size_alloc] at hS
  replace hL := Lib.hid ((Blk.alloc hL.out (.cells #[.bool false, .slice none 0 0] 103)).alloc (.cells #[.pointer none, .pointer (some ⟨w2.heap.size, 0, none⟩)] 63))
  replace hR := Lib.hid ((Blk.alloc hR.out (.cells #[.bool false, .slice none 0 0] 103)).alloc (.cells #[.pointer none, .pointer (some ⟨w2.heap.size, 0, none⟩)] 63))
  replace hB := Lib.hid ((hB.out.alloc hB.out.size (.cells #[.bool false, .slice none 0 0] 103)).alloc (hB.out.alloc hB.out.size (.cells #[.bool false, .slice none 0 0] 103)).size (.cells #[.pointer none, .pointer (some ⟨w2.heap.size, 0, none⟩)] 63))
  generalize hW : (w2.alloc (.cells #[.bool false, .slice none 0 0] 103)).alloc (.cells #[.pointer none, .pointer (some ⟨w2.heap.size, 0, none⟩)] 63) = w3 at hL hR hX hS hB ⊢
  generalize hgs : w2.heap.size + 1 = gs at hS ⊢
  generalize hgx : w2.heap.size = gx at hS hX ⊢
  clear hW hgs hgx w2
  replace hX := Lib.hid hX
  replace hS := Lib.hid hS
  refine wp_loop_rounds 3 ?_
  rw [rounds_succ]
  have s0 : w3.cell? ⟨gs, 0, none⟩ = some (.pointer none) := hS.out.cell 0
  have s1 : w3.cell? ⟨gs, 1, none⟩ = some (.pointer (some ⟨gx, 0, none⟩)) := hS.out.cell 1
  have l0 : w3.cell? ⟨bl, 0, none⟩ = some (.bool n1) := hL.out.cell 0
  have l1 : w3.cell? ⟨bl, 1, none⟩ = some (.string a1) := hL.out.cell 1
  have l2 : w3.cell? ⟨bl, 2, none⟩ = some (.string d1) := hL.out.cell 2
  have l3 : w3.cell? ⟨bl, 3, none⟩ = some (.bool n2) := hL.out.cell 3
  have l4 : w3.cell? ⟨bl, 4, none⟩ = some (.string a2) := hL.out.cell 4
  have l5 : w3.cell? ⟨bl, 5, none⟩ = some (.string d2) := hL.out.cell 5
  go_wp2_with fail
  refine (cAp.out _ _ (.inl rfl)).mono ?_
  rintro en w4 ⟨rfl, hb⟩
  replace hB := Lib.hid (hB.out.trans (hb.mono hB.out.size))
  replace hL := Lib.hid (Blk.below hL.out hb)
  replace hR := Lib.hid (Blk.below hR.out hb)
  replace hX := Lib.hid (Blk.below hX.out hb)
  replace hS := Lib.hid (Blk.below hS.out hb)
  clear hb
  clear s0 s1
  clear l0 l1 l2 l3 l4 l5
  go_wp2_with fail
  refine (cOp.out _ _ (.inl rfl)).mono ?_
  rintro en w5 ⟨rfl, hb⟩
  replace hB := Lib.hid (hB.out.trans (hb.mono hB.out.size))
  replace hL := Lib.hid (Blk.below hL.out hb)
  replace hR := Lib.hid (Blk.below hR.out hb)
  replace hX := Lib.hid (Blk.below hX.out hb)
  replace hS := Lib.hid (Blk.below hS.out hb)
  clear hb
  go_upto_region 9 with fail
  have hZ0 := Lib.hid (Blk.new w5 38 #[.bool false, .string ⟨#[]⟩, .string ⟨#[]⟩, .bool false, .string ⟨#[]⟩, .string ⟨#[]⟩])
  have hb : Below w5.heap.size w5 (w5.alloc (.cells #[.bool false, .string ⟨#[]⟩, .string ⟨#[]⟩, .bool false, .string ⟨#[]⟩, .string ⟨#[]⟩] 38)) := (Below.refl _ _).alloc (Nat.le_refl _) _
  replace hB := Lib.hid (hB.out.trans (hb.mono hB.out.size))
  replace hL := Lib.hid (Blk.below hL.out hb)
  replace hR := Lib.hid (Blk.below hR.out hb)
  replace hX := Lib.hid (Blk.below hX.out hb)
  replace hS := Lib.hid (Blk.below hS.out hb)
  clear hb
  generalize hW : w5.alloc (.cells #[.bool false, .string ⟨#[]⟩, .string ⟨#[]⟩, .bool false, .string ⟨#[]⟩, .string ⟨#[]⟩] 38) = w6 at hL hR hX hS hB hZ0  ⊢
  generalize hgz : w5.heap.size = gz0 at hZ0 ⊢
  clear hW hgz
  go_wp2_with fail
  refine (lLeaves_any (.pointer none) rfl rfl _).mono ?_
  rintro en v ⟨rfl, rfl⟩
  have hI := Blk.new w6 63 #[.pointer none]
  have hb : Below w6.heap.size w6 (w6.alloc (.cells #[.pointer none] 63)) := (Below.refl _ _).alloc (Nat.le_refl _) _
  replace hB := Lib.hid (hB.out.trans (hb.mono hB.out.size))
  replace hL := Lib.hid (Blk.below hL.out hb)
  replace hR := Lib.hid (Blk.below hR.out hb)
  replace hX := Lib.hid (Blk.below hX.out hb)
  replace hS := Lib.hid (Blk.below hS.out hb)
  replace hZ0 := Lib.hid (Blk.below hZ0.out hb)
  clear hb
  generalize hW : w6.alloc (.cells #[.pointer none] 63) = w7 at hL hR hX hS hB hZ0 hI  ⊢
  generalize hgi : w6.heap.size = gi0 at hI ⊢
  clear hW hgi
  replace hI := Lib.hid hI
  go_wp2_with fail
  refine (wpIn_wide (n := 0)).1 ?_
  refine wpIn_iterB (gf := 93) (lb := #[.pointer (some ⟨gi0, 0, none⟩)]) rfl (enters_of Tryz.func93 (by kernel_rfl) rfl) (lLeaves_no (.pointer none) gi0 w7 hI.out (.inl rfl)) (Below.refl _ _) (fun k hk => hk.elim) (fun _ => rfl)
    (fun _ _ W' => w7.grownBy W' none) (fun _ _ _ _ => False) (fun m s A B h ho => gb_out h ho) (fun _ _ _ _ _ h _ => h) (fun _ => gb_refl _ _) ?rd ?dn ?st
  case rd => intro m l pre x W' _ _ hp; exact (no_prefix hp).elim
  case st => intro m c pre W' _ h; exact h.elim
  case dn =>
  rintro m w8 hg hK0
  obtain ⟨D0, hD0⟩ : ∃ g, g = w7.heap.size := ⟨_, rfl⟩
  rw [← hD0] at hK0
  have hDr0 : br ≠ D0 := by have := hR.out.lt; omega
  have hDB0 : w.heap.size ≤ D0 := by have := hB.out.size; omega
  have hb := below_of_gb hg
  replace hB := Lib.hid (hB.out.trans (hb.mono hB.out.size))
  replace hL := Lib.hid (Blk.below hL.out hb)
  replace hR := Lib.hid (Blk.below hR.out hb)
  replace hX := Lib.hid (Blk.below hX.out hb)
  replace hS := Lib.hid (Blk.below hS.out hb)
  replace hZ0 := Lib.hid (Blk.below hZ0.out hb)
  dsimp only
  rw [← hD0]
  clear hb hg hD0 hI
  have l0 : w8.cell? ⟨bl, 0, none⟩ = some (.bool n1) := hL.out.cell 0
  have l1 : w8.cell? ⟨bl, 1, none⟩ = some (.string a1) := hL.out.cell 1
  have l2 : w8.cell? ⟨bl, 2, none⟩ = some (.string d1) := hL.out.cell 2
  have l3 : w8.cell? ⟨bl, 3, none⟩ = some (.bool n2) := hL.out.cell 3
  have l4 : w8.cell? ⟨bl, 4, none⟩ = some (.string a2) := hL.out.cell 4
  have l5 : w8.cell? ⟨bl, 5, none⟩ = some (.string d2) := hL.out.cell 5
  go_wp2_with fail
  refine (cAd.out _ _ (.inl rfl)).mono ?_
  rintro en w9 ⟨rfl, hb⟩
  replace hB := Lib.hid (hB.out.trans (hb.mono hB.out.size))
  replace hL := Lib.hid (Blk.below hL.out hb)
  replace hR := Lib.hid (Blk.below hR.out hb)
  replace hX := Lib.hid (Blk.below hX.out hb)
  replace hS := Lib.hid (Blk.below hS.out hb)
  replace hZ0 := Lib.hid (Blk.below hZ0.out hb)
  replace hK0 := (hb.block D0 (Array.getElem?_eq_some_iff.1 hK0).1).trans hK0
  clear hb
  clear l0 l1 l2 l3 l4 l5
  have l0 : w9.cell? ⟨bl, 0, none⟩ = some (.bool n1) := hL.out.cell 0
  have l1 : w9.cell? ⟨bl, 1, none⟩ = some (.string a1) := hL.out.cell 1
  have l2 : w9.cell? ⟨bl, 2, none⟩ = some (.string d1) := hL.out.cell 2
  have l3 : w9.cell? ⟨bl, 3, none⟩ = some (.bool n2) := hL.out.cell 3
  have l4 : w9.cell? ⟨bl, 4, none⟩ = some (.string a2) := hL.out.cell 4
  have l5 : w9.cell? ⟨bl, 5, none⟩ = some (.string d2) := hL.out.cell 5
  go_wp2_with fail
  refine (cHa.out _ _ (.inl rfl)).mono ?_
  rintro en w10 ⟨rfl, hb⟩
  replace hB := Lib.hid (hB.out.trans (hb.mono hB.out.size))
  replace hL := Lib.hid (Blk.below hL.out hb)
  replace hR := Lib.hid (Blk.below hR.out hb)
  replace hX := Lib.hid (Blk.below hX.out hb)
  replace hS := Lib.hid (Blk.below hS.out hb)
  replace hZ0 := Lib.hid (Blk.below hZ0.out hb)
  replace hK0 := (hb.block D0 (Array.getElem?_eq_some_iff.1 hK0).1).trans hK0
  clear hb
  clear l0 l1 l2 l3 l4 l5
  go_wp2_with fail
  refine (cLe.out _ _ (.inl rfl)).mono ?_
  rintro en w11 ⟨rfl, hb⟩
  replace hB := Lib.hid (hB.out.trans (hb.mono hB.out.size))
  replace hL := Lib.hid (Blk.below hL.out hb)
  replace hR := Lib.hid (Blk.below hR.out hb)
  replace hX := Lib.hid (Blk.below hX.out hb)
  replace hS := Lib.hid (Blk.below hS.out hb)
  replace hZ0 := Lib.hid (Blk.below hZ0.out hb)
  replace hK0 := (hb.block D0 (Array.getElem?_eq_some_iff.1 hK0).1).trans hK0
  clear hb
  go_wp2_with fail
  refine (cGa.out _ _ (.inl rfl)).mono ?_
  rintro en w12 ⟨rfl, hb⟩
  replace hB := Lib.hid (hB.out.trans (hb.mono hB.out.size))
  replace hL := Lib.hid (Blk.below hL.out hb)
  replace hR := Lib.hid (Blk.below hR.out hb)
  replace hX := Lib.hid (Blk.below hX.out hb)
  replace hS := Lib.hid (Blk.below hS.out hb)
  replace hZ0 := Lib.hid (Blk.below hZ0.out hb)
  replace hK0 := (hb.block D0 (Array.getElem?_eq_some_iff.1 hK0).1).trans hK0
  clear hb
  have z0 : w12.cell? ⟨gz0, 0, none⟩ = some (.bool false) := hZ0.out.cell 0
  have z1 : w12.cell? ⟨gz0, 1, none⟩ = some (.string ⟨#[]⟩) := hZ0.out.cell 1
  have z2 : w12.cell? ⟨gz0, 2, none⟩ = some (.string ⟨#[]⟩) := hZ0.out.cell 2
  have z3 : w12.cell? ⟨gz0, 3, none⟩ = some (.bool false) := hZ0.out.cell 3
  have z4 : w12.cell? ⟨gz0, 4, none⟩ = some (.string ⟨#[]⟩) := hZ0.out.cell 4
  have z5 : w12.cell? ⟨gz0, 5, none⟩ = some (.string ⟨#[]⟩) := hZ0.out.cell 5
  go_wp2_with fail
  refine (cCl.out _ _ (.inl rfl)).mono ?_
  rintro en w13 ⟨rfl, hb⟩
  replace hB := Lib.hid (hB.out.trans (hb.mono hB.out.size))
  replace hL := Lib.hid (Blk.below hL.out hb)
  replace hR := Lib.hid (Blk.below hR.out hb)
  replace hX := Lib.hid (Blk.below hX.out hb)
  replace hS := Lib.hid (Blk.below hS.out hb)
  replace hZ0 := Lib.hid (Blk.below hZ0.out hb)
  replace hK0 := (hb.block D0 (Array.getElem?_eq_some_iff.1 hK0).1).trans hK0
  clear hb
  clear z0 z1 z2 z3 z4 z5
  go_wp2_with fail
  refine (cCo.out _ _ (.inl rfl)).mono ?_
  rintro en w14 ⟨rfl, hb⟩
  replace hB := Lib.hid (hB.out.trans (hb.mono hB.out.size))
  replace hL := Lib.hid (Blk.below hL.out hb)
  replace hR := Lib.hid (Blk.below hR.out hb)
  replace hX := Lib.hid (Blk.below hX.out hb)
  replace hS := Lib.hid (Blk.below hS.out hb)
  replace hZ0 := Lib.hid (Blk.below hZ0.out hb)
  replace hK0 := (hb.block D0 (Array.getElem?_eq_some_iff.1 hK0).1).trans hK0
  clear hb
  go_wp2_with fail
  clear hZ0
  rw [rounds_succ]
  have s0 : w14.cell? ⟨gs, 0, none⟩ = some (.pointer none) := hS.out.cell 0
  have s1 : w14.cell? ⟨gs, 1, none⟩ = some (.pointer (some ⟨gx, 0, none⟩)) := hS.out.cell 1
  have l0 : w14.cell? ⟨bl, 0, none⟩ = some (.bool n1) := hL.out.cell 0
  have l1 : w14.cell? ⟨bl, 1, none⟩ = some (.string a1) := hL.out.cell 1
  have l2 : w14.cell? ⟨bl, 2, none⟩ = some (.string d1) := hL.out.cell 2
  have l3 : w14.cell? ⟨bl, 3, none⟩ = some (.bool n2) := hL.out.cell 3
  have l4 : w14.cell? ⟨bl, 4, none⟩ = some (.string a2) := hL.out.cell 4
  have l5 : w14.cell? ⟨bl, 5, none⟩ = some (.string d2) := hL.out.cell 5
  go_wp2_with fail
  refine (cAp.out _ _ (.inr ⟨gx, rfl, hX.out⟩)).mono ?_
  rintro en w15 ⟨rfl, hb⟩
  replace hB := Lib.hid (hB.out.trans (hb.mono hB.out.size))
  replace hL := Lib.hid (Blk.below hL.out hb)
  replace hR := Lib.hid (Blk.below hR.out hb)
  replace hX := Lib.hid (Blk.below hX.out hb)
  replace hS := Lib.hid (Blk.below hS.out hb)
  replace hK0 := (hb.block D0 (Array.getElem?_eq_some_iff.1 hK0).1).trans hK0
  clear hb
  clear s0 s1
  clear l0 l1 l2 l3 l4 l5
  go_wp2_with fail
  refine (cOp.out _ _ (.inr ⟨gx, rfl, hX.out⟩)).mono ?_
  rintro en w16 ⟨rfl, hb⟩
  replace hB := Lib.hid (hB.out.trans (hb.mono hB.out.size))
  replace hL := Lib.hid (Blk.below hL.out hb)
  replace hR := Lib.hid (Blk.below hR.out hb)
  replace hX := Lib.hid (Blk.below hX.out hb)
  replace hS := Lib.hid (Blk.below hS.out hb)
  replace hK0 := (hb.block D0 (Array.getElem?_eq_some_iff.1 hK0).1).trans hK0
  clear hb
  go_upto_region 9 with fail
  have hZ1 := Lib.hid (Blk.new w16 38 #[.bool false, .string ⟨#[]⟩, .string ⟨#[]⟩, .bool false, .string ⟨#[]⟩, .string ⟨#[]⟩])
  have hb : Below w16.heap.size w16 (w16.alloc (.cells #[.bool false, .string ⟨#[]⟩, .string ⟨#[]⟩, .bool false, .string ⟨#[]⟩, .string ⟨#[]⟩] 38)) := (Below.refl _ _).alloc (Nat.le_refl _) _
  replace hB := Lib.hid (hB.out.trans (hb.mono hB.out.size))
  replace hL := Lib.hid (Blk.below hL.out hb)
  replace hR := Lib.hid (Blk.below hR.out hb)
  replace hX := Lib.hid (Blk.below hX.out hb)
  replace hS := Lib.hid (Blk.below hS.out hb)
  replace hK0 := (hb.block D0 (Array.getElem?_eq_some_iff.1 hK0).1).trans hK0
  clear hb
  generalize hW : w16.alloc (.cells #[.bool false, .string ⟨#[]⟩, .string ⟨#[]⟩, .bool false, .string ⟨#[]⟩, .string ⟨#[]⟩] 38) = w17 at hL hR hX hS hB hZ1 hK0 ⊢
  generalize hgz : w16.heap.size = gz1 at hZ1 ⊢
  clear hW hgz
  go_wp2_with fail
  refine (lLeaves_any (.pointer (some ⟨gx, 0, none⟩)) rfl rfl _).mono ?_
  rintro en v ⟨rfl, rfl⟩
  have hI := Blk.new w17 63 #[.pointer (some ⟨gx, 0, none⟩)]
  have hb : Below w17.heap.size w17 (w17.alloc (.cells #[.pointer (some ⟨gx, 0, none⟩)] 63)) := (Below.refl _ _).alloc (Nat.le_refl _) _
  replace hB := Lib.hid (hB.out.trans (hb.mono hB.out.size))
  replace hL := Lib.hid (Blk.below hL.out hb)
  replace hR := Lib.hid (Blk.below hR.out hb)
  replace hX := Lib.hid (Blk.below hX.out hb)
  replace hS := Lib.hid (Blk.below hS.out hb)
  replace hZ1 := Lib.hid (Blk.below hZ1.out hb)
  replace hK0 := (hb.block D0 (Array.getElem?_eq_some_iff.1 hK0).1).trans hK0
  clear hb
  generalize hW : w17.alloc (.cells #[.pointer (some ⟨gx, 0, none⟩)] 63) = w18 at hL hR hX hS hB hZ1 hI hK0 ⊢
  generalize hgi : w17.heap.size = gi1 at hI ⊢
  clear hW hgi
  replace hI := Lib.hid hI
  go_wp2_with fail
  refine (wpIn_wide (n := 0)).1 ?_
  refine wpIn_iterB (gf := 93) (lb := #[.pointer (some ⟨gi1, 0, none⟩)]) rfl (enters_of Tryz.func93 (by kernel_rfl) rfl) (lLeaves_no (.pointer (some ⟨gx, 0, none⟩)) gi1 w18 hI.out (.inr ⟨gx, rfl, hX.out⟩)) (Below.refl _ _) (fun k hk => hk.elim) (fun _ => rfl)
    (fun _ _ W' => w18.grownBy W' none) (fun _ _ _ _ => False) (fun m s A B h ho => gb_out h ho) (fun _ _ _ _ _ h _ => h) (fun _ => gb_refl _ _) ?rd ?dn ?st
  case rd => intro m l pre x W' _ _ hp; exact (no_prefix hp).elim
  case st => intro m c pre W' _ h; exact h.elim
  case dn =>
  rintro m w19 hg hK1
  obtain ⟨D1, hD1⟩ : ∃ g, g = w18.heap.size := ⟨_, rfl⟩
  rw [← hD1] at hK1
  have hDr1 : br ≠ D1 := by have := hR.out.lt; omega
  have hDB1 : w.heap.size ≤ D1 := by have := hB.out.size; omega
  have hDD : D0 ≠ D1 := by have := (Array.getElem?_eq_some_iff.1 hK0).1; omega
  have hb := below_of_gb hg
  replace hB := Lib.hid (hB.out.trans (hb.mono hB.out.size))
  replace hL := Lib.hid (Blk.below hL.out hb)
  replace hR := Lib.hid (Blk.below hR.out hb)
  replace hX := Lib.hid (Blk.below hX.out hb)
  replace hS := Lib.hid (Blk.below hS.out hb)
  replace hZ1 := Lib.hid (Blk.below hZ1.out hb)
  replace hK0 := (hb.block D0 (Array.getElem?_eq_some_iff.1 hK0).1).trans hK0
  dsimp only
  rw [← hD1]
  clear hb hg hD1 hI
  have l0 : w19.cell? ⟨bl, 0, none⟩ = some (.bool n1) := hL.out.cell 0
  have l1 : w19.cell? ⟨bl, 1, none⟩ = some (.string a1) := hL.out.cell 1
  have l2 : w19.cell? ⟨bl, 2, none⟩ = some (.string d1) := hL.out.cell 2
  have l3 : w19.cell? ⟨bl, 3, none⟩ = some (.bool n2) := hL.out.cell 3
  have l4 : w19.cell? ⟨bl, 4, none⟩ = some (.string a2) := hL.out.cell 4
  have l5 : w19.cell? ⟨bl, 5, none⟩ = some (.string d2) := hL.out.cell 5
  go_wp2_with fail
  refine (cAd.out _ _ (.inr ⟨gx, rfl, hX.out⟩)).mono ?_
  rintro en w20 ⟨rfl, hb⟩
  replace hB := Lib.hid (hB.out.trans (hb.mono hB.out.size))
  replace hL := Lib.hid (Blk.below hL.out hb)
  replace hR := Lib.hid (Blk.below hR.out hb)
  replace hX := Lib.hid (Blk.below hX.out hb)
  replace hS := Lib.hid (Blk.below hS.out hb)
  replace hZ1 := Lib.hid (Blk.below hZ1.out hb)
  replace hK0 := (hb.block D0 (Array.getElem?_eq_some_iff.1 hK0).1).trans hK0
  replace hK1 := (hb.block D1 (Array.getElem?_eq_some_iff.1 hK1).1).trans hK1
  clear hb
  clear l0 l1 l2 l3 l4 l5
  have l0 : w20.cell? ⟨bl, 0, none⟩ = some (.bool n1) := hL.out.cell 0
  have l1 : w20.cell? ⟨bl, 1, none⟩ = some (.string a1) := hL.out.cell 1
  have l2 : w20.cell? ⟨bl, 2, none⟩ = some (.string d1) := hL.out.cell 2
  have l3 : w20.cell? ⟨bl, 3, none⟩ = some (.bool n2) := hL.out.cell 3
  have l4 : w20.cell? ⟨bl, 4, none⟩ = some (.string a2) := hL.out.cell 4
  have l5 : w20.cell? ⟨bl, 5, none⟩ = some (.string d2) := hL.out.cell 5
  go_wp2_with fail
  refine (cHa.out _ _ (.inr ⟨gx, rfl, hX.out⟩)).mono ?_
  rintro en w21 ⟨rfl, hb⟩
  replace hB := Lib.hid (hB.out.trans (hb.mono hB.out.size))
  replace hL := Lib.hid (Blk.below hL.out hb)
  replace hR := Lib.hid (Blk.below hR.out hb)
  replace hX := Lib.hid (Blk.below hX.out hb)
  replace hS := Lib.hid (Blk.below hS.out hb)
  replace hZ1 := Lib.hid (Blk.below hZ1.out hb)
  replace hK0 := (hb.block D0 (Array.getElem?_eq_some_iff.1 hK0).1).trans hK0
  replace hK1 := (hb.block D1 (Array.getElem?_eq_some_iff.1 hK1).1).trans hK1
  clear hb
  clear l0 l1 l2 l3 l4 l5
  go_wp2_with fail
  refine (cLe.out _ _ (.inr ⟨gx, rfl, hX.out⟩)).mono ?_
  rintro en w22 ⟨rfl, hb⟩
  replace hB := Lib.hid (hB.out.trans (hb.mono hB.out.size))
  replace hL := Lib.hid (Blk.below hL.out hb)
  replace hR := Lib.hid (Blk.below hR.out hb)
  replace hX := Lib.hid (Blk.below hX.out hb)
  replace hS := Lib.hid (Blk.below hS.out hb)
  replace hZ1 := Lib.hid (Blk.below hZ1.out hb)
  replace hK0 := (hb.block D0 (Array.getElem?_eq_some_iff.1 hK0).1).trans hK0
  replace hK1 := (hb.block D1 (Array.getElem?_eq_some_iff.1 hK1).1).trans hK1
  clear hb
  go_wp2_with fail
  refine (cGa.out _ _ (.inr ⟨gx, rfl, hX.out⟩)).mono ?_
  rintro en w23 ⟨rfl, hb⟩
  replace hB := Lib.hid (hB.out.trans (hb.mono hB.out.size))
  replace hL := Lib.hid (Blk.below hL.out hb)
  replace hR := Lib.hid (Blk.below hR.out hb)
  replace hX := Lib.hid (Blk.below hX.out hb)
  replace hS := Lib.hid (Blk.below hS.out hb)
  replace hZ1 := Lib.hid (Blk.below hZ1.out hb)
  replace hK0 := (hb.block D0 (Array.getElem?_eq_some_iff.1 hK0).1).trans hK0
  replace hK1 := (hb.block D1 (Array.getElem?_eq_some_iff.1 hK1).1).trans hK1
  clear hb
  have z0 : w23.cell? ⟨gz1, 0, none⟩ = some (.bool false) := hZ1.out.cell 0
  have z1 : w23.cell? ⟨gz1, 1, none⟩ = some (.string ⟨#[]⟩) := hZ1.out.cell 1
  have z2 : w23.cell? ⟨gz1, 2, none⟩ = some (.string ⟨#[]⟩) := hZ1.out.cell 2
  have z3 : w23.cell? ⟨gz1, 3, none⟩ = some (.bool false) := hZ1.out.cell 3
  have z4 : w23.cell? ⟨gz1, 4, none⟩ = some (.string ⟨#[]⟩) := hZ1.out.cell 4
  have z5 : w23.cell? ⟨gz1, 5, none⟩ = some (.string ⟨#[]⟩) := hZ1.out.cell 5
  go_wp2_with fail
  refine (cCl.out _ _ (.inr ⟨gx, rfl, hX.out⟩)).mono ?_
  rintro en w24 ⟨rfl, hb⟩
  replace hB := Lib.hid (hB.out.trans (hb.mono hB.out.size))
  replace hL := Lib.hid (Blk.below hL.out hb)
  replace hR := Lib.hid (Blk.below hR.out hb)
  replace hX := Lib.hid (Blk.below hX.out hb)
  replace hS := Lib.hid (Blk.below hS.out hb)
  replace hZ1 := Lib.hid (Blk.below hZ1.out hb)
  replace hK0 := (hb.block D0 (Array.getElem?_eq_some_iff.1 hK0).1).trans hK0
  replace hK1 := (hb.block D1 (Array.getElem?_eq_some_iff.1 hK1).1).trans hK1
  clear hb
  clear z0 z1 z2 z3 z4 z5
  go_wp2_with fail
  refine (cCo.out _ _ (.inr ⟨gx, rfl, hX.out⟩)).mono ?_
  rintro en w25 ⟨rfl, hb⟩
  replace hB := Lib.hid (hB.out.trans (hb.mono hB.out.size))
  replace hL := Lib.hid (Blk.below hL.out hb)
  replace hR := Lib.hid (Blk.below hR.out hb)
  replace hX := Lib.hid (Blk.below hX.out hb)
  replace hS := Lib.hid (Blk.below hS.out hb)
  replace hZ1 := Lib.hid (Blk.below hZ1.out hb)
  replace hK0 := (hb.block D0 (Array.getElem?_eq_some_iff.1 hK0).1).trans hK0
  replace hK1 := (hb.block D1 (Array.getElem?_eq_some_iff.1 hK1).1).trans hK1
  clear hb
  go_wp2_with fail
  clear hZ1
  rw [rounds_succ]
  go_wp2_with fail
  clear hL hX hS
  refine (cOf.out _).mono ?_
  rintro en w26 ⟨rfl, hb⟩
  replace hB := Lib.hid (hB.out.trans (hb.mono hB.out.size))
  replace hR := Lib.hid (Blk.below hR.out hb)
  replace hK0 := (hb.block D0 (Array.getElem?_eq_some_iff.1 hK0).1).trans hK0
  replace hK1 := (hb.block D1 (Array.getElem?_eq_some_iff.1 hK1).1).trans hK1
  clear hb
  go_wp2_with fail
  refine (cCh.out _).mono ?_
  rintro en w27 ⟨rfl, hb⟩
  replace hB := Lib.hid (hB.out.trans (hb.mono hB.out.size))
  replace hR := Lib.hid (Blk.below hR.out hb)
  replace hK0 := (hb.block D0 (Array.getElem?_eq_some_iff.1 hK0).1).trans hK0
  replace hK1 := (hb.block D1 (Array.getElem?_eq_some_iff.1 hK1).1).trans hK1
  clear hb
  go_wp2_with fail
  refine (cAw.out _).mono ?_
  rintro en w28 ⟨rfl, hb⟩
  replace hB := Lib.hid (hB.out.trans (hb.mono hB.out.size))
  replace hR := Lib.hid (Blk.below hR.out hb)
  replace hK0 := (hb.block D0 (Array.getElem?_eq_some_iff.1 hK0).1).trans hK0
  replace hK1 := (hb.block D1 (Array.getElem?_eq_some_iff.1 hK1).1).trans hK1
  clear hb
  have r0 : w28.cell? ⟨br, 0, none⟩ = some (.bool false) := hR.out.cell 0
  have r1 := hR.out.frozen 0
  have kr2 := Lib.hid (blk_put (blk_put (hR.out.set_ 0 (.bool true)) hDr1 (.deferred none)) hDr0 (.deferred none))
  have hB2 := Lib.hid (below_put (below_put (hB.out.setCell (p := ⟨br, 0, none⟩) hbrB (.bool true)) hDB1 (.deferred none)) hDB0 (.deferred none))
  have hk0 := Lib.hid (put_set (p := ⟨br, 0, none⟩) hK0 hDr0.symm (.bool true))
  have hk1 := Lib.hid (put_set (p := ⟨br, 0, none⟩) hK1 hDr1.symm (.bool true))
  clear hR hB hK0 hK1
  go_wp2_with fail
  have q0 := kr2.out.cell 0
  refine leaves_two hk1.out hk0.out hDD (v := .bool true) (by simp [results, Tryz.results8, go_sem, q0]) ⟨rfl, hB2.out⟩
end Go.Proofs.YtoaggmegmgdgbaaGreat
