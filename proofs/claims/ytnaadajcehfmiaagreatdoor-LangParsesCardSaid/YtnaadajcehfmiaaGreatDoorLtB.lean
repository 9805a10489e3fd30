/- filigreelaw11.awake. -/
import Derived.Test.YtnaadajcehfmiaaGreatDoorLtA
namespace Go.Proofs.YtnaadajcehfmiaaGreatDoor
open Go.RowKit Go.Sort Go.Maps
attribute [local go_sem] Oper.semAt_some

theorem lv_one {P : Program} {fn : Func} {tmps : Array Value} {R : Ending → World → Prop} {W : World} {v : Value} {D : Nat} (hK : W.heap[D]? = some (.deferred (some []))) (hr : (results fn tmps).run P (W.putObj D (.deferred none)) = .ok v (W.putObj D (.deferred none)))
    (hR : R (.returned v) (W.putObj D (.deferred none))) : LeavesInM Fence.wide 0 P fn tmps R [{ target := .collected D, args := #[] }] .returning W :=
  ⟨by simp, .inl ⟨_, _, rfl, run_takeDeferred hK, ⟨_, hr, hR⟩⟩⟩
theorem bl_put {B r : Nat} {a W : World} (h : Below B a W) (hr : B ≤ r) (o : Obj) : Below B a (W.putObj r o) :=
  h.trans ⟨rfl, rfl, rfl, by simp, fun k hk => World.putObj_heap_other (by omega)⟩
theorem blk_oB {A B : World} {g lo hi : Nat} {T : TypeId} {cs : Array Value} (h : Blk A g T cs) (hg : g < lo) (ho : OutB lo hi A B) : Blk B g T cs := (ho.block g h.lt (by omega)).trans h
theorem but_oB {a A B : World} {g lo hi : Nat} (h : But (fun k => k = g) a A) (hlo : a.heap.size ≤ lo) (ho : OutB lo hi A B) : But (fun k => k = g) a B :=
  ⟨ho.os.trans h.os, ho.tape.trans h.tape, ho.output.trans h.output, Nat.le_trans h.size ho.size, fun k hk hn => (ho.block k (Nat.lt_of_lt_of_le hk h.size) (by omega)).trans (h.block k hk hn)⟩
def aw1 : PS := ⟨[], [⟨1, [48, 46, 53], 0, 0, 0⟩, ⟨5, [], 0, 0, 0⟩, ⟨2, [], 0, 0, 0⟩, ⟨6, [], 1, 2, 0⟩, ⟨3, [], 0, 0, 0⟩, ⟨10, [], 4, 0, 2⟩, ⟨4, [99], 0, 0, 0⟩, ⟨6, [], 5, 6, 0⟩], [1, 2, 1, 3, 1, 2, 1, 3], [([99], 3)]⟩
theorem aw_parse1 : parseF [108, 101, 116, 32, 99, 32, 61, 32, 45, 48, 46, 53, 32, 43, 32, 105, 59, 32, 122, 94, 50, 32, 43, 32, 99, 32, 35, 32, 97, 32, 110, 111, 116, 101] = .ok 7 aw1 := by kernel_rfl
theorem aw_parse2 : parseF [122, 94, 50, 32, 43, 32, 99] = .no 6 112 := by kernel_rfl
theorem aw_print : printV (aw1.N.map Nod.raw) (aw1.L.map rawL) 7 = ([108, 101, 116, 32, 99, 32, 61, 32, 45, 48, 46, 53, 32, 43, 32, 105, 59, 10, 122, 94, 50, 32, 43, 32, 99], 0) := by kernel_rfl
theorem aw_read : readV [] [] 0 = false := by kernel_rfl
theorem aw_lex : lexF 5 [50, 122, 94, 50] 0 = ([⟨0, [50]⟩, ⟨1, [122]⟩, ⟨2, [94]⟩, ⟨3, [50]⟩], 4, false) := by kernel_rfl
theorem aw_told : toldT [50, 122, 94, 50] (toldR [⟨0, [50]⟩, ⟨1, [122]⟩, ⟨2, [94]⟩, ⟨3, [50]⟩] 4 false) := by
  refine .inr ⟨by decide, _, _, _, ?_, rfl⟩
  have h := lexF_lx (s := [50, 122, 94, 50]) 5 0 (by decide) (by decide)
  rw [aw_lex] at h
  exact h
theorem prgM_nil (w : World) : PrgM w (.slice none 0 0) (.slice none 0 0) [] [] :=
  ⟨⟨none, 0, rfl, fun h => (by cases h)⟩, ⟨none, 0, rfl, fun h => (by cases h)⟩, fun r hr => (by cases hr), fun r hr => (by cases hr), by simp, by simp⟩
/-- Parts that were just read lie in memory. -/
theorem prgM_own {B m : Nat} {v : Value} {st : PS} {w : World} {D : List (List Nat × Ex)} {x : Ex} (h : PrgW B v m st w) (hG : Prg D x st.N st.L m) : ∃ AN cN AL cL, v = .agg #[.slice AN st.N.length cN, .slice AL st.L.length cL, .int .i64 (m : Int)] ∧ PrgM w (.slice AN st.N.length cN) (.slice AL st.L.length cL) (st.N.map Nod.raw) (st.L.map rawL) := by
  obtain ⟨vN2, vL2, rfl, hS, hm9, hN9, hL9⟩ := h
  have rN := hS.1 (itRow B 52 5 vN2 st.N.length (st.N.flatMap encN)) (by simp)
  have rL := hS.1 (itRow B 54 2 vL2 st.L.length (st.L.flatMap encL)) (by simp)
  obtain ⟨AN2, cN2, rfl, -, -⟩ := own_form rN
  obtain ⟨AL2, cL2, rfl, -, -⟩ := own_form rL
  exact ⟨_, _, _, _, rfl, nodesK_own rN, letsK_own rL, hG.byt.1, hG.byt.2, by rw [List.length_map]; omega, by rw [List.length_map]; omega⟩
set_option maxRecDepth 100000 in
set_option maxHeartbeats 8000000 in
/-- awake -/
theorem lgawake_any {w : World} (hE : EnvL w) : Calls Tryz.prog 7 #[] w (RetVal (.bool true) w) := by
  have cP1 := lParse_any ⟨#[108, 101, 116, 32, 99, 32, 61, 32, 45, 48, 46, 53, 32, 43, 32, 105, 59, 32, 122, 94, 50, 32, 43, 32, 99, 32, 35, 32, 97, 32, 110, 111, 116, 101]⟩ w (by decide) hE.e1 hE.e2 (.ok 7 aw1) (by rw [← aw_parse1]; exact parseF_ok _)
  have hG : ∃ D x, Prg D x aw1.N aw1.L 7 := parseF_prg (by unfold Byt; decide) aw_parse1
  have hE0 := Lib.hid hE
  replace hE := Lib.hid hE
  replace cP1 := Lib.hid cP1
  replace hG := Lib.hid hG
  have hB0 := Lib.hid (Below.refl w.heap.size w)
  refine callsIn_wide.1 (callsIn_of_wp_marks (n := 0) Tryz.func7 rfl trivial ?_ rfl)
  simp only [Tryz.ntmps7, List.size_toArray, List.length_nil, Nat.reduceSub, Array.replicate_succ, Array.replicate_zero, List.push_toArray, List.append_toArray, List.nil_append, List.cons_append]
  refine wpIn_wide.2 ?_
  go_wp2_with fail
  refine Calls.mono cP1.out ?_
  rintro en w1 ⟨⟨v, rfl, hW⟩, hb⟩
  clear cP1
  obtain ⟨D, x, hGG⟩ := hG.out
  obtain ⟨AN, cN, AL, cL, rfl, hPM⟩ := prgM_own hW hGG
  clear hW hG hGG D x
  have e8 : aw1.N.length = 8 := rfl
  have e9 : aw1.L.length = 1 := rfl
  rw [e8, e9] at hPM ⊢
  rw [show ((7 : Nat) : Int) = 7 from rfl]
  clear e8 e9
  have ba := (Below.refl w1.heap.size w1).alloc (Nat.le_refl _) (.cells #[.slice AN 8 cN, .slice AL 1 cL, .int .i64 7] 25)
  have hB1 := Lib.hid ((hB0.out.trans (hb.mono hB0.out.size)).trans (ba.mono hb.size))
  have hE1 := Lib.hid ((hE.out.below hb).below ba)
  have hP1 := Lib.hid (hPM.below ba)
  have kp := Lib.hid (Blk.new w1 25 #[.slice AN 8 cN, .slice AL 1 cL, .int .i64 7])
  have hbp := hb.size
  clear hb hE hPM ba hB0
  go_upto_region 2 with fail
  generalize hWa : w1.alloc (.cells #[.slice AN 8 cN, .slice AL 1 cL, .int .i64 7] 25) = w2 at hB1 hE1 hP1 kp ⊢
  generalize hqa : w1.heap.size = bp at kp hbp ⊢
  clear hWa hqa
  replace hbp := Lib.hid hbp
  have c0 : w2.cell? ⟨bp, 0, none⟩ = some (.slice AN 8 cN) := kp.out.cell 0
  have c1 : w2.cell? ⟨bp, 1, none⟩ = some (.slice AL 1 cL) := kp.out.cell 1
  have c2 : w2.cell? ⟨bp, 2, none⟩ = some (.int .i64 7) := kp.out.cell 2
  have cPr := Lib.hid (lPrint_any (m := 7) hP1.out hE1.out)
  rw [aw_print] at cPr
  go_wp2_with fail
  refine Calls.mono cPr.out ?_
  rintro en w3 ⟨rfl, hb⟩
  clear cPr c0 c1 c2 hP1
  have hB3 := Lib.hid (hB1.out.trans (hb.mono hB1.out.size))
  have hE3 := Lib.hid (hE1.out.below hb)
  replace kp := Lib.hid (kp.out.below hb)
  have cP2 := Lib.hid (lParse_any ⟨#[122, 94, 50, 32, 43, 32, 99]⟩ w3 (by decide) hE3.out.e1 hE3.out.e2 (.no 6 112) (by rw [← aw_parse2]; exact parseF_ok _))
  simp only [show ((0 : Nat) : Int) = 0 from rfl, show mkS [108, 101, 116, 32, 99, 32, 61, 32, 45, 48, 46, 53, 32, 43, 32, 105, 59, 10, 122, 94, 50, 32, 43, 32, 99] = ⟨#[108, 101, 116, 32, 99, 32, 61, 32, 45, 48, 46, 53, 32, 43, 32, 105, 59, 10, 122, 94, 50, 32, 43, 32, 99]⟩ from rfl]
  clear hb hB1 hE1
  go_wp2_with fail
  refine Calls.mono cP2.out ?_
  rintro en w4 ⟨⟨q, rfl, hq1, hq2⟩, hb⟩
  clear cP2
  have ba := ((Below.refl w4.heap.size w4).alloc (Nat.le_refl _) (.cells #[.slice none 0 0, .slice none 0 0, .int .i64 0] 25)).alloc (by simp) (.cells #[.int .i64 0] 3)
  have kn0 := Blk.new (w4.alloc (.cells #[.slice none 0 0, .slice none 0 0, .int .i64 0] 25)) 3 #[.int .i64 0]
  rw [World.size_alloc] at kn0
  have hB4 := Lib.hid ((hB3.out.trans (hb.mono hB3.out.size)).trans (ba.mono (Nat.le_trans hB3.out.size hb.size)))
  have hE4 := Lib.hid ((hE3.out.below hb).below ba)
  replace kp := Lib.hid (Blk.below (kp.out.below hb) ba)
  have kq := Lib.hid (Blk.below hq2 ba)
  have kn := Lib.hid kn0
  have hn0 : Hid (w.heap.size ≤ w4.heap.size + 1) := Lib.hid (by have := hB3.out.size; have := hb.size; omega)
  have hn1 : Hid (bp ≠ w4.heap.size + 1) := Lib.hid (by have := (Blk.below kp.out (Below.refl _ _)).lt; have h2 := hbp.out; have h3 := hb.size; intro e; have h4 := Blk.lt (show Blk w4 q _ _ from hq2); revert e; exact fun e => absurd (kp.out.symm.trans (e ▸ kn0)) (by intro h; injection h with h; injection h with _ h _; exact absurd h (by decide)))
  have hn2 : Hid (q ≠ w4.heap.size + 1) := Lib.hid (by have := Blk.lt hq2; omega)
  clear hb hB3 hE3 hq1 hq2 ba kn0
  go_upto_region 5 with fail
  generalize hWa : (w4.alloc (.cells #[.slice none 0 0, .slice none 0 0, .int .i64 0] 25)).alloc (.cells #[.int .i64 0] 3) = w5 at hB4 hE4 kp kq kn ⊢
  generalize hqa : w4.heap.size + 1 = bn at kn hn0 hn1 hn2 ⊢
  clear hWa hqa
  go_wp2_with fail
  refine (lTokens_any _ _).mono ?_
  rintro en w6 ⟨rfl, rfl⟩
  have ba := (Below.refl w5.heap.size w5).alloc (Nat.le_refl _) (.cells #[.string ⟨#[50, 122, 94, 50]⟩] 9)
  have hB6 := Lib.hid (hB4.out.trans (ba.mono hB4.out.size))
  have hE6 := Lib.hid (hE4.out.below ba)
  replace kp := Lib.hid (Blk.below kp.out ba)
  replace kq := Lib.hid (Blk.below kq.out ba)
  have hnl := Blk.lt kn.out
  replace kn := Lib.hid (Blk.below kn.out ba)
  have kg := Lib.hid (Blk.new w5 9 #[.string ⟨#[50, 122, 94, 50]⟩])
  have hng : Hid (bn < w5.heap.size) := Lib.hid hnl
  clear ba hB4 hE4 hnl
  generalize hWa : w5.alloc (.cells #[.string ⟨#[50, 122, 94, 50]⟩] 9) = w6 at hB6 hE6 kp kq kn kg ⊢
  generalize hqa : w5.heap.size = gi at kg hng ⊢
  clear hWa hqa
  have hnil := fun (W : World) (f : Fn) (ts lb : Array Value) => eql_fn_nil (P := Tryz.prog) W Tryz.underlying58 f ts lb
  go_wp2_with fail
  clear hnil
  have hgi := Blk.lt kg.out
  have hbn := Blk.lt kn.out
  refine (wpIn_wide (n := 0)).1 ?_
  refine wpIn_iterB (gf := 36) (lb := #[.pointer (some ⟨gi, 0, none⟩)]) rfl (enters_of Tryz.func36 (by kernel_rfl) rfl) (lTokens_iter gi ⟨#[50, 122, 94, 50]⟩ (by decide) w6 kg.out _ aw_told) (Below.refl _ _) (fun k hk => by rw [hk]; exact hgi) (fun _ => rfl)
    (fun _ pre W => But (fun k => k = bn) w6 W ∧ Blk W bn 3 #[.int .i64 (pre.length : Int)]) (fun _ _ _ _ => False)
    (fun m s A B h ho => ⟨but_oB h.1 (Nat.le_refl _) ho, blk_oB h.2 hbn ho⟩) (fun _ _ _ _ _ h _ => h) (fun _ => ⟨But.refl _ _, kn.out⟩) ?rd ?dn ?st
  case st => intro m c pre W' _ h; exact h.elim
  case rd =>
    intro m l pre x W ⟨hg, hk⟩ hsz hpre K hK
    simp only [encTk]
    try dsimp only
    have hpl : pre.length ≤ 4 := by have := hpre.length_le; rw [List.length_append] at this; have e : (toldR [⟨0, [50]⟩, ⟨1, [122]⟩, ⟨2, [94]⟩, ⟨3, [50]⟩] 4 false).length = 4 := rfl; omega
    replace hK := Lib.hid hK
    replace hg := Lib.hid hg
    replace hpre := Lib.hid hpre
    replace hk := Lib.hid hk
    gi_wp2_with fail
    refine hK.out _ _ (KeepB.refl _ _) ?_
    intro o
    have hk2 : Blk (W.putObj (w6.heap.size + 1) o) bn 3 #[.int .i64 (pre.length : Int)] := (World.putObj_heap_other (by omega)).trans hk.out
    have k0 : (W.putObj (w6.heap.size + 1) o).cell? ⟨bn, 0, none⟩ = some (.int .i64 (pre.length : Int)) := hk2.cell 0
    have f0 := hk2.frozen 0
    have hg2 : But (fun k => k = bn) w6 (W.putObj (w6.heap.size + 1) o) := but_oB hg.out (Nat.le_refl _) ((OutB.refl w6.heap.size (w6.heap.size + 2) W).put (by omega) (by omega) o)
    have hpI : wrap64 ((pre.length : Int) + 1) = (pre.length : Int) + 1 := wr64_in _ (by omega)
    replace hk2 := Lib.hid hk2
    replace hg2 := Lib.hid hg2
    generalize hWp : W.putObj (w6.heap.size + 1) o = X at hk2 hg2 k0 f0 ⊢
    clear hWp hK hg hk hpre
    obtain ⟨pl, hpl2⟩ : ∃ n, n = pre.length := ⟨_, rfl⟩
    gi_wp2_with fail
    exact ⟨⟨by simp [World.setCell], fun k hk => Below.heap_setCell X ⟨bn, 0, none⟩ _ k (by rcases hk with rfl | hk; (have := hng.out; show k ≠ bn; omega); (show k ≠ bn; omega))⟩, hg2.out.setCell (.inl rfl) _, by have h := hk2.out.set_ 0 (.int .i64 ((pre.length : Int) + 1)); simpa using h⟩
  case dn =>
    rintro m W ⟨hg, hk⟩ hMk
    dsimp only
    have e4 : (toldR [⟨0, [50]⟩, ⟨1, [122]⟩, ⟨2, [94]⟩, ⟨3, [50]⟩] 4 false).length = 4 := rfl
    rw [e4] at hk
    have hB7 := Lib.hid (hB6.out.trans (hg.toBelow hB6.out.size (fun k hk e => by have := hn0.out; omega)))
    have kp7 : Blk W bp 25 #[.slice AN 8 cN, .slice AL 1 cL, .int .i64 7] := (hg.block bp (Blk.lt kp.out) hn1.out).trans kp.out
    have kq7 : Blk W q 33 #[.int .i64 6, .int .i64 112] := (hg.block q (Blk.lt kq.out) hn2.out).trans kq.out
    have hE7 := Lib.hid (hE0.out.below hB7.out)
    have hMk2 := Lib.hid hMk
    have hw6 : w.heap.size ≤ w6.heap.size := hB6.out.size
    have hDlt := (Array.getElem?_eq_some_iff.1 hMk).1
    have cC := Lib.hid (lgCheck_any (m := 0) (prgM_nil W) hE7.out)
    rw [aw_read] at cC
    have c0 : W.cell? ⟨bp, 0, none⟩ = some (.slice AN 8 cN) := kp7.cell 0
    have c2 : W.cell? ⟨bp, 2, none⟩ = some (.int .i64 7) := kp7.cell 2
    have q0 : W.cell? ⟨q, 0, none⟩ = some (.int .i64 6) := kq7.cell 0
    have q1 : W.cell? ⟨q, 1, none⟩ = some (.int .i64 112) := kq7.cell 1
    have n0 : W.cell? ⟨bn, 0, none⟩ = some (.int .i64 4) := hk.cell 0
    clear e4 hg hk hMk kp7 kq7 kp kq kn kg hgi hbn hE6 hB6 hn0 hn1 hn2 hng
    replace hDlt := Lib.hid hDlt
    replace hw6 := Lib.hid hw6
    generalize hDg : w6.heap.size = D1 at hMk2 hw6 hDlt ⊢
    clear hDg
    go_wp2_with fail
    refine Calls.mono cC.out ?_
    rintro en w9 ⟨rfl, hb⟩
    simp only [Bool.false_eq_true, if_false]
    have hMk3 := Lib.hid ((hb.block D1 hDlt.out).trans hMk2.out)
    have hB9 := Lib.hid (hB7.out.trans (hb.mono hB7.out.size))
    clear hb cC c0 c2 q0 q1 n0
    go_wp2_with fail
    refine lv_one hMk3.out (P := Tryz.prog) (fn := Tryz.f7) (v := .bool true) (by simp [results, Tryz.results7, go_sem]) ⟨rfl, bl_put hB9.out hw6.out _⟩
end Go.Proofs.YtnaadajcehfmiaaGreatDoor
