/- filigreelaw11.LangParses. -/
import Derived.Test.YtnaadajcehfmiaaGreatDoorLtB
import Derived.Test.YtnaadajcehfmiaaGreatDoorLvO
import Derived.Test.YtnaadajcehfmiaaGreatDoorLvP
import Derived.LaidEqlPtr
namespace Go.Proofs.YtnaadajcehfmiaaGreatDoor
open Go.RowKit Go.Sort Go.Maps

theorem own_spo {B b : Nat} {vN vL : Value} {w w' : World} {T : TypeId} {size : Nat} {v : Value} {n : Nat} {xs : List Value} (h : w.ownsRow b T size v n xs) (hs : SpO B vN vL w w') (h1 : ∀ k, vN.ownBlock = some k → k < b) (h2 : ∀ k, vL.ownBlock = some k → k < b) : w'.ownsRow b T size v n xs := by
  obtain ⟨hl, hc⟩ := h
  refine ⟨hl, ?_⟩
  rcases hc with hc | ⟨g, cap, cur, hv, hbase, hg, rest⟩
  · exact .inl hc
  · have hlt : g < w.heap.size := by
      rcases Nat.lt_or_ge g w.heap.size with h | h
      · exact h
      · rw [Array.getElem?_eq_none h] at hg; cases hg
    exact .inr ⟨g, cap, cur, hv, hbase, (hs.block g hlt (fun e => by have := h1 g e.symm; omega) (fun e => by have := h2 g e.symm; omega)).trans hg, rest⟩
theorem PrgW.spo {B b m : Nat} {vN vL v : Value} {st : PS} {w w' : World} (h : PrgW b v m st w) (hs : SpO B vN vL w w') (h1 : ∀ k, vN.ownBlock = some k → k < b) (h2 : ∀ k, vL.ownBlock = some k → k < b) : PrgW b v m st w' := by
  obtain ⟨aN, aL, rfl, hS, hr⟩ := h
  refine ⟨aN, aL, rfl, ⟨fun a ha => ?_, hS.2⟩, hr⟩
  simp only [List.mem_cons, List.not_mem_nil, or_false] at ha
  rcases ha with rfl | rfl
  · exact own_spo (hS.1 _ (List.mem_cons_self ..)) hs h1 h2
  · exact own_spo (hS.1 (itRow b 54 2 aL st.L.length (st.L.flatMap encL)) (by simp)) hs h1 h2
theorem PrgW.below {b m : Nat} {v : Value} {st : PS} {w w' : World} (h : PrgW b v m st w) (hb : Below w.heap.size w w') : PrgW b v m st w' := by
  obtain ⟨aN, aL, rfl, hS, hr⟩ := h
  exact ⟨aN, aL, rfl, hS.below hb, hr⟩
theorem Blk.spo {B g : Nat} {vN vL : Value} {w w' : World} {T : TypeId} {cs : Array Value} (h : Blk w g T cs) (hs : SpO B vN vL w w') (h1 : ∀ k, vN.ownBlock = some k → k < g) (h2 : ∀ k, vL.ownBlock = some k → k < g) : Blk w' g T cs :=
  (hs.block g (Blk.lt h) (fun e => by have := h1 g e.symm; omega) (fun e => by have := h2 g e.symm; omega)).trans h
theorem nodesK_nil (B : Nat) (W : World) : NodesK B W (.slice none 0 0) [] := ⟨none, 0, rfl, fun h => absurd h (Nat.lt_irrefl _)⟩
theorem letsK_nil (B : Nat) (W : World) : LetsK B W (.slice none 0 0) [] := ⟨none, 0, rfl, fun h => absurd h (Nat.lt_irrefl _)⟩
theorem prgM_none (W : World) : PrgM W (.slice none 0 0) (.slice none 0 0) [] [] := ⟨nodesK_nil _ _, letsK_nil _ _, (fun r h => by cases h), (fun r h => by cases h), by simp, by simp⟩
theorem lgsame_ok {vN vL vM vK : Value} {N M : List RNo} {Ls Ms : List RLt} {m k : Int} {w : World} (h : PrgM w vN vL N Ls) (h' : PrgM w vM vK M Ms) (e : N = M ∧ Ls = Ms ∧ m = k) :
    Calls Tryz.prog 6 #[.agg #[vN, vL, .int .i64 m], .agg #[vM, vK, .int .i64 k]] w (fun e w' => e = .returned (.bool true) ∧ Below w.heap.size w w') := by
  have hq : sameW N M Ls Ms m k = true := by unfold sameW; exact decide_eq_true e
  have c := rSame_any (m := m) (k := k) h.n h.l h'.n h'.l h.bn h'.bn h.bl h'.bl h.zn h'.zn h.zl h'.zl
  rw [hq] at c
  exact c
theorem tf_info : ∃ j, Tryz.prog.info? 33 = some j ∧ j.size ≠ 0 := by
  have h : (Tryz.prog.info? 33).map (fun i => i.size) = some 2 := by kernel_rfl
  rcases e : Tryz.prog.info? 33 with _ | j
  · rw [e] at h; cases h
  · rw [e] at h
    have h : j.size = 2 := Option.some.inj h
    exact ⟨j, rfl, by omega⟩
theorem l_ne {a b : Nat} (h : a ≠ b) : ((a : Int) == (b : Int)) = false := by rw [beq_eq_false_iff_ne]; omega
set_option maxRecDepth 100000 in
set_option maxHeartbeats 16000000 in
/-- LangParses -/
theorem langParses_any {s : ByteArray} {w : World} (hs : s.size ≤ 140737488351232) (hE : EnvL w) :
    Calls Tryz.prog 3 #[.string s] w (RetVal (.bool true) w) := by
  obtain ⟨pr, hpr⟩ : ∃ r, r = parseF (sl s) := ⟨_, rfl⟩
  have hok : parseT (sl s) pr := by rw [hpr]; exact parseF_ok _
  have cP := Lib.hid (lParse_any s w (by omega) hE.e1 hE.e2 pr hok)
  have hs2 : s.size ≤ 140737488355328 := by omega
  have cP2 := Lib.hid (fun (W : World) (hb : Below w.heap.size w W) => lParse_any s W hs2 (hE.below hb).e1 (hE.below hb).e2 pr hok)
  have cP3 := Lib.hid (fun (W : World) => rParse_any s W hs2 pr hok)
  have hE0 := Lib.hid hE
  replace hok := Lib.hid hok
  clear hE hs hs2
  go_enter Tryz.func3, Tryz.ntmps3
  go_wp2_with fail
  refine Calls.mono cP.out ?_
  intro en w1 hret
  clear cP
  rcases pr with ⟨k, st⟩ | ⟨a, c⟩
  case no =>
    obtain ⟨⟨q1, rfl, hqB0, kq⟩, hb⟩ := hret
    have hqB := Lib.hid hqB0
    clear hqB0
    have bA := (Below.refl w1.heap.size w1).alloc (Nat.le_refl _) (.cells #[.slice none 0 0, .slice none 0 0, .int .i64 0] 25)
    have k1 := Lib.hid (Blk.new w1 25 #[.slice none 0 0, .slice none 0 0, .int .i64 0])
    have hB2 := Lib.hid (hb.trans (bA.mono hb.size))
    have hq1 := Lib.hid (Blk.lt kq)
    replace kq := Lib.hid (Blk.below kq bA)
    clear bA hb
    go_upto_region 2 with fail
    generalize hWa : w1.alloc (.cells #[.slice none 0 0, .slice none 0 0, .int .i64 0] 25) = w2 at k1 hB2 kq ⊢
    generalize hqa : w1.heap.size = b1 at k1 hq1 ⊢
    have hz2 := Lib.hid (show w2.heap.size = b1 + 1 by rw [← hWa, ← hqa]; simp)
    replace hWa := Lib.hid hWa
    replace hqa := Lib.hid hqa
    go_wp2_with fail
    refine Calls.mono (cP2.out _ hB2.out) ?_
    rintro en w3 ⟨⟨q2, rfl, hq2, kr⟩, hb⟩
    have bA := (Below.refl w3.heap.size w3).alloc (Nat.le_refl _) (.cells #[.slice none 0 0, .slice none 0 0, .int .i64 0] 25)
    have k2 := Lib.hid (Blk.new w3 25 #[.slice none 0 0, .slice none 0 0, .int .i64 0])
    have hB4 := Lib.hid ((hB2.out.trans (hb.mono hB2.out.size)).trans (bA.mono (Nat.le_trans hB2.out.size hb.size)))
    have hne : ¬ q1 = q2 := by have := hq1.out; have := hz2.out; omega
    have hne' : ¬ q2 = q1 := fun e => hne e.symm
    have hb12 : Hid (b1 < w3.heap.size) := Lib.hid (by have := hb.size; have := hz2.out; omega)
    have hqb : Hid (q2 < w3.heap.size) := Lib.hid (Blk.lt kr)
    replace k1 := Lib.hid (Blk.below (Blk.below k1.out hb) bA)
    replace kq := Lib.hid (Blk.below (Blk.below kq.out hb) bA)
    replace kr := Lib.hid (Blk.below kr bA)
    clear bA hb hB2
    go_upto_region 3 with fail
    generalize hWb : w3.alloc (.cells #[.slice none 0 0, .slice none 0 0, .int .i64 0] 25) = w4 at k1 k2 kq kr hB4 ⊢
    generalize hqc : w3.heap.size = b2 at k2 hb12 hqb ⊢
    replace hWb := Lib.hid hWb
    replace hqc := Lib.hid hqc
    go_wp2_with fail
    refine Calls.mono (cP3.out w4) ?_
    rintro en w5 ⟨rfl, hb, hc⟩
    have bA := (Below.refl w5.heap.size w5).alloc (Nat.le_refl _) (.cells #[.slice none 0 0, .slice none 0 0, .int .i64 0] 25)
    have hB6 := Lib.hid ((hB4.out.trans (hb.mono hB4.out.size)).trans (bA.mono (Nat.le_trans hB4.out.size hb.size)))
    replace k1 := Lib.hid (Blk.below (Blk.below k1.out hb) bA)
    replace k2 := Lib.hid (Blk.below (Blk.below k2.out hb) bA)
    replace kq := Lib.hid (Blk.below (Blk.below kq.out hb) bA)
    replace kr := Lib.hid (Blk.below (Blk.below kr.out hb) bA)
    have hcI : ((c : Int) == 0) = false := l_ne (b := 0) hc
    have hcJ : ((c : Int) != 0) = true := by rw [bne, hcI]; rfl
    have hok2 := hok.out
    have hab : (a : Int) ≤ 140737488355328 := by
      have h1 := parseT_at hok2
      omega
    clear bA hb hB4 hok2 hc cP2 cP3 hz2
    go_upto_region 4 with fail
    generalize hWc : w5.alloc (.cells #[.slice none 0 0, .slice none 0 0, .int .i64 0] 25) = w6 at k1 k2 kq kr hB6 ⊢
    generalize hqd : w5.heap.size = b3 at ⊢
    replace hWc := Lib.hid hWc
    replace hqd := Lib.hid hqd
    have x0 : w6.cell? ⟨q1, 0, none⟩ = some (.int .i64 (a : Int)) := kq.out.cell 0
    have x1 : w6.cell? ⟨q1, 1, none⟩ = some (.int .i64 (c : Int)) := kq.out.cell 1
    have xf := kq.out.frozen 0
    have y0 : w6.cell? ⟨q2, 0, none⟩ = some (.int .i64 (a : Int)) := kr.out.cell 0
    have y1 : w6.cell? ⟨q2, 1, none⟩ = some (.int .i64 (c : Int)) := kr.out.cell 1
    have hw1 : wrap64 ((a : Int) + 1) = (a : Int) + 1 := w64_in _ (by omega)
    have hw2 : IntKind.i64.wrap ((a : Int) + 1) = (a : Int) + 1 := by rw [IntKind.wrap_i64]; omega
    have heql : (binOp .eql 26 (.pointer (some ⟨q1, 0, none⟩)) (.pointer (some ⟨q2, 0, none⟩))).run Tryz.prog w6 = .ok (.bool false) w6 := by
      obtain ⟨j, hj, hj2⟩ := tf_info
      exact run_eql_ptr_other (a := ⟨q1, 0, none⟩) (b := ⟨q2, 0, none⟩) w6 Tryz.underlying26 hj hj2 (fun e => hne (by injection e)) kq.out kr.out
    go_upto_region 8 with fail
    have hqw := hq1.out
    have kq7 := Lib.hid (kq.out.set_ 0 (.int .i64 ((a : Int) + 1)))
    have kr7 := Lib.hid (kr.out.far (p := ⟨q1, 0, none⟩) (by show q2 ≠ q1; exact hne') (.int .i64 ((a : Int) + 1)))
    have k17 := Lib.hid (k1.out.far (p := ⟨q1, 0, none⟩) (by show b1 ≠ q1; omega) (.int .i64 ((a : Int) + 1)))
    have k27 := Lib.hid (k2.out.far (p := ⟨q1, 0, none⟩) (by show b2 ≠ q1; have := hb12.out; omega) (.int .i64 ((a : Int) + 1)))
    have hB7 := Lib.hid (hB6.out.setCell (p := ⟨q1, 0, none⟩) hqB.out (.int .i64 ((a : Int) + 1)))
    clear hqw x0 x1 xf y0 y1 hw1 hw2 k1 k2 kq kr hB6
    generalize w6.setCell ⟨q1, 0, none⟩ (.int .i64 ((a : Int) + 1)) = w7 at kq7 kr7 k17 k27 hB7 ⊢
    have x0 : w7.cell? ⟨q1, 0, none⟩ = some (.int .i64 ((a : Int) + 1)) := kq7.out.cell 0
    have x1 : w7.cell? ⟨q1, 1, none⟩ = some (.int .i64 (c : Int)) := kq7.out.cell 1
    have y0 : w7.cell? ⟨q2, 0, none⟩ = some (.int .i64 (a : Int)) := kr7.out.cell 0
    have y1 : w7.cell? ⟨q2, 1, none⟩ = some (.int .i64 (c : Int)) := kr7.out.cell 1
    have z0 : w7.cell? ⟨b1, 0, none⟩ = some (.slice none 0 0) := k17.out.cell 0
    have z1 : w7.cell? ⟨b1, 1, none⟩ = some (.slice none 0 0) := k17.out.cell 1
    have z2 : w7.cell? ⟨b1, 2, none⟩ = some (.int .i64 0) := k17.out.cell 2
    have hw1 : wrap64 ((a : Int) + 1) = (a : Int) + 1 := w64_in _ (by omega)
    have hw2 : IntKind.i64.wrap ((a : Int) + 1) = (a : Int) + 1 := by rw [IntKind.wrap_i64]; omega
    have cS := Lib.hid (fun (W : World) => lgsame_ok (m := 0) (k := 0) (prgM_none W) (prgM_none W) ⟨rfl, rfl, rfl⟩)
    have hj1 : (((a : Int) + 1) == ((a : Int) + 1)) = true := by simp
    have hj2 : ((c : Int) == (c : Int)) = true := by simp
    have hj3 : ((a : Int) == (a : Int)) = true := by simp
    go_wp2_with fail
    refine Calls.mono (cS.out w7) ?_
    rintro en w8 ⟨rfl, hb⟩
    have k28 := Lib.hid (Blk.below k27.out hb)
    have hB8 := Lib.hid (hB7.out.trans (hb.mono hB7.out.size))
    have v0 : w8.cell? ⟨b2, 0, none⟩ = some (.slice none 0 0) := k28.out.cell 0
    have v1 : w8.cell? ⟨b2, 1, none⟩ = some (.slice none 0 0) := k28.out.cell 1
    have v2 : w8.cell? ⟨b2, 2, none⟩ = some (.int .i64 0) := k28.out.cell 2
    clear hb hB7 x0 x1 y0 y1 z0 z1 z2
    go_wp2_with fail
    refine Calls.mono (cS.out w8) ?_
    rintro en w9 ⟨rfl, hb⟩
    have hB9 := Lib.hid (hB8.out.trans (hb.mono hB8.out.size))
    have cA := Lib.hid (lgawake_any (hE0.out.below hB9.out))
    clear hb hB8 v0 v1 v2
    go_wp2_with fail
    refine Calls.mono cA.out ?_
    rintro en w10 ⟨rfl, hb⟩
    have hB10 := Lib.hid (hB9.out.trans (hb.mono hB9.out.size))
    clear hb hB9
    go_wp2_with fail
    go_ret
    exact ⟨rfl, hB10.out⟩
  case ok =>
    obtain ⟨⟨v1, rfl, hW1⟩, hb⟩ := hret
    obtain ⟨D, y, hG⟩ := parseF_prg (byt_sl s) hpr.symm
    obtain ⟨N1, cN1, L1, cL1, rfl, -⟩ := prgM_own hW1 hG
    obtain ⟨nn, hnn⟩ : ∃ n, n = st.N.length := ⟨_, rfl⟩
    obtain ⟨nl, hnl⟩ : ∃ n, n = st.L.length := ⟨_, rfl⟩
    have hnb : nn ≤ 4096 ∧ nl ≤ 16385 := by
      obtain ⟨_, _, _, _, _, h1, h2⟩ := hW1
      rw [hnn, hnl]
      exact ⟨h1, h2⟩
    rw [← hnn, ← hnl] at hW1
    rw [← hnn, ← hnl]
    have hlt1 : Hid ((∀ q, (Value.slice N1 nn cN1).ownBlock = some q → q < w1.heap.size) ∧ (∀ q, (Value.slice L1 nl cL1).ownBlock = some q → q < w1.heap.size)) := Lib.hid (by
      obtain ⟨aN, aL, e, hS, -⟩ := hW1
      injection e with e
      have e := congrArg Array.toList e
      simp only [List.cons.injEq] at e
      obtain ⟨rfl, rfl, -⟩ := e
      exact ⟨fun q hq => (World.ownsRow.lt (hS.1 _ (List.mem_cons_self ..)) q hq).2, fun q hq => (World.ownsRow.lt (hS.1 (itRow w.heap.size 54 2 (.slice L1 nl cL1) st.L.length (st.L.flatMap encL)) (by simp)) q hq).2⟩)
    replace hG := Lib.hid hG
    replace hnn := Lib.hid hnn
    replace hnl := Lib.hid hnl
    replace hpr := Lib.hid hpr
    have bA := (Below.refl w1.heap.size w1).alloc (Nat.le_refl _) (.cells #[.slice N1 nn cN1, .slice L1 nl cL1, .int .i64 (k : Int)] 25)
    have k1 := Lib.hid (Blk.new w1 25 #[.slice N1 nn cN1, .slice L1 nl cL1, .int .i64 (k : Int)])
    have hB2 := Lib.hid (hb.trans (bA.mono hb.size))
    replace hW1 := Lib.hid (PrgW.below hW1 bA)
    clear bA hb
    go_upto_region 2 with fail
    generalize hWa : w1.alloc (.cells #[.slice N1 nn cN1, .slice L1 nl cL1, .int .i64 (k : Int)] 25) = w2 at k1 hB2 hW1 ⊢
    generalize hqa : w1.heap.size = b1 at k1 hlt1 ⊢
    have hz2 := Lib.hid (show w2.heap.size = b1 + 1 by rw [← hWa, ← hqa]; simp)
    replace hWa := Lib.hid hWa
    replace hqa := Lib.hid hqa
    go_wp2_with fail
    refine Calls.mono (cP2.out _ hB2.out) ?_
    rintro en w3 ⟨⟨v2, rfl, hW2⟩, hb⟩
    obtain ⟨N2, cN2, L2, cL2, rfl, -⟩ := prgM_own hW2 hG.out
    rw [← hnn.out, ← hnl.out] at hW2
    rw [← hnn.out, ← hnl.out]
    have bA := (Below.refl w3.heap.size w3).alloc (Nat.le_refl _) (.cells #[.slice N2 nn cN2, .slice L2 nl cL2, .int .i64 (k : Int)] 25)
    have k2 := Lib.hid (Blk.new w3 25 #[.slice N2 nn cN2, .slice L2 nl cL2, .int .i64 (k : Int)])
    have hB4 := Lib.hid ((hB2.out.trans (hb.mono hB2.out.size)).trans (bA.mono (Nat.le_trans hB2.out.size hb.size)))
    have hb12 : Hid (b1 < w3.heap.size) := Lib.hid (by have := hb.size; have := hz2.out; omega)
    have hq2 : Hid (b1 < w2.heap.size) := Lib.hid (by have := hz2.out; omega)
    generalize w2.heap.size = B2 at hW2 hq2
    replace k1 := Lib.hid (Blk.below (Blk.below k1.out hb) bA)
    replace hW1 := Lib.hid (PrgW.below (PrgW.below hW1.out hb) bA)
    replace hW2 := Lib.hid (PrgW.below hW2 bA)
    clear bA hb hB2
    go_upto_region 3 with fail
    generalize hWb : w3.alloc (.cells #[.slice N2 nn cN2, .slice L2 nl cL2, .int .i64 (k : Int)] 25) = w4 at k1 k2 hW1 hW2 hB4 ⊢
    generalize hqc : w3.heap.size = b2 at k2 hb12 ⊢
    have hz4 := Lib.hid (show w4.heap.size = b2 + 1 by rw [← hWb, ← hqc]; simp)
    replace hWb := Lib.hid hWb
    replace hqc := Lib.hid hqc
    go_wp2_with fail
    refine Calls.mono (cP3.out w4) ?_
    rintro en w5 ⟨⟨v3, rfl, hW3⟩, hb⟩
    obtain ⟨N3, cN3, L3, cL3, rfl, -⟩ := prgM_own hW3 hG.out
    rw [← hnn.out, ← hnl.out] at hW3
    rw [← hnn.out, ← hnl.out]
    have bA := (Below.refl w5.heap.size w5).alloc (Nat.le_refl _) (.cells #[.slice N3 nn cN3, .slice L3 nl cL3, .int .i64 (k : Int)] 25)
    have k3 := Lib.hid (Blk.new w5 25 #[.slice N3 nn cN3, .slice L3 nl cL3, .int .i64 (k : Int)])
    have hB6 := Lib.hid ((hB4.out.trans (hb.mono hB4.out.size)).trans (bA.mono (Nat.le_trans hB4.out.size hb.size)))
    have hb13 : Hid (b1 < w5.heap.size) := Lib.hid (by have := hb.size; have := hz4.out; have := hb12.out; omega)
    have hq3 : Hid (b1 < w4.heap.size) := Lib.hid (by have := hz4.out; have := hb12.out; omega)
    generalize w4.heap.size = B3 at hW3 hq3
    replace k1 := Lib.hid (Blk.below (Blk.below k1.out hb) bA)
    replace k2 := Lib.hid (Blk.below (Blk.below k2.out hb) bA)
    replace hW1 := Lib.hid (PrgW.below (PrgW.below hW1.out hb) bA)
    replace hW2 := Lib.hid (PrgW.below (PrgW.below hW2.out hb) bA)
    replace hW3 := Lib.hid (PrgW.below hW3 bA)
    clear bA hb hB4 hz2 hz4 cP2 cP3
    go_upto_region 4 with fail
    generalize hWc : w5.alloc (.cells #[.slice N3 nn cN3, .slice L3 nl cL3, .int .i64 (k : Int)] 25) = w6 at k1 k2 k3 hW1 hW2 hW3 hB6 ⊢
    generalize hqd : w5.heap.size = b3 at k3 hb13 ⊢
    replace hWc := Lib.hid hWc
    replace hqd := Lib.hid hqd
    have mm1 : Hid (∀ (W : World), PrgW w.heap.size (.agg #[.slice N1 nn cN1, .slice L1 nl cL1, .int .i64 (k : Int)]) k st W → PrgM W (.slice N1 nn cN1) (.slice L1 nl cL1) (st.N.map Nod.raw) (st.L.map rawL)) := Lib.hid (fun W h => by
      obtain ⟨a1, a2, a3, a4, e, hM⟩ := prgM_own h hG.out
      injection e with e
      have e := congrArg Array.toList e
      simp only [List.cons.injEq] at e
      obtain ⟨e1, e2, -⟩ := e
      rw [e1, e2]
      exact hM)
    have mm2 : Hid (∀ (W : World), PrgW B2 (.agg #[.slice N2 nn cN2, .slice L2 nl cL2, .int .i64 (k : Int)]) k st W → PrgM W (.slice N2 nn cN2) (.slice L2 nl cL2) (st.N.map Nod.raw) (st.L.map rawL)) := Lib.hid (fun W h => by
      obtain ⟨a1, a2, a3, a4, e, hM⟩ := prgM_own h hG.out
      injection e with e
      have e := congrArg Array.toList e
      simp only [List.cons.injEq] at e
      obtain ⟨e1, e2, -⟩ := e
      rw [e1, e2]
      exact hM)
    have mm3 : Hid (∀ (W : World), PrgW B3 (.agg #[.slice N3 nn cN3, .slice L3 nl cL3, .int .i64 (k : Int)]) k st W → PrgM W (.slice N3 nn cN3) (.slice L3 nl cL3) (st.N.map Nod.raw) (st.L.map rawL)) := Lib.hid (fun W h => by
      obtain ⟨a1, a2, a3, a4, e, hM⟩ := prgM_own h hG.out
      injection e with e
      have e := congrArg Array.toList e
      simp only [List.cons.injEq] at e
      obtain ⟨e1, e2, -⟩ := e
      rw [e1, e2]
      exact hM)
    have cS1 := Lib.hid (lgsame_ok (m := (k : Int)) (k := (k : Int)) (mm1.out _ hW1.out) (mm3.out _ hW3.out) ⟨rfl, rfl, rfl⟩)
    have x10 : w6.cell? ⟨b1, 0, none⟩ = some (.slice N1 nn cN1) := k1.out.cell 0
    have x11 : w6.cell? ⟨b1, 1, none⟩ = some (.slice L1 nl cL1) := k1.out.cell 1
    have x12 : w6.cell? ⟨b1, 2, none⟩ = some (.int .i64 (k : Int)) := k1.out.cell 2
    have x30 : w6.cell? ⟨b3, 0, none⟩ = some (.slice N3 nn cN3) := k3.out.cell 0
    have x31 : w6.cell? ⟨b3, 1, none⟩ = some (.slice L3 nl cL3) := k3.out.cell 1
    have x32 : w6.cell? ⟨b3, 2, none⟩ = some (.int .i64 (k : Int)) := k3.out.cell 2
    go_wp2_with fail
    refine Calls.mono cS1.out ?_
    rintro en w7 ⟨rfl, hb⟩
    replace k1 := Lib.hid (Blk.below k1.out hb)
    replace k2 := Lib.hid (Blk.below k2.out hb)
    replace k3 := Lib.hid (Blk.below k3.out hb)
    replace hW1 := Lib.hid (PrgW.below hW1.out hb)
    replace hW2 := Lib.hid (PrgW.below hW2.out hb)
    replace hW3 := Lib.hid (PrgW.below hW3.out hb)
    have hB7 := Lib.hid (hB6.out.trans (hb.mono hB6.out.size))
    clear hb hB6 x10 x11 x12 x30 x31 x32 cS1
    have cS2 := Lib.hid (lgsame_ok (m := (k : Int)) (k := (k : Int)) (mm2.out _ hW2.out) (mm3.out _ hW3.out) ⟨rfl, rfl, rfl⟩)
    have y20 : w7.cell? ⟨b2, 0, none⟩ = some (.slice N2 nn cN2) := k2.out.cell 0
    have y21 : w7.cell? ⟨b2, 1, none⟩ = some (.slice L2 nl cL2) := k2.out.cell 1
    have y22 : w7.cell? ⟨b2, 2, none⟩ = some (.int .i64 (k : Int)) := k2.out.cell 2
    have y30 : w7.cell? ⟨b3, 0, none⟩ = some (.slice N3 nn cN3) := k3.out.cell 0
    have y31 : w7.cell? ⟨b3, 1, none⟩ = some (.slice L3 nl cL3) := k3.out.cell 1
    have y32 : w7.cell? ⟨b3, 2, none⟩ = some (.int .i64 (k : Int)) := k3.out.cell 2
    go_wp2_with fail
    refine Calls.mono cS2.out ?_
    rintro en w8 ⟨rfl, hb⟩
    replace k1 := Lib.hid (Blk.below k1.out hb)
    replace k2 := Lib.hid (Blk.below k2.out hb)
    replace k3 := Lib.hid (Blk.below k3.out hb)
    replace hW1 := Lib.hid (PrgW.below hW1.out hb)
    replace hW2 := Lib.hid (PrgW.below hW2.out hb)
    replace hW3 := Lib.hid (PrgW.below hW3.out hb)
    have hB8 := Lib.hid (hB7.out.trans (hb.mono hB7.out.size))
    clear hb hB7 y20 y21 y22 y30 y31 y32 cS2
    go_upto_region 11 with fail
    have x10 : w8.cell? ⟨b1, 0, none⟩ = some (.slice N1 nn cN1) := k1.out.cell 0
    have x11 : w8.cell? ⟨b1, 1, none⟩ = some (.slice L1 nl cL1) := k1.out.cell 1
    have x12 : w8.cell? ⟨b1, 2, none⟩ = some (.int .i64 (k : Int)) := k1.out.cell 2
    have x20 : w8.cell? ⟨b2, 0, none⟩ = some (.slice N2 nn cN2) := k2.out.cell 0
    have x21 : w8.cell? ⟨b2, 1, none⟩ = some (.slice L2 nl cL2) := k2.out.cell 1
    have x22 : w8.cell? ⟨b2, 2, none⟩ = some (.int .i64 (k : Int)) := k2.out.cell 2
    have x30 : w8.cell? ⟨b3, 0, none⟩ = some (.slice N3 nn cN3) := k3.out.cell 0
    have x31 : w8.cell? ⟨b3, 1, none⟩ = some (.slice L3 nl cL3) := k3.out.cell 1
    have x32 : w8.cell? ⟨b3, 2, none⟩ = some (.int .i64 (k : Int)) := k3.out.cell 2
    have hdr := (Below.refl w8.heap.size w8).drew
    have cSp : Hid (Calls Tryz.prog 8 #[.agg #[.slice N1 nn cN1, .slice L1 nl cL1, .int .i64 (k : Int)]] w8.drew (fun e w' => e = .returned (.int .i64 (((nn + nl + 40 : Nat)) : Int)) ∧ SpO w.heap.size (.slice N1 nn cN1) (.slice L1 nl cL1) w8.drew w')) := Lib.hid (by
      obtain ⟨aN, aL, e, hS, -⟩ := PrgW.below hW1.out hdr
      injection e with e
      have e := congrArg Array.toList e
      simp only [List.cons.injEq] at e
      obtain ⟨rfl, rfl, -⟩ := e
      have c := rSpoil_any (mp := (k : Int)) hS hB8.out.size (by rw [← hnn.out]; exact hnb.1) (by rw [← hnl.out]; exact hnb.2)
      rw [← hnn.out, ← hnl.out] at c
      exact c)
    have hw1 : wrap64 ((nn : Int) + (nl : Int)) = (nn : Int) + (nl : Int) := w64_in _ (by omega)
    have hw2 : wrap64 ((nn : Int) + (nl : Int) + 40) = (nn : Int) + (nl : Int) + 40 := w64_in _ (by omega)
    have hw3 : IntKind.i64.wrap ((nn : Int) + (nl : Int)) = (nn : Int) + (nl : Int) := by rw [IntKind.wrap_i64]; omega
    have hw4 : IntKind.i64.wrap ((nn : Int) + (nl : Int) + 40) = (nn : Int) + (nl : Int) + 40 := by rw [IntKind.wrap_i64]; omega
    have hj1 : (((nn : Int) + (nl : Int) + 40) == ((nn : Int) + (nl : Int) + 40)) = true := by simp
    have hdrH := Lib.hid hdr
    clear hdr
    go_region_held3 (fun w' => w'.cell? ⟨b1, 0, none⟩ = some (.slice N1 nn cN1) ∧ w'.cell? ⟨b1, 1, none⟩ = some (.slice L1 nl cL1) ∧ w'.cell? ⟨b1, 2, none⟩ = some (.int .i64 (k : Int)) ∧ w'.cell? ⟨b2, 0, none⟩ = some (.slice N2 nn cN2) ∧ w'.cell? ⟨b2, 1, none⟩ = some (.slice L2 nl cL2) ∧ w'.cell? ⟨b2, 2, none⟩ = some (.int .i64 (k : Int)) ∧ w'.cell? ⟨b3, 0, none⟩ = some (.slice N3 nn cN3) ∧ w'.cell? ⟨b3, 1, none⟩ = some (.slice L3 nl cL3) ∧ w'.cell? ⟨b3, 2, none⟩ = some (.int .i64 (k : Int))) (go_keep)
      (first
        | (have hq9 := cA; clear hq9; go_at_call 7; (with_reducible refine Calls.mono cA.out ?_); rintro en w11 ⟨rfl, hb⟩; have hB11 := Lib.hid (hB10.out.trans (hb.mono hB10.out.size)); have o1 := Lib.hid (Blk.below r1.out hb); have o2 := Lib.hid (Blk.below r2.out hb); have o3 := Lib.hid (Blk.below r3.out hb); have n10 : w11.cell? ⟨b1, 0, none⟩ = some (.slice N1 nn cN1) := o1.out.cell 0; have n11 : w11.cell? ⟨b1, 1, none⟩ = some (.slice L1 nl cL1) := o1.out.cell 1; have n12 : w11.cell? ⟨b1, 2, none⟩ = some (.int .i64 (k : Int)) := o1.out.cell 2; have n20 : w11.cell? ⟨b2, 0, none⟩ = some (.slice N2 nn cN2) := o2.out.cell 0; have n21 : w11.cell? ⟨b2, 1, none⟩ = some (.slice L2 nl cL2) := o2.out.cell 1; have n22 : w11.cell? ⟨b2, 2, none⟩ = some (.int .i64 (k : Int)) := o2.out.cell 2; have n30 : w11.cell? ⟨b3, 0, none⟩ = some (.slice N3 nn cN3) := o3.out.cell 0; have n31 : w11.cell? ⟨b3, 1, none⟩ = some (.slice L3 nl cL3) := o3.out.cell 1; have n32 : w11.cell? ⟨b3, 2, none⟩ = some (.int .i64 (k : Int)) := o3.out.cell 2; clear hb)
        | (have hq9 := cSm; clear hq9; go_at_call 6; (with_reducible refine Calls.mono cSm.out ?_); rintro en w10 ⟨rfl, hb⟩; have hB10 := Lib.hid (hB9.out.trans (hb.mono hB9.out.size)); have cA := Lib.hid (lgawake_any (hE0.out.below hB10.out)); have r1 := Lib.hid (Blk.below p1.out hb); have r2 := Lib.hid (Blk.below p2.out hb); have r3 := Lib.hid (Blk.below p3.out hb); have t10 : w10.cell? ⟨b1, 0, none⟩ = some (.slice N1 nn cN1) := r1.out.cell 0; have t11 : w10.cell? ⟨b1, 1, none⟩ = some (.slice L1 nl cL1) := r1.out.cell 1; have t12 : w10.cell? ⟨b1, 2, none⟩ = some (.int .i64 (k : Int)) := r1.out.cell 2; have t20 : w10.cell? ⟨b2, 0, none⟩ = some (.slice N2 nn cN2) := r2.out.cell 0; have t21 : w10.cell? ⟨b2, 1, none⟩ = some (.slice L2 nl cL2) := r2.out.cell 1; have t22 : w10.cell? ⟨b2, 2, none⟩ = some (.int .i64 (k : Int)) := r2.out.cell 2; have t30 : w10.cell? ⟨b3, 0, none⟩ = some (.slice N3 nn cN3) := r3.out.cell 0; have t31 : w10.cell? ⟨b3, 1, none⟩ = some (.slice L3 nl cL3) := r3.out.cell 1; have t32 : w10.cell? ⟨b3, 2, none⟩ = some (.int .i64 (k : Int)) := r3.out.cell 2; clear hb)
        | (go_at_call 8; (with_reducible refine Calls.mono cSp.out ?_); rintro en w9 ⟨rfl, hsp⟩; have p1 := Lib.hid (Blk.spo (Blk.below k1.out hdrH.out) hsp hlt1.out.1 hlt1.out.2); have p2 := Lib.hid (Blk.spo (Blk.below k2.out hdrH.out) hsp (fun q h => Nat.lt_trans (hlt1.out.1 q h) hb12.out) (fun q h => Nat.lt_trans (hlt1.out.2 q h) hb12.out)); have p3 := Lib.hid (Blk.spo (Blk.below k3.out hdrH.out) hsp (fun q h => Nat.lt_trans (hlt1.out.1 q h) hb13.out) (fun q h => Nat.lt_trans (hlt1.out.2 q h) hb13.out)); have s2 := Lib.hid (PrgW.spo (PrgW.below hW2.out hdrH.out) hsp (fun q h => Nat.lt_trans (hlt1.out.1 q h) hq2.out) (fun q h => Nat.lt_trans (hlt1.out.2 q h) hq2.out)); have s3 := Lib.hid (PrgW.spo (PrgW.below hW3.out hdrH.out) hsp (fun q h => Nat.lt_trans (hlt1.out.1 q h) hq3.out) (fun q h => Nat.lt_trans (hlt1.out.2 q h) hq3.out)); have hB9 := Lib.hid ((hB8.out.trans (hdrH.out.mono hB8.out.size)).trans hsp.bl); have cSm := Lib.hid (lgsame_ok (m := (k : Int)) (k := (k : Int)) (mm2.out _ s2.out) (mm3.out _ s3.out) ⟨rfl, rfl, rfl⟩); have u10 : w9.cell? ⟨b1, 0, none⟩ = some (.slice N1 nn cN1) := p1.out.cell 0; have u11 : w9.cell? ⟨b1, 1, none⟩ = some (.slice L1 nl cL1) := p1.out.cell 1; have u12 : w9.cell? ⟨b1, 2, none⟩ = some (.int .i64 (k : Int)) := p1.out.cell 2; have u20 : w9.cell? ⟨b2, 0, none⟩ = some (.slice N2 nn cN2) := p2.out.cell 0; have u21 : w9.cell? ⟨b2, 1, none⟩ = some (.slice L2 nl cL2) := p2.out.cell 1; have u22 : w9.cell? ⟨b2, 2, none⟩ = some (.int .i64 (k : Int)) := p2.out.cell 2; have u30 : w9.cell? ⟨b3, 0, none⟩ = some (.slice N3 nn cN3) := p3.out.cell 0; have u31 : w9.cell? ⟨b3, 1, none⟩ = some (.slice L3 nl cL3) := p3.out.cell 1; have u32 : w9.cell? ⟨b3, 2, none⟩ = some (.int .i64 (k : Int)) := p3.out.cell 2; clear hsp))
    all_goals
      go_wp2_with fail
      go_ret
      exact ⟨rfl, hB11.out⟩
end Go.Proofs.YtnaadajcehfmiaaGreatDoor
