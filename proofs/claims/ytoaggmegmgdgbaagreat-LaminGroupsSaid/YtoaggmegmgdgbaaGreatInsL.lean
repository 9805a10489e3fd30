import Derived.Test.YtoaggmegmgdgbaaGreatLamR
namespace Go.Proofs.YtoaggmegmgdgbaaGreat
open Go.RowKit Go.Sort
def InsLawL (B : Nat) (v : Value) (L : List Lf) (l : Lf) (K : Nat) : Prop := ∀ (vb : Nat) (W : World), LRow W B v L → Blk W vb 38 (leafE l).toArray → B ≤ W.heap.size →
    Calls Tryz.prog 94 #[v, .int .i64 (K : Int), .slice (some ⟨vb, 0, none⟩) 1 1] W fun e w' => ∃ v', e = .returned v' ∧ Hid (LRow w' B v' (putL L l K)) ∧ Hid (W.grownBy w' v.ownBlock) ∧ Hid (v'.ownBlock = v.ownBlock ∨ ∃ k, v'.ownBlock = some k ∧ W.heap.size ≤ k)
set_option maxRecDepth 100000 in
set_option maxHeartbeats 2000000 in
theorem lInsert_endL (B : Nat) (v : Value) (L : List Lf) (l : Lf) (vb : Nat) (w : World) (h : LRow w B v L) (hvb : Blk w vb 38 (leafE l).toArray) (hB : B ≤ w.heap.size) (hn4 : L.length ≤ 1048576) :
    Calls Tryz.prog 94 #[v, .int .i64 (L.length : Int), .slice (some ⟨vb, 0, none⟩) 1 1] w fun e w' => ∃ v', e = .returned v' ∧ Hid (LRow w' B v' (L ++ [l])) ∧ Hid (w.grownBy w' v.ownBlock) ∧ Hid (v'.ownBlock = v.ownBlock ∨ ∃ k, v'.ownBlock = some k ∧ w.heap.size ≤ k) := by
  obtain ⟨i0, hi, hz0, hz1, hz2⟩ := info_parts info_leafI
  have hN := Lib.hid (leaf_news hvb)
  have hO := Lib.hid (leaf_one l)
  clear hvb
  obtain ⟨n, hn⟩ : ∃ n, n = L.length := ⟨_, rfl⟩
  have h2 := h.2
  unfold LRow at h
  rw [← hn] at h h2 hn4 ⊢
  replace hn := Lib.hid hn
  replace hB := Lib.hid hB
  rcases h2 with ⟨rfl, h0⟩ | ⟨g, cap, cur, rfl, hbase, hg, hnc, hmx, hcs, htk⟩
  · subst h0
    replace h := Lib.hid h
    go_enter Tryz.func94, Tryz.ntmps94
    go_wp2_with (at_builtin; refine wpList_append_own_at _ rfl _ _ 27 rfl B 38 i0 (.agg #[.bool false, .string ⟨#[]⟩, .string ⟨#[]⟩, .bool false, .string ⟨#[]⟩, .string ⟨#[]⟩]) 6 80 Tryz.underlying27 hi hz0 hz1 hz2 rfl (by decide) _ _ _ rfl h.out ⟨vb, 0, none⟩ 1 1 (leafE l) rfl rfl hN.out hO.out (by unfold maxLen; omega) (by omega) hB.out ?_)
    intro v' w3 hown' hgrow _ hloc
    replace hown' := Lib.hid (LRow.snoc hn.out hown')
    replace hgrow := Lib.hid hgrow
    replace hloc := Lib.hid hloc
    clear h hN hO hB
    go_wp2_with fail
    go_ret
    exact ⟨_, rfl, hown', hgrow, Lib.hid (by
      rcases hloc.out with h | h
      · exact .inl h
      · exact .inr ⟨_, h, by first | exact Nat.le_refl _ | (simp; done) | (simp; omega)⟩)⟩
  · replace h := Lib.hid h
    clear hg hcs htk hbase hmx
    by_cases hcn : cap = n
    · subst hcn
      go_enter Tryz.func94, Tryz.ntmps94
      go_wp2_with (at_builtin; refine wpList_append_own_at _ rfl _ _ 27 rfl B 38 i0 (.agg #[.bool false, .string ⟨#[]⟩, .string ⟨#[]⟩, .bool false, .string ⟨#[]⟩, .string ⟨#[]⟩]) 6 80 Tryz.underlying27 hi hz0 hz1 hz2 rfl (by decide) _ _ _ rfl h.out ⟨vb, 0, none⟩ 1 1 (leafE l) rfl rfl hN.out hO.out (by unfold maxLen; omega) (by omega) hB.out ?_)
      intro v' w3 hown' hgrow _ hloc
      replace hown' := Lib.hid (LRow.snoc hn.out hown')
      replace hgrow := Lib.hid hgrow
      replace hloc := Lib.hid hloc
      clear h hN hO hB
      go_wp2_with fail
      go_ret
      exact ⟨_, rfl, hown', hgrow, Lib.hid (by
      rcases hloc.out with h | h
      · exact .inl h
      · exact .inr ⟨_, h, by first | exact Nat.le_refl _ | (simp; done) | (simp; omega)⟩)⟩
    · skip
      go_enter Tryz.func94, Tryz.ntmps94
      go_wp2_with (at_builtin; refine wpList_append_own_at _ rfl _ _ 27 rfl B 38 i0 (.agg #[.bool false, .string ⟨#[]⟩, .string ⟨#[]⟩, .bool false, .string ⟨#[]⟩, .string ⟨#[]⟩]) 6 80 Tryz.underlying27 hi hz0 hz1 hz2 rfl (by decide) _ _ _ rfl h.out ⟨vb, 0, none⟩ 1 1 (leafE l) rfl rfl hN.out hO.out (by unfold maxLen; omega) (by omega) hB.out ?_)
      intro v' w3 hown' hgrow _ hloc
      replace hown' := Lib.hid (LRow.snoc hn.out hown')
      replace hgrow := Lib.hid hgrow
      replace hloc := Lib.hid hloc
      clear h hN hO hB
      go_wp2_with fail
      go_ret
      exact ⟨_, rfl, hown', hgrow, Lib.hid (by
      rcases hloc.out with h | h
      · exact .inl h
      · exact .inr ⟨_, h, by first | exact Nat.le_refl _ | (simp; done) | (simp; omega)⟩)⟩
set_option maxHeartbeats 1000000 in
theorem insLawL_any (B : Nat) (v : Value) (L : List Lf) (l : Lf) (K : Nat) (hK : K ≤ L.length) (hlen : L.length ≤ 1048576) : InsLawL B v L l K := by
  rcases Nat.eq_or_lt_of_le hK with e | hlt
  · rw [e]
    intro vb W h1 h2 h3
    rw [putL_end]
    exact lInsert_endL B v L l vb W h1 h2 h3 hlen
  intro vb W h1 h2 h3
  have hF : (flatL L).length = L.length * 6 := flatL_len L
  have hE : (leafE l).length = 6 := rfl
  have hput := putL_flat L l K
  have hplen : (putL L l K).length = L.length + 1 := putL_len L l K hK
  have hdl : ((flatL L).drop (K * 6)).length = (L.length - K) * 6 := by rw [List.length_drop, hF]; omega
  have hn6 : (L.length + 1) * 6 = L.length * 6 + 6 := by omega
  rcases h1.2 with ⟨rfl, h0⟩ | ⟨g, cap, cur, rfl, hbase, hg, hnc, hmx, hcs, htk⟩
  · omega
  have htk2 : cur.toList.take (L.length * 6) = (flatL L).take (L.length * 6) := by rw [htk, List.take_of_length_le (by rw [hF]; exact Nat.le_refl _)]
  by_cases hroom : L.length + 1 ≤ cap
  · have hne : vb ≠ g := fun e => by
      subst e
      have := (show W.heap[vb]? = _ from h2).symm.trans hg
      injection this with this
      injection this with this
      have := congrArg Array.size this
      rw [hcs] at this
      simp [leafE] at this
      omega
    refine (lInsert_room g cap L.length K cur L l vb W hg rfl hroom hmx hcs htk h2 hne hlt).mono ?_
    rintro e w' ⟨rfl, rfl⟩
    have hgd : W.drew.heap[g]? = some (.cells cur 38 (0, 0)) := hg
    have hh := setCells_heap (leafE l) (K * 6) _ _ (setCells_heap ((flatL L).drop (K * 6)) ((K + 1) * 6) _ _ hgd)
    have hgb : W.grownBy W.drew (some g) := ⟨rfl, rfl, rfl, Nat.le_refl _, fun _ _ _ => rfl⟩
    refine ⟨_, rfl, Lib.hid ?_, Lib.hid ((hgb.trans (setCells_gb _ _ _)).trans (setCells_gb _ _ _)), Lib.hid (.inl rfl)⟩
    unfold LRow
    rw [hplen]
    refine ⟨by rw [flatL_len, hplen], .inr ⟨g, cap, _, rfl, hbase, hh, hroom, hmx, by rw [writeA_size, writeA_size]; exact hcs, ?_⟩⟩
    rw [hput, hn6]
    have hz1 : (writeA cur ((K + 1) * 6) ((flatL L).drop (K * 6))).size = cur.size := writeA_size _ _ _
    refine ins_take _ _ _ _ _ (by omega) hF hE (by rw [writeA_size, hz1, hcs]; omega) (fun t ht => ?_) (fun t ht => ?_) (fun t ht => ?_)
    · rw [writeA_get _ _ _ _ (by rw [hz1, hcs, hE]; omega), if_neg (by omega), writeA_get _ _ _ _ (by rw [hcs, hdl]; omega), if_neg (by omega)]
      exact take_at htk2 (by omega)
    · rw [writeA_get _ _ _ _ (by rw [hz1, hcs, hE]; omega), if_pos (by rw [hE]; omega), Nat.add_sub_cancel_left]
    · rw [writeA_get _ _ _ _ (by rw [hz1, hcs, hE]; omega), if_neg (by rw [hE]; omega), writeA_get _ _ _ _ (by rw [hcs, hdl]; omega), if_pos (by rw [hdl]; omega), List.getElem?_drop, show K * 6 + (K * 6 + 6 + t - (K + 1) * 6) = K * 6 + t by omega]
  · refine (lInsert_grow g cap L.length K cur L l vb W hg rfl hnc (by omega) hlen hcs htk h2 hlt).mono ?_
    rintro e w' ⟨G, ROW, rfl, hG1, hG2, hRs, hRt, rfl⟩
    have h00 : ((W.alloc (.cells ROW 38)).drew).heap[W.heap.size]? = some (.cells ROW 38 (0, 0)) := heap_alloc_new W _
    have h01 := setCells_heap (leafE l) (K * 6) _ _ h00
    have h02 : (((W.alloc (.cells ROW 38)).drew.setCells W.heap.size (K * 6) (leafE l)).drew).heap[W.heap.size]? = some (.cells (writeA ROW (K * 6) (leafE l)) 38 (0, 0)) := by
      rw [drew_heap]; exact h01
    have hh := setCells_heap ((flatL L).drop (K * 6)) ((K + 1) * 6) _ _ h02
    have g1 : W.grownBy ((W.alloc (.cells ROW 38)).drew) none := (World.grownBy_alloc W _ none).trans ⟨rfl, rfl, rfl, Nat.le_refl _, fun _ _ _ => rfl⟩
    have gd : ∀ X : World, X.grownBy X.drew none := fun X => ⟨rfl, rfl, rfl, Nat.le_refl _, fun _ _ _ => rfl⟩
    have hlt2 : W.heap.size ≤ W.heap.size := Nat.le_refl _
    have far : ∀ {X Y : World}, W.grownBy X none → X.grownBy Y (some W.heap.size) → W.grownBy Y none := fun {X Y} a b =>
      ⟨b.os.trans a.os, b.tape.trans a.tape, b.output.trans a.output, Nat.le_trans a.size b.size, fun k hk hn => (b.block k (Nat.lt_of_lt_of_le hk a.size) (fun e => by injection e with e; omega)).trans (a.block k hk hn)⟩
    have g2 := far g1 (setCells_gb (leafE l) (K * 6) _)
    have g3 := g2.trans (gd _)
    have g4 := far g3 (setCells_gb ((flatL L).drop (K * 6)) ((K + 1) * 6) _)
    refine ⟨_, rfl, Lib.hid ?_, Lib.hid ⟨g4.os, g4.tape, g4.output, g4.size, fun k hk _ => g4.block k hk (by simp)⟩, Lib.hid (.inr ⟨_, rfl, Nat.le_refl _⟩)⟩
    unfold LRow
    rw [hplen]
    refine ⟨by rw [flatL_len, hplen], .inr ⟨W.heap.size, G, _, rfl, h3, hh, hG1, hG2, by rw [writeA_size, writeA_size]; exact hRs, ?_⟩⟩
    rw [hput, hn6]
    have hz1 : (writeA ROW (K * 6) (leafE l)).size = ROW.size := writeA_size _ _ _
    refine ins_take _ _ _ _ _ (by omega) hF hE (by rw [writeA_size, hz1, hRs]; omega) (fun t ht => ?_) (fun t ht => ?_) (fun t ht => ?_)
    · rw [writeA_get _ _ _ _ (by rw [hz1, hRs, hdl]; omega), if_neg (by omega), writeA_get _ _ _ _ (by rw [hRs, hE]; omega), if_neg (by omega)]
      exact take_at hRt ht
    · rw [writeA_get _ _ _ _ (by rw [hz1, hRs, hdl]; omega), if_neg (by omega), writeA_get _ _ _ _ (by rw [hRs, hE]; omega), if_pos (by rw [hE]; omega), Nat.add_sub_cancel_left]
    · rw [writeA_get _ _ _ _ (by rw [hz1, hRs, hdl]; omega), if_pos (by rw [hdl]; omega), List.getElem?_drop, show K * 6 + (K * 6 + 6 + t - (K + 1) * 6) = K * 6 + t by omega]
set_option maxRecDepth 100000 in
set_option maxHeartbeats 4000000 in
theorem lAdd_newL (B x Kp : Nat) (v : Value) (L : List Lf) (l : Lf) (w : World) (hL : Lam w B x v L) (hl : AngL l) (hlt : cmpP l.1 l.2 < 0) (hM : ∀ m, m ∈ L → AngL m) (hP : Plc L l Kp) (hlen : L.length ≤ 4096) (hcr : noCross l L) (hhas : ¬ (Kp < L.length ∧ L[Kp]! = l)) (hlong : L.length < 4096) (hI : InsLawL B v L l Kp) (hBw : B ≤ w.heap.size) (hxv : v.ownBlock ≠ some x) :
    Calls Tryz.prog 45 #[.pointer (some ⟨x, 0, none⟩), .agg #[.bool false, .string (natS l.1.1), .string (natS l.1.2), .bool false, .string (natS l.2.1), .string (natS l.2.2)]] w (fun e w' => e = .returned (.int .i64 0) ∧ ∃ v', Lam w' B x v' (putL L l Kp) ∧ But (fun k => k = x ∨ v.ownBlock = some k) w w' ∧ (v'.ownBlock = v.ownBlock ∨ ∃ k, v'.ownBlock = some k ∧ w.heap.size ≤ k)) := by
  obtain ⟨A, c, rfl, hA⟩ := LRow.form hL.row
  have hN : Hid (∀ W, Blk W x 103 #[.bool true, .slice A L.length c] → Calls Tryz.prog 76 #[.pointer (some ⟨x, 0, none⟩)] W (RetVal (.bool false) W)) := Lib.hid (fun W h => lnone_any x true _ W h)
  have hCk := Lib.hid (fun W => lchk_ok l hl hlt W)
  have hX : Hid (∀ (t : Nat) (m : Lf) (b : Bool), t < L.length → m = L[t]! → b = partsP l m.1 m.2 → ∀ W, Calls Tryz.prog 66 #[.agg #[.bool false, .string (natS l.1.1), .string (natS l.1.2), .bool false, .string (natS l.2.1), .string (natS l.2.2)], .agg #[.bool false, .string (natS m.1.1), .string (natS m.1.2), .bool false, .string (natS m.2.1), .string (natS m.2.2)]] W (RetVal (.bool b) W)) := Lib.hid (fun t m b ht hm hb W => by
    subst hm hb
    exact lcrosses_any l _ W hl (hM _ (by rw [getElem!_pos L t ht]; exact List.getElem_mem ht)))
  have hLm := Lib.hid hL
  obtain ⟨n, hn⟩ : ∃ n, n = L.length := ⟨_, rfl⟩
  have hKn : Kp ≤ n := by rw [hn]; exact hP.le
  have hn4 : n ≤ 1048576 := by omega
  obtain ⟨hs, hhs⟩ : ∃ b, b = decide (Kp < L.length ∧ L[Kp]! = l) := ⟨_, rfl⟩
  have hPl : Hid (∀ W, Lam W B x (.slice A L.length c) L → Calls Tryz.prog 92 #[.pointer (some ⟨x, 0, none⟩), .agg #[.bool false, .string (natS l.1.1), .string (natS l.1.2), .bool false, .string (natS l.2.1), .string (natS l.2.2)]] W (RetVal (.tuple #[.int .i64 (Kp : Int), .bool hs]) W)) := Lib.hid (fun W h => by rw [hhs]; exact lplace_any B x Kp _ L l W h hl hM hP (by omega))
  obtain rfl : hs = false := by rw [hhs]; exact decide_eq_false hhas
  clear hhs hhas
  have hNC := Lib.hid hcr
  clear hcr
  have hIn := Lib.hid hI
  clear hI
  have hBB := Lib.hid hBw
  have hXV := Lib.hid hxv
  have hVB := Lib.hid (fun k (h : (Value.slice A L.length c).ownBlock = some k) => (World.ownsRow.lt hL.row k h).2)
  clear hBw hxv
  have hBW : Below w.heap.size w (w.alloc (.cells #[.bool false, .string (natS l.1.1), .string (natS l.1.2), .bool false, .string (natS l.2.1), .string (natS l.2.2)] 38)) := ((Below.refl _ w).alloc (Nat.le_refl _) _)
  have kk0 := (Blk.new w 38 #[.bool false, .string (natS l.1.1), .string (natS l.1.2), .bool false, .string (natS l.2.1), .string (natS l.2.2)])
  have K := Lib.hid (KeepT.one kk0)
  have hB := Lib.hid hBW
  clear hBW kk0
  replace hLm := Lib.hid (hLm.out.alloc (.cells #[.bool false, .string (natS l.1.1), .string (natS l.1.2), .bool false, .string (natS l.2.1), .string (natS l.2.2)] 38))
  go_enter Tryz.func45, Tryz.ntmps45
  go_upto_region 1 with fail
  generalize hW : (w.alloc (.cells #[.bool false, .string (natS l.1.1), .string (natS l.1.2), .bool false, .string (natS l.2.1), .string (natS l.2.2)] 38)) = w1 at hB K hLm ⊢
  clear hW hL hl hlt hM hP
  skip
  replace hn := Lib.hid hn
  go_wp2_with fail
  refine (hN.out _ hLm.out.blk).mono ?_
  rintro en w2 ⟨rfl, hb⟩
  replace hB := Lib.hid (hB.out.trans (hb.mono hB.out.size))
  replace K := Lib.hid ((K.out.below hb))
  replace hLm := Lib.hid ((hLm.out.below hb))
  clear  hb hN
  have ll0 : w2.cell? ⟨w.heap.size, 0, none⟩ = some (.bool false) := (K.out.at_ 0 rfl).cell 0
  have ll1 : w2.cell? ⟨w.heap.size, 1, none⟩ = some (.string (natS l.1.1)) := (K.out.at_ 0 rfl).cell 1
  have ll2 : w2.cell? ⟨w.heap.size, 2, none⟩ = some (.string (natS l.1.2)) := (K.out.at_ 0 rfl).cell 2
  have ll3 : w2.cell? ⟨w.heap.size, 3, none⟩ = some (.bool false) := (K.out.at_ 0 rfl).cell 3
  have ll4 : w2.cell? ⟨w.heap.size, 4, none⟩ = some (.string (natS l.2.1)) := (K.out.at_ 0 rfl).cell 4
  have ll5 : w2.cell? ⟨w.heap.size, 5, none⟩ = some (.string (natS l.2.2)) := (K.out.at_ 0 rfl).cell 5
  go_wp2_with fail
  refine (hCk.out _).mono ?_
  rintro en w3 ⟨rfl, hb⟩
  replace hB := Lib.hid (hB.out.trans (hb.mono hB.out.size))
  replace K := Lib.hid ((K.out.below hb))
  replace hLm := Lib.hid ((hLm.out.below hb))
  clear ll0 ll1 ll2 ll3 ll4 ll5 hb hCk
  have y1 : w3.cell? ⟨x, 1, none⟩ = some (.slice A n c) := by rw [hn.out]; exact hLm.out.blk.cell 1
  go_wp2
  clear y1
  go_loopg [22] n (fun kx s22 wr => ∃ i : Nat, s22 = .int .i64 (i : Int) ∧ i ≤ n ∧ n - i ≤ kx ∧ Hid (∀ t, t < i → partsP l L[t]!.1 L[t]!.2 = false) ∧ Hid (Below w3.heap.size w3 wr))
  case atStart => exact ⟨0, rfl, Nat.zero_le _, Nat.le_refl _, Lib.hid (fun t ht => absurd ht (Nat.not_lt_zero _)), Lib.hid (Below.refl _ _)⟩
  case round =>
    obtain ⟨i, rfl, hin, hg, I, hb⟩ := hrel
    by_cases hlt : i < n
    case pos =>
      have hil : i < L.length := by rw [← hn.out]; exact hlt
      obtain ⟨g, rfl⟩ := hA (by omega)
      clear hA
      obtain ⟨m, hm⟩ : ∃ m, m = L[i]! := ⟨_, rfl⟩
      obtain ⟨b, hbm⟩ : ∃ b, b = partsP l m.1 m.2 := ⟨_, rfl⟩
      have hXi := Lib.hid (hX.out i m b hil hm hbm)
      have hC := LRow.cell (hLm.out.below hb.out).row hil
      rw [← hm] at hC
      have m0 : wr.cell? ⟨g, i * 6, none⟩ = some (.bool false) := hC 0 _ rfl
      have m1 : wr.cell? ⟨g, i * 6 + 1, none⟩ = some (.string (natS m.1.1)) := hC 1 _ rfl
      have m2 : wr.cell? ⟨g, i * 6 + 2, none⟩ = some (.string (natS m.1.2)) := hC 2 _ rfl
      have m3 : wr.cell? ⟨g, i * 6 + 3, none⟩ = some (.bool false) := hC 3 _ rfl
      have m4 : wr.cell? ⟨g, i * 6 + 4, none⟩ = some (.string (natS m.2.1)) := hC 4 _ rfl
      have m5 : wr.cell? ⟨g, i * 6 + 5, none⟩ = some (.string (natS m.2.2)) := hC 5 _ rfl
      clear hC hil
      have hiz : (i : Int) < (n : Int) := by omega
      have hb2 := Lib.hid (hb.out.alloc hb.out.size (.cells #[.bool false, .string (natS m.1.1), .string (natS m.1.2), .bool false, .string (natS m.2.1), .string (natS m.2.2)] 38))
      have KW := Lib.hid (((K.out.below hb.out).alloc (.cells #[.bool false, .string (natS m.1.1), .string (natS m.1.2), .bool false, .string (natS m.2.1), .string (natS m.2.2)] 38)).snoc (Blk.new wr 38 #[.bool false, .string (natS m.1.1), .string (natS m.1.2), .bool false, .string (natS m.2.1), .string (natS m.2.2)]))
      replace I := Lib.hid I
      replace hm := Lib.hid hm
      replace hbm := Lib.hid hbm
      go_upto_region 9 with fail
      generalize hW : wr.alloc (.cells #[.bool false, .string (natS m.1.1), .string (natS m.1.2), .bool false, .string (natS m.2.1), .string (natS m.2.2)] 38) = wa at hb2 KW ⊢
      generalize hgg : wr.heap.size = ga at KW ⊢
      clear hW hgg m0 m1 m2 m3 m4 m5 hiz hb
      have ll0 : wa.cell? ⟨w.heap.size, 0, none⟩ = some (.bool false) := (KW.out.at_ 0 rfl).cell 0
      have ll1 : wa.cell? ⟨w.heap.size, 1, none⟩ = some (.string (natS l.1.1)) := (KW.out.at_ 0 rfl).cell 1
      have ll2 : wa.cell? ⟨w.heap.size, 2, none⟩ = some (.string (natS l.1.2)) := (KW.out.at_ 0 rfl).cell 2
      have ll3 : wa.cell? ⟨w.heap.size, 3, none⟩ = some (.bool false) := (KW.out.at_ 0 rfl).cell 3
      have ll4 : wa.cell? ⟨w.heap.size, 4, none⟩ = some (.string (natS l.2.1)) := (KW.out.at_ 0 rfl).cell 4
      have ll5 : wa.cell? ⟨w.heap.size, 5, none⟩ = some (.string (natS l.2.2)) := (KW.out.at_ 0 rfl).cell 5
      have mm0 : wa.cell? ⟨ga, 0, none⟩ = some (.bool false) := (KW.out.at_ 1 rfl).cell 0
      have mm1 : wa.cell? ⟨ga, 1, none⟩ = some (.string (natS m.1.1)) := (KW.out.at_ 1 rfl).cell 1
      have mm2 : wa.cell? ⟨ga, 2, none⟩ = some (.string (natS m.1.2)) := (KW.out.at_ 1 rfl).cell 2
      have mm3 : wa.cell? ⟨ga, 3, none⟩ = some (.bool false) := (KW.out.at_ 1 rfl).cell 3
      have mm4 : wa.cell? ⟨ga, 4, none⟩ = some (.string (natS m.2.1)) := (KW.out.at_ 1 rfl).cell 4
      have mm5 : wa.cell? ⟨ga, 5, none⟩ = some (.string (natS m.2.2)) := (KW.out.at_ 1 rfl).cell 5
      cases b
      case true =>
        exact absurd (hNC.out i (by rw [← hn.out]; exact hlt)) (by rw [← hm.out, ← hbm.out]; decide)
      case false =>
        go_wp2_with (go_at_call 66; refine (hXi.out _).mono ?_; rintro en wc ⟨rfl, hb⟩; replace hb2 := Lib.hid (hb2.out.trans (hb.mono hb2.out.size)); clear hb)
        go_roundg (n - (i + 1))
        case measure => omega
        case rel =>
          exact ⟨i + 1, by go_num, by omega, Nat.le_refl _, Lib.hid (fun t ht => by
            rcases Nat.lt_or_ge t i with h | h
            · exact I.out t h
            · obtain rfl : t = i := by omega
              rw [← hm.out, ← hbm.out]), hb2⟩
    case neg =>
      obtain rfl : i = n := by omega
      replace hB := Lib.hid (hB.out.trans (hb.out.mono hB.out.size))
      replace K := Lib.hid (K.out.below hb.out)
      replace hLm := Lib.hid (hLm.out.below hb.out)
      clear hb hA hX I hg
      have ll0 : wr.cell? ⟨w.heap.size, 0, none⟩ = some (.bool false) := (K.out.at_ 0 rfl).cell 0
      have ll1 : wr.cell? ⟨w.heap.size, 1, none⟩ = some (.string (natS l.1.1)) := (K.out.at_ 0 rfl).cell 1
      have ll2 : wr.cell? ⟨w.heap.size, 2, none⟩ = some (.string (natS l.1.2)) := (K.out.at_ 0 rfl).cell 2
      have ll3 : wr.cell? ⟨w.heap.size, 3, none⟩ = some (.bool false) := (K.out.at_ 0 rfl).cell 3
      have ll4 : wr.cell? ⟨w.heap.size, 4, none⟩ = some (.string (natS l.2.1)) := (K.out.at_ 0 rfl).cell 4
      have ll5 : wr.cell? ⟨w.heap.size, 5, none⟩ = some (.string (natS l.2.2)) := (K.out.at_ 0 rfl).cell 5
      go_wp2_with fail
      refine (hPl.out _ hLm.out).mono ?_
      rintro en w4 ⟨rfl, hb⟩
      replace hB := Lib.hid (hB.out.trans (hb.mono hB.out.size))
      replace K := Lib.hid ((K.out.below hb))
      replace hLm := Lib.hid ((hLm.out.below hb))
      clear ll0 ll1 ll2 ll3 ll4 ll5 hb hPl
      have y1 : w4.cell? ⟨x, 1, none⟩ = some (.slice A i c) := by rw [hn.out]; exact hLm.out.blk.cell 1
      have hn5 : ¬ 4096 ≤ i := by rw [hn.out]; omega
      have ll0 : w4.cell? ⟨w.heap.size, 0, none⟩ = some (.bool false) := (K.out.at_ 0 rfl).cell 0
      have ll1 : w4.cell? ⟨w.heap.size, 1, none⟩ = some (.string (natS l.1.1)) := (K.out.at_ 0 rfl).cell 1
      have ll2 : w4.cell? ⟨w.heap.size, 2, none⟩ = some (.string (natS l.1.2)) := (K.out.at_ 0 rfl).cell 2
      have ll3 : w4.cell? ⟨w.heap.size, 3, none⟩ = some (.bool false) := (K.out.at_ 0 rfl).cell 3
      have ll4 : w4.cell? ⟨w.heap.size, 4, none⟩ = some (.string (natS l.2.1)) := (K.out.at_ 0 rfl).cell 4
      have ll5 : w4.cell? ⟨w.heap.size, 5, none⟩ = some (.string (natS l.2.2)) := (K.out.at_ 0 rfl).cell 5
      go_upto_region 17 with fail
      have hIn2 : Hid (Calls Tryz.prog 94 #[.slice A i c, .int .i64 (Kp : Int), .slice (some ⟨w4.heap.size, 0, none⟩) 1 1] (w4.alloc (.cells #[.bool false, .string (natS l.1.1), .string (natS l.1.2), .bool false, .string (natS l.2.1), .string (natS l.2.2)] 38)).drew (fun e w' => ∃ v', e = .returned v' ∧ Hid (LRow w' B v' (putL L l Kp)) ∧ Hid ((w4.alloc (.cells #[.bool false, .string (natS l.1.1), .string (natS l.1.2), .bool false, .string (natS l.2.1), .string (natS l.2.2)] 38)).drew.grownBy w' (Value.slice A i c).ownBlock) ∧ Hid (v'.ownBlock = (Value.slice A i c).ownBlock ∨ ∃ k, v'.ownBlock = some k ∧ (w4.alloc (.cells #[.bool false, .string (natS l.1.1), .string (natS l.1.2), .bool false, .string (natS l.2.1), .string (natS l.2.2)] 38)).drew.heap.size ≤ k))) := Lib.hid (by
        have h := hIn.out w4.heap.size (w4.alloc (.cells #[.bool false, .string (natS l.1.1), .string (natS l.1.2), .bool false, .string (natS l.2.1), .string (natS l.2.2)] 38)).drew ((LRow.alloc hLm.out.row _).below ((Below.refl _ _).drew)) (Blk.drew (Blk.new w4 38 #[.bool false, .string (natS l.1.1), .string (natS l.1.2), .bool false, .string (natS l.2.1), .string (natS l.2.2)])) (by have h1 := hBB.out; have h2 := hB.out.size; show B ≤ (w4.alloc (.cells #[.bool false, .string (natS l.1.1), .string (natS l.1.2), .bool false, .string (natS l.2.1), .string (natS l.2.2)] 38)).heap.size; simp; omega)
        rw [hn.out]
        exact h)
      have hX4 : Hid (Blk w4 x 103 #[.bool true, .slice A i c]) := Lib.hid (by rw [hn.out]; exact hLm.out.blk)
      have hXV2 : Hid ((Value.slice A i c).ownBlock ≠ some x) := Lib.hid (by rw [hn.out]; exact hXV.out)
      have y2 : (w4.alloc (.cells #[.bool false, .string (natS l.1.1), .string (natS l.1.2), .bool false, .string (natS l.2.1), .string (natS l.2.2)] 38)).cell? ⟨x, 1, none⟩ = some (.slice A i c) := (Blk.alloc hX4.out (.cells #[.bool false, .string (natS l.1.1), .string (natS l.1.2), .bool false, .string (natS l.2.1), .string (natS l.2.2)] 38)).cell 1
      have hBs := Lib.hid hLm.out.base
      have K4 := Lib.hid (K.out.at_ 0 rfl)
      have hVB2 : Hid ((Value.slice A i c).ownBlock ≠ some w.heap.size) := Lib.hid (by rw [hn.out]; exact fun e => Nat.lt_irrefl _ (hVB.out _ e))
      clear hIn hLm K hXV hVB
      go_region_with (go_at_call 94; (with_reducible refine hIn2.out.mono ?_); rintro en w5 ⟨v5, rfl, hr5, hg5, hl5⟩; obtain ⟨A5, c5, hv5, -⟩ := LRow.form hr5.out; subst hv5; have hX5 := Blk.grown (Blk.drew (Blk.alloc hX4.out (.cells #[.bool false, .string (natS l.1.1), .string (natS l.1.2), .bool false, .string (natS l.2.1), .string (natS l.2.2)] 38))) hg5.out (fun e => hXV2.out e.symm); have z1 : w5.cell? ⟨x, 1, none⟩ = some (.slice A i c) := hX5.cell 1; have zf := hX5.frozen 1; have hK5 := Blk.grown (Blk.drew (Blk.alloc K4.out (.cells #[.bool false, .string (natS l.1.1), .string (natS l.1.2), .bool false, .string (natS l.2.1), .string (natS l.2.2)] 38))) hg5.out (fun e => hVB2.out e.symm); have zl0 : w5.cell? ⟨w.heap.size, 0, none⟩ = some (.bool false) := hK5.cell 0; have zl1 : w5.cell? ⟨w.heap.size, 1, none⟩ = some (.string (natS l.1.1)) := hK5.cell 1; have zl2 : w5.cell? ⟨w.heap.size, 2, none⟩ = some (.string (natS l.1.2)) := hK5.cell 2; have zl3 : w5.cell? ⟨w.heap.size, 3, none⟩ = some (.bool false) := hK5.cell 3; have zl4 : w5.cell? ⟨w.heap.size, 4, none⟩ = some (.string (natS l.2.1)) := hK5.cell 4; have zl5 : w5.cell? ⟨w.heap.size, 5, none⟩ = some (.string (natS l.2.2)) := hK5.cell 5; replace hX5 := Lib.hid hX5)
      all_goals
        clear ll0 ll1 ll2 ll3 ll4 ll5 y1 y2 z1 zf zl0 zl1 zl2 zl3 zl4 zl5 hK5
        go_wp2_with fail
        go_ret
        refine ⟨rfl, _, ⟨Blk.set_ hX5.out 1 _, LRow.set hr5.out hX5.out, hBs.out⟩, ?_, ?_⟩
        rotate_left
        · rcases hl5.out with h | ⟨k, h, h3⟩
          · exact .inl (h.trans (by rw [hn.out]))
          · refine .inr ⟨k, h, ?_⟩
            have h4 := hB.out.size
            have h5 : w4.heap.size ≤ k := Nat.le_trans (by show w4.heap.size ≤ (w4.alloc _).heap.size; simp) h3
            exact Nat.le_trans h4 h5
        have q1 : But (fun k => k = x ∨ (Value.slice A L.length c).ownBlock = some k) w w4 := But.of_below hB.out
        have q2 := (q1.alloc (.cells #[.bool false, .string (natS l.1.1), .string (natS l.1.2), .bool false, .string (natS l.2.1), .string (natS l.2.2)] 38)).below ((Below.refl _ _).drew)
        have q3 := q2.grown hg5.out (fun k hk => .inr (by rw [← hn.out]; exact hk))
        exact q3.setCell (.inl (.inl rfl)) _
set_option maxRecDepth 100000 in
theorem lAdd_leafL (B x : Nat) (v : Value) (L : List Lf) (l : Lf) (w : World) (hS : LamS w B x v L) (hl : Lfp l) :
    Calls Tryz.prog 45 #[.pointer (some ⟨x, 0, none⟩), .agg #[.bool false, .string (natS l.1.1), .string (natS l.1.2), .bool false, .string (natS l.2.1), .string (natS l.2.2)]] w fun e w' => e = .returned (.int .i64 (addL L l).2) ∧ ∃ v', LamS w' B x v' (addL L l).1 ∧ But (fun k => k = x ∨ v.ownBlock = some k) w w' ∧ (v'.ownBlock = v.ownBlock ∨ ∃ k, v'.ownBlock = some k ∧ w.heap.size ≤ k) := by
  have hP := Plc.of_up hS.ok.ang hl.1 hS.ok.up
  have hhas := hP.has hS.ok.ang hS.ok.up (l := l)
  have hbase := hS.base
  have hapart := hS.lam.apart
  obtain ⟨hL, hok, hlen⟩ := hS
  by_cases h1 : l ∈ L
  · have hx : noCross l L := noCross_iff.2 (by
      rw [Bool.eq_false_iff]
      intro e
      obtain ⟨m, hm, e⟩ := List.any_eq_true.1 e
      rw [hok.nc l m h1 hm] at e
      cases e)
    refine (lAdd_has B x _ v L l w hL hl.1 hl.2 hok.ang hP hlen hx (hhas.2 h1)).mono ?_
    rintro e w' ⟨rfl, hb⟩
    rw [show addL L l = (L, 0) by unfold addL; rw [if_pos h1]]
    exact ⟨rfl, v, ⟨hL.below hb, hok, hlen⟩, But.of_below hb, .inl rfl⟩
  by_cases h2 : L.any (crossP l) = true
  · refine (lAdd_cross B x _ v L l w hL hl.1 hl.2 hok.ang hP hlen (fun h => by rw [noCross_iff.1 h] at h2; cases h2)).mono ?_
    rintro e w' ⟨rfl, hb⟩
    rw [show addL L l = (L, 231) by unfold addL; rw [if_neg h1, if_pos h2]]
    exact ⟨rfl, v, ⟨hL.below hb, hok, hlen⟩, But.of_below hb, .inl rfl⟩
  have hx : noCross l L := noCross_iff.2 (by rwa [Bool.eq_false_iff])
  by_cases h3 : 4096 ≤ L.length
  · refine (lAdd_long B x _ v L l w hL hl.1 hl.2 hok.ang hP hlen hx (fun h => h1 (hhas.1 h)) h3).mono ?_
    rintro e w' ⟨rfl, hb⟩
    rw [show addL L l = (L, 4) by unfold addL; rw [if_neg h1, if_neg h2, if_pos h3]]
    exact ⟨rfl, v, ⟨hL.below hb, hok, hlen⟩, But.of_below hb, .inl rfl⟩
  · refine (lAdd_newL B x _ v L l w hL hl.1 hl.2 hok.ang hP hlen hx (fun h => h1 (hhas.1 h)) (by omega) (insLawL_any B v L l _ hP.le (by omega)) hbase hapart).mono ?_
    rintro e w' ⟨rfl, v', k1, k2, k3⟩
    have hA := addL_ok hok hl
    have hN := addL_len (l := l) hlen
    rw [addL_putL h1 h2 h3] at hA hN ⊢
    exact ⟨rfl, v', ⟨k1, hA, hN⟩, k2, k3⟩
end Go.Proofs.YtoaggmegmgdgbaaGreat
