import Derived.Test.YtoaggmegmgdgbaaGreatGapA
import Derived.Deep.AppendLies
import Derived.Deep.RegionLaw
import Derived.Deep.CutBlock
import Derived.Deep.CutRange
namespace Go.Proofs.YtoaggmegmgdgbaaGreat
open Go.RowKit Go.Sort Go.Maps
theorem info_ratG : (Tryz.prog.info? 26).map (fun i => (i.zero, i.size, i.bytes)) = some (some (.agg #[.bool false, .string ⟨#[]⟩, .string ⟨#[]⟩]), 3, 40) := by kernel_rfl
theorem info_arcG : (Tryz.prog.info? 74).map (fun i => (i.zero, i.size, i.bytes)) = some (some (.agg #[.bool false, .string ⟨#[]⟩, .string ⟨#[]⟩, .bool false, .string ⟨#[]⟩, .string ⟨#[]⟩]), 6, 80) := by kernel_rfl
theorem info_sarcG : (Tryz.prog.info? 71).map (fun i => (i.zero, i.size, i.bytes)) = some (some (.slice none 0 0), 1, 24) := by kernel_rfl
theorem info_intG : (Tryz.prog.info? 3).map (fun i => (i.zero, i.size, i.bytes)) = some (some (.int .i64 0), 1, 8) := by kernel_rfl
theorem lawI : Keyed Tryz.prog 3 := int_keyed Tryz.underlying3
theorem zeroI (w : World) : (zeroValue 3).run Tryz.prog w = .ok (.int .i64 0) w := by kernel_rfl
theorem news_new (W : World) (T : TypeId) (cs : List Value) : ∀ (j : Nat) (u : Value), cs[j]? = some u → (W.alloc (.cells cs.toArray T)).cell? ((⟨W.heap.size, 0, none⟩ : Addr).add j) = some u := fun j u h => by
  rw [addr0_add, (Blk.new W T cs.toArray).cell j]
  simpa using h
theorem encP_one (p : PT) : ∀ u ∈ encP p, u.oneCell' = true := fun u hu => by
  simp only [encP, List.mem_cons, List.not_mem_nil, or_false] at hu
  rcases hu with rfl | rfl | rfl <;> rfl
theorem own_form {w : World} {B : Nat} {e : TypeId} {size n : Nat} {v : Value} {xs : List Value} (h : w.ownsRow B e size v n xs) : ∃ A c, v = .slice A n c ∧ (A = none → c = 0) ∧ (0 < n → ∃ g, A = some ⟨g, 0, none⟩) := by
  rcases h.2 with ⟨rfl, h0⟩ | ⟨g, cap, cur, rfl, -⟩
  · exact ⟨none, 0, by rw [h0], fun _ => rfl, fun h => by omega⟩
  · exact ⟨_, _, rfl, (fun h => by cases h), fun _ => ⟨g, rfl⟩⟩
theorem RdP.of_row {w : World} {B : Nat} {v : Value} {L : List PT} (h : w.ownsRow B 26 3 v L.length (L.flatMap encP)) : RdP w v L := by
  obtain ⟨A, c, rfl, hc, hs⟩ := own_form h
  refine ⟨A, c, rfl, hc, fun ad had j u hu => ?_, fun h0 => by obtain ⟨g, rfl⟩ := hs h0; rfl⟩
  subst had
  have hpos : 0 < L.length := by
    rcases L with _ | ⟨a, r⟩
    · simp at hu
    · simp
  obtain ⟨g, e⟩ := hs hpos
  injection e with e
  subst e
  exact World.ownsRow.cells h (g := g) rfl j u hu
theorem far_cell {w w1 : World} {o : Obj} {row : Option Nat} {a : Addr} {v : Value} (hg : (w.drew.alloc o).grownBy w1 row) (h : w.cell? a = some v) (hf : w.frozen? a = false) (hne : some a.block ≠ row) : w1.cell? a = some v ∧ w1.frozen? a = false := by
  have hlt := block_lt_of_cell h
  have h1 : (w.drew.alloc o).cell? a = some v := Lib.cell?_alloc_some o h
  refine ⟨hg.cell h1 hne, ?_⟩
  rw [hg.frozen_far a (by simpa using Nat.lt_succ_of_lt hlt) hne, (World.grownBy_alloc w.drew o none).frozen_far a hlt (by simp)]
  exact hf
theorem modify_set {α : Type} (l : List α) (i : Nat) (g : α → α) (hi : i < l.length) : l.modify i g = l.set i (g l[i]) := by
  apply List.ext_getElem
  · simp
  · intro j h1 h2
    rw [List.getElem_modify, List.getElem_set]
    split
    · rename_i e; subst e; rfl
    · rfl
theorem row_cellP {w : World} {B g n cap : Nat} {L : List PT} (h : w.ownsRow B 26 3 (.slice (some ⟨g, 0, none⟩) n cap) n (L.flatMap encP)) {i : Nat} (hi : i < L.length) (hn : n = L.length) : ∀ (j : Nat) (u : Value), (encP L[i]!)[j]? = some u → w.cell? ⟨g, i * 3 + j, none⟩ = some u := fun j u hu => by
  subst hn
  have hj : j < 3 := by
    obtain ⟨h1, -⟩ := List.getElem?_eq_some_iff.1 hu
    rwa [encP_len] at h1
  have e := flatMap_get encP 3 encP_len L i j hi hj
  rw [← getElem!_pos L i hi, hu] at e
  rw [World.ownsRow.cellAt h _ (by omega)]
  exact e
set_option maxRecDepth 100000 in
set_option maxHeartbeats 8000000 in
theorem lGaps_some (B x : Nat) (v : Value) (L : List Lf) (w : World) (hL : Lam w B x v L) (hM : ∀ m, m ∈ L → AngL m) (hlen : L.length ≤ 4096) (hne : L ≠ []) :
    Calls Tryz.prog 28 #[.pointer (some ⟨x, 0, none⟩)] w (fun e w' => ∃ v' vs, e = .returned v' ∧ Hid (NestP w' w.heap.size 71 74 6 leafE [] v' vs (gapsL L)) ∧ Hid (Below w.heap.size w w')) := by
  obtain ⟨A, c, rfl, hA⟩ := LRow.form hL.row
  obtain ⟨i0, hi, hz0, hz1, hz2⟩ := info_parts info_ratG
  obtain ⟨i1, ji, jz0, jz1, jz2⟩ := info_parts info_arcG
  obtain ⟨i2, si, sz0, sz1, sz2⟩ := info_parts info_sarcG
  obtain ⟨i3, ii, iz0, iz1, iz2⟩ := info_parts info_intG
  have hmm := @run_makeMap Tryz.prog
  have hN : Hid (∀ W, Blk W x 103 #[.bool true, .slice A L.length c] → Calls Tryz.prog 76 #[.pointer (some ⟨x, 0, none⟩)] W (RetVal (.bool false) W)) := Lib.hid (fun W h => lnone_any x true _ W h)
  have hOnce := Lib.hid (fun (W : World) (v : Value) (h : RdP W v (endsL L)) => lonce_any v (endsL L) W h (endsL_ang hM) (by rw [endsL_len]; omega))
  have hLm := Lib.hid hL
  obtain ⟨n, hn⟩ : ∃ n, n = L.length := ⟨_, rfl⟩
  obtain ⟨E, hE⟩ : ∃ E, E = riseL (endsL L) := ⟨_, rfl⟩
  obtain ⟨gapR, hgapR⟩ : ∃ r, r = gapsL L := ⟨_, rfl⟩
  rw [← hgapR]
  have hn4 : n ≤ 4096 := by omega
  have hnp : 0 < n := by rw [hn]; exact List.length_pos_iff.2 hne
  obtain ⟨g, rfl⟩ := hA (by omega)
  have hz : Hid (natS 0 = ⟨#[]⟩ ∧ natS 1 = ⟨#[1]⟩) := Lib.hid ⟨rfl, rfl⟩
  have hB := Lib.hid (Below.refl w.heap.size w)
  rw [← hn] at hN
  replace hn := Lib.hid hn
  replace hE := Lib.hid hE
  replace hgapR := Lib.hid hgapR
  clear hL hA
  go_enter Tryz.func28, Tryz.ntmps28
  go_wp2_with fail
  refine (hN.out _ (by rw [hn.out]; exact hLm.out.blk)).mono ?_
  rintro en w2 ⟨rfl, hb⟩
  replace hB := Lib.hid (hB.out.trans (hb.mono hB.out.size))
  clear hb hN
  go_upto_region 4 with fail
  generalize hW : w2.alloc (.cells #[.bool false, .string ⟨#[]⟩, .string ⟨#[1]⟩] 26) = w3
  generalize hg3 : w2.heap.size = g3
  replace hB : Hid (Below w.heap.size w w3) := Lib.hid (by rw [← hW]; exact hB.out.alloc hB.out.size _)
  clear hW hg3 w2
  have y1 : w3.cell? ⟨x, 1, none⟩ = some (.slice (some ⟨g, 0, none⟩) n c) := by rw [hn.out]; exact (hLm.out.below hB.out).blk.cell 1
  have hn0 : ¬ n = 0 := by omega
  have hn0z : ((n : Int) == 0) = false := by simp; omega
  go_wp2_with fail
  clear y1 hn0z
  go_loopg [37, 4] n (fun kx s37 s4 wr => ∃ (i : Nat) (v4 : Value), s37 = .int .i64 (i : Int) ∧ v4 = s4 ∧ i ≤ n ∧ n - i ≤ kx ∧ Hid (wr.ownsRow w.heap.size 26 3 v4 (2 * i) ((endsL (L.take i)).flatMap encP)) ∧ Hid (Below w.heap.size w wr))
  case atStart => exact ⟨0, _, rfl, rfl, Nat.zero_le _, Nat.le_refl _, Lib.hid (World.ownsRow_nil _ _ _ _), hB⟩
  case round =>
    clear hB
    obtain ⟨i, v4, rfl, rfl, hin, hg, hown, hB⟩ := hrel
    by_cases hlt : i < n
    case pos =>
      have hil : i < L.length := by rw [← hn.out]; exact hlt
      obtain ⟨m, hm⟩ : ∃ m, m = L[i]! := ⟨_, rfl⟩
      have hC := LRow.cell (by have h := (hLm.out.below hB.out).row; exact h) hil
      rw [← hm] at hC
      have m0 : wr.cell? ⟨g, i * 6, none⟩ = some (.bool false) := hC 0 _ rfl
      have m1 : wr.cell? ⟨g, i * 6 + 1, none⟩ = some (.string (natS m.1.1)) := hC 1 _ rfl
      have m2 : wr.cell? ⟨g, i * 6 + 2, none⟩ = some (.string (natS m.1.2)) := hC 2 _ rfl
      have m3 : wr.cell? ⟨g, i * 6 + 3, none⟩ = some (.bool false) := hC 3 _ rfl
      have m4 : wr.cell? ⟨g, i * 6 + 4, none⟩ = some (.string (natS m.2.1)) := hC 4 _ rfl
      have m5 : wr.cell? ⟨g, i * 6 + 5, none⟩ = some (.string (natS m.2.2)) := hC 5 _ rfl
      clear hC
      have hiz : (i : Int) < (n : Int) := by omega
      replace hm := Lib.hid hm
      go_upto_region 10 with fail
      have hKm := Blk.new wr 38 #[.bool false, .string (natS m.1.1), .string (natS m.1.2), .bool false, .string (natS m.2.1), .string (natS m.2.2)]
      generalize hW : wr.alloc (.cells #[.bool false, .string (natS m.1.1), .string (natS m.1.2), .bool false, .string (natS m.2.1), .string (natS m.2.2)] 38) = wa at hKm ⊢
      replace hB : Hid (Below w.heap.size w wa) := Lib.hid (by rw [← hW]; exact hB.out.alloc hB.out.size _)
      replace hown : Hid (wa.ownsRow w.heap.size 26 3 v4 (2 * i) ((endsL (L.take i)).flatMap encP)) := Lib.hid (by rw [← hW]; exact hown.out.alloc _)
      generalize hga : wr.heap.size = ga at hKm ⊢
      clear hW hga m0 m1 m2 m3 m4 m5 wr
      have q0 : wa.cell? ⟨ga, 0, none⟩ = some (.bool false) := hKm.cell 0
      have q1 : wa.cell? ⟨ga, 1, none⟩ = some (.string (natS m.1.1)) := hKm.cell 1
      have q2 : wa.cell? ⟨ga, 2, none⟩ = some (.string (natS m.1.2)) := hKm.cell 2
      have q3 : wa.cell? ⟨ga, 3, none⟩ = some (.bool false) := hKm.cell 3
      have q4 : wa.cell? ⟨ga, 4, none⟩ = some (.string (natS m.2.1)) := hKm.cell 4
      have q5 : wa.cell? ⟨ga, 5, none⟩ = some (.string (natS m.2.2)) := hKm.cell 5
      clear hKm
      have hBs := hB.out.size
      go_wp2_with (at_builtin; refine wpList_append_own _ rfl _ _ 22 rfl w.heap.size 26 i0 (.agg #[.bool false, .string ⟨#[]⟩, .string ⟨#[]⟩]) 3 40 Tryz.underlying22 hi hz0 hz1 hz2 rfl (by decide) _ _ _ rfl (hown.out.alloc _) ⟨wa.heap.size, 0, none⟩ 2 2 (encP m.1 ++ encP m.2) rfl rfl (news_new wa 26 (encP m.1 ++ encP m.2)) (fun u hu => (List.mem_append.1 hu).elim (encP_one _ u) (encP_one _ u)) (by unfold maxLen; omega) (by omega) (by simp; omega) ?_; intro v5 w4 hown5 hgrow5 _)
      replace hown5 : Hid (w4.ownsRow w.heap.size 26 3 v5 (2 * (i + 1)) ((endsL (L.take (i + 1))).flatMap encP)) := Lib.hid (by
        have e : L.take (i + 1) = L.take i ++ [m] := by
          rw [hm.out, List.take_add_one, List.getElem?_eq_getElem (by rw [← hn.out]; exact hlt), getElem!_pos L i (by rw [← hn.out]; exact hlt)]; rfl
        rw [e, endsL_snoc, List.flatMap_append]
        have h : (encP m.1 ++ encP m.2) = [m.1, m.2].flatMap encP := by simp [List.flatMap_cons]
        rw [← h]
        exact hown5)
      have hB5 : Hid (Below w.heap.size w w4) := Lib.hid ((hB.out.alloc hB.out.size _).grown hgrow5 (by simp; omega) (fun k hk => (World.ownsRow.lt hown.out k hk).1))
      clear hgrow5
      go_roundg (n - (i + 1))
      case measure => omega
      case rel => exact ⟨i + 1, _, by go_num, rfl, by omega, Nat.le_refl _, hown5, hB5⟩
    case neg =>
      obtain rfl : n = i := by omega
      clear hg hlt
      have hown2 : wr.ownsRow w.heap.size 26 3 v4 (endsL L).length ((endsL L).flatMap encP) := by
        have h := hown.out
        rw [List.take_of_length_le (by rw [hn.out]; exact Nat.le_refl _)] at h
        rw [endsL_len, ← hn.out]
        exact h
      have hOn := Lib.hid (hOnce.out wr v4 (RdP.of_row hown2))
      clear hown hown2 hOnce
      go_wp2_with fail
      refine hOn.out.mono ?_
      rintro en w6 ⟨vE, rfl, hEo, hb⟩
      replace hEo : Hid (w6.ownsRow w.heap.size 26 3 vE E.length (E.flatMap encP)) := Lib.hid (by rw [hE.out]; exact row_mono hEo.out hB.out.size)
      replace hB := Lib.hid (hB.out.trans (hb.out.mono hB.out.size))
      clear hb hOn
      obtain ⟨nE, hnE⟩ : ∃ k, k = E.length := ⟨_, rfl⟩
      rw [← hnE] at hEo
      have hE1 : 0 < nE := by
        rw [hnE, hE.out]
        rcases L with _ | ⟨l, r⟩
        · exact absurd hn.out (by simpa using hn0)
        · exact List.length_pos_of_mem (riseL_mem.2 (show l.1 ∈ endsL (l :: r) by simp [endsL]))
      have hE2 : nE ≤ 1048576 := by
        rw [hnE, hE.out]
        have h1 := riseL_len (endsL L)
        rw [endsL_len, ← hn.out] at h1
        omega
      obtain ⟨AE, cE, rfl, -, hAE⟩ := own_form hEo.out
      obtain ⟨gE, rfl⟩ := hAE hE1
      replace hnE := Lib.hid hnE
      clear hAE
      go_upto_region 17 with fail
      have hS0 : NestP (w6.alloc (.map #[] 0)) w.heap.size 71 74 6 leafE [itRow w.heap.size 26 3 (.slice (some ⟨gE, 0, none⟩) nE cE) nE (E.flatMap encP), itRow w.heap.size 3 1 (.slice none 0 0) ([] : List Nat).length (ivs .i64 ([] : List Nat).reverse), itMap Tryz.prog 3 (plainElem (H := Unit) Tryz.prog 3) w6.heap.size 0 (mapD [])] (.slice none 0 0) [] [] := by
        have s0 : Sep w6 ([] ++ [itRow w.heap.size 26 3 (.slice (some ⟨gE, 0, none⟩) nE cE) nE (E.flatMap encP)]) := Sep.nil.snoc hEo.out (fun x hx => by simp at hx)
        have s1 := s0.snoc (a := itRow w.heap.size 3 1 (.slice none 0 0) 0 []) (World.ownsRow_nil _ _ _ _) (fun x _ k hk => by cases hk)
        have s2 := s1.newR (a := itMap Tryz.prog 3 (plainElem (H := Unit) Tryz.prog 3) w6.heap.size 0 (mapD [])) (World.grownBy_alloc w6 (.map #[] 0) none) (World.ownsMap_made _ _ _ _) (fun k hk => by injection hk with hk; omega)
        have s3 := s2.snoc (a := itRow w.heap.size 71 1 (.slice none 0 0) 0 []) (World.ownsRow_nil _ _ _ _) (fun x _ k hk => by cases hk)
        exact ⟨rfl, s3⟩
      replace hS0 := Lib.hid hS0
      have hB0s := hB.out.size
      replace hB : Hid (Below w.heap.size w (w6.alloc (.map #[] 0))) := Lib.hid (hB.out.alloc hB.out.size _)
      generalize hW : w6.alloc (.map #[] 0) = w7 at hS0 hB ⊢
      have hgmB : w.heap.size ≤ w6.heap.size := hB0s
      generalize hgm : w6.heap.size = gm at hS0 hgmB ⊢
      clear hW hgm hEo hB0s w6
      go_wp2_with fail
      go_loopg [54, 7, 9, 10] nE (fun kx s54 s7 s9 s10 wr => ∃ (k : Nat) (v7 v9 : Value) (vs : List Value), s54 = .int .i64 (k : Int) ∧ v7 = s7 ∧ v9 = s9 ∧ s10 = .int .i64 ((gapSt L k).next : Int) ∧ k ≤ nE ∧ nE - k ≤ kx ∧ Hid (NestP wr w.heap.size 71 74 6 leafE [itRow w.heap.size 26 3 (.slice (some ⟨gE, 0, none⟩) nE cE) nE (E.flatMap encP), itRow w.heap.size 3 1 v7 (gapSt L k).pile.length (ivs .i64 (gapSt L k).pile.reverse), itMap Tryz.prog 3 (plainElem (H := Unit) Tryz.prog 3) gm k (mapD (gapSt L k).keys)] v9 vs (gapSt L k).out) ∧ Hid (Below w.heap.size w wr))
      case atStart => exact ⟨0, _, _, [], rfl, rfl, rfl, rfl, Nat.zero_le _, Nat.le_refl _, hS0, hB⟩
      case round =>
        clear hB hS0
        obtain ⟨k, v7, v9, vs, rfl, rfl, rfl, rfl, hkn, hg, hS, hB⟩ := hrel
        obtain ⟨P0, hP0⟩ : ∃ P, P = (gapSt L k).pile := ⟨_, rfl⟩
        obtain ⟨nx, hnx⟩ : ∃ P, P = (gapSt L k).next := ⟨_, rfl⟩
        obtain ⟨ks, hks⟩ : ∃ P, P = (gapSt L k).keys := ⟨_, rfl⟩
        obtain ⟨out, hout⟩ : ∃ P, P = (gapSt L k).out := ⟨_, rfl⟩
        have hI := Lib.hid (gapSt_inv L k)
        have hst : Hid (gapSt L (k + 1) = stepG2 L E ⟨P0, nx, ks, out⟩ k) := Lib.hid (by rw [gapSt_succ, hP0, hnx, hks, hout, hE.out])
        have hI0 : Hid (GInv L k ⟨P0, nx, ks, out⟩) := Lib.hid (by rw [hP0, hnx, hks, hout]; exact hI.out)
        rw [← hP0, ← hks, ← hout] at hS
        rw [← hnx]
        have hnx4 : nx ≤ n := by rw [hn.out]; exact hI0.out.next
        by_cases hlt : k < nE
        case pos =>
          clear hI hP0 hnx hks
          replace hout := Lib.hid hout
          have hkE : k < E.length := by rw [← hnE.out]; exact hlt
          obtain ⟨f, hf⟩ : ∃ f, f = E[k]! := ⟨_, rfl⟩
          have hC := row_cellP (hS.out.2.get (a := itRow w.heap.size 26 3 (.slice (some ⟨gE, 0, none⟩) nE cE) nE (E.flatMap encP)) (by simp)) hkE hnE.out
          rw [← hf] at hC
          have c0 : wr.cell? ⟨gE, k * 3, none⟩ = some (.bool false) := hC 0 _ rfl
          have c1 : wr.cell? ⟨gE, k * 3 + 1, none⟩ = some (.string (natS f.1)) := hC 1 _ rfl
          have c2 : wr.cell? ⟨gE, k * 3 + 2, none⟩ = some (.string (natS f.2)) := hC 2 _ rfl
          clear hC
          replace hf := Lib.hid hf
          have hkz : (k : Int) < (nE : Int) := by omega
          go_upto_block 4 with fail
          replace hB := Lib.hid (hB.out.alloc hB.out.size (.cells #[.bool false, .string (natS f.1), .string (natS f.2)] 26))
          replace hS : Hid (NestP (wr.alloc (.cells #[.bool false, .string (natS f.1), .string (natS f.2)] 26)) w.heap.size 71 74 6 leafE [itRow w.heap.size 26 3 (.slice (some ⟨gE, 0, none⟩) nE cE) nE (E.flatMap encP), itRow w.heap.size 3 1 v7 P0.length (ivs .i64 P0.reverse), itMap Tryz.prog 3 (plainElem (H := Unit) Tryz.prog 3) gm k (mapD ks), itBlk wr.heap.size 26 #[.bool false, .string (natS f.1), .string (natS f.2)]] v9 vs out) := Lib.hid (hS.out.addNew (World.grownBy_alloc wr (.cells #[.bool false, .string (natS f.1), .string (natS f.2)] 26) none) (Blk.new wr 26 #[.bool false, .string (natS f.1), .string (natS f.2)]) (fun q hq => by injection hq with hq; exact Nat.le_of_eq hq))
          generalize hW : wr.alloc (.cells #[.bool false, .string (natS f.1), .string (natS f.2)] 26) = wa at hB hS ⊢
          generalize hgf : wr.heap.size = gf at hS ⊢
          clear hW hgf c0 c1 c2 wr
          obtain ⟨P1, hP1⟩ : ∃ P, popG L f P0 = P := ⟨_, rfl⟩
          have hpl0 : P0.length ≤ nx := hI0.out.plen
          have hP1l : P1.length ≤ nx := by rw [← hP1]; exact Nat.le_trans (popG_suffix L f P0).length_le hpl0
          have hP0n : Hid (∀ t, t ∈ P0 → t < n) := Lib.hid (fun t ht => by have h : t < nx := hI0.out.pile t ht; omega)
          replace hP1 := Lib.hid hP1
          go_cut [7] from 55 to 162 (fun s7 wx => ∃ v8 : Value, v8 = s7 ∧ Hid (NestP wx w.heap.size 71 74 6 leafE [itRow w.heap.size 26 3 (.slice (some ⟨gE, 0, none⟩) nE cE) nE (E.flatMap encP), itRow w.heap.size 3 1 v8 P1.length (ivs .i64 P1.reverse), itMap Tryz.prog 3 (plainElem (H := Unit) Tryz.prog 3) gm k (mapD ks), itBlk gf 26 #[.bool false, .string (natS f.1), .string (natS f.2)]] v9 vs out) ∧ Hid (Below w.heap.size w wx))
          case first =>
            go_wp2_with fail
            go_loopg [7] P0.length (fun kx s7 wx => ∃ (P : List Nat) (v8 : Value), v8 = s7 ∧ P.length ≤ kx ∧ P.length ≤ n ∧ Hid (popG L f P = P1) ∧ Hid (∀ t, t ∈ P → t < n) ∧ Hid (NestP wx w.heap.size 71 74 6 leafE [itRow w.heap.size 26 3 (.slice (some ⟨gE, 0, none⟩) nE cE) nE (E.flatMap encP), itRow w.heap.size 3 1 v8 P.length (ivs .i64 P.reverse), itMap Tryz.prog 3 (plainElem (H := Unit) Tryz.prog 3) gm k (mapD ks), itBlk gf 26 #[.bool false, .string (natS f.1), .string (natS f.2)]] v9 vs out) ∧ Hid (Below w.heap.size w wx))
            case atStart => exact ⟨P0, _, rfl, Nat.le_refl _, by omega, hP1, hP0n, hS, hB⟩
            case round =>
              clear hS hB hP1 hP0n
              obtain ⟨P, v8, rfl, hPk, hPn, hP1, hPt, hS, hB⟩ := hrel
              have hrow := hS.out.2.get (a := itRow w.heap.size 3 1 v8 P.length (ivs .i64 P.reverse)) (by simp)
              have hrow : wr.ownsRow w.heap.size 3 1 v8 P.length (ivs .i64 P.reverse) := hrow
              rcases P with _ | ⟨t, r⟩
              case nil =>
                obtain ⟨A8, c8, rfl, -, -⟩ := own_form hrow
                clear hrow
                obtain rfl : P1 = [] := hP1.out.symm
                go_upto_region 20 with fail
                simp only [List.length_nil] at hS ⊢
                go_quiet (fail)
                go_wp2_with fail
                go_meet
                case rel => exact ⟨_, rfl, Lib.hid (hS.out.drewN nq), Lib.hid (bDrewN hB.out nq)⟩
              case cons =>
                obtain ⟨m, hm⟩ : ∃ m, m = (t :: r).length := ⟨_, rfl⟩
                rw [← hm] at hrow hPn
                obtain ⟨A8, c8, rfl, -, hA8⟩ := own_form hrow
                obtain ⟨gp, rfl⟩ := hA8 (by rw [hm]; simp)
                have pc : wr.cell? ⟨gp, m - 1, none⟩ = some (.int .i64 (t : Int)) := by
                  rw [World.ownsRow.cellAt hrow (m - 1) (by rw [hm]; simp)]
                  rw [hm]
                  simp [ivs]
                have hm1 : 1 ≤ m := by rw [hm]; simp
                have hm0 : 0 < m := hm1
                have hcap8 : m ≤ c8 := ownsRow_cap hrow
                have htn : t < n := hPt.out t (List.mem_cons_self ..)
                have htL : t < L.length := by rw [← hn.out]; exact htn
                have hrow2 := Lib.hid (ownsRow_cut hrow (show m - 1 ≤ m by omega))
                have y1 : wr.cell? ⟨x, 1, none⟩ = some (.slice (some ⟨g, 0, none⟩) n c) := by rw [hn.out]; exact (hLm.out.below hB.out).blk.cell 1
                have hC := LRow.cell (by have h := (hLm.out.below hB.out).row; exact h) htL
                obtain ⟨e2, he2⟩ : ∃ e2, e2 = (L[t]!).2 := ⟨_, rfl⟩
                have d0 : wr.cell? ⟨g, t * 6 + 3, none⟩ = some (.bool false) := hC 3 _ rfl
                have d1 : wr.cell? ⟨g, t * 6 + 4, none⟩ = some (.string (natS e2.1)) := by rw [he2]; exact hC 4 _ rfl
                have d2 : wr.cell? ⟨g, t * 6 + 5, none⟩ = some (.string (natS e2.2)) := by rw [he2]; exact hC 5 _ rfl
                have hKf : Blk wr gf 26 #[.bool false, .string (natS f.1), .string (natS f.2)] := hS.out.2.get (a := itBlk gf 26 #[.bool false, .string (natS f.1), .string (natS f.2)]) (by simp)
                have k0 : wr.cell? ⟨gf, 0, none⟩ = some (.bool false) := hKf.cell 0
                have k1 : wr.cell? ⟨gf, 1, none⟩ = some (.string (natS f.1)) := hKf.cell 1
                have k2 : wr.cell? ⟨gf, 2, none⟩ = some (.string (natS f.2)) := hKf.cell 2
                replace he2 := Lib.hid he2
                clear hC hrow htL hKf
                go_upto_region 20 with fail
                rw [← hm] at hPk
                replace hm := Lib.hid hm
                rcases pair_cases e2 f with ⟨e0, e1, e2'⟩ | ⟨e0, e1, e2'⟩ | ⟨e0, e1⟩
                case inl =>
                  replace e0 := Lib.hid e0
                  go_quiet (fail)
                  go_wp2_with fail
                  have hS2 := Lib.hid (hS.out.side (A := [itRow w.heap.size 26 3 (.slice (some ⟨gE, 0, none⟩) nE cE) nE (E.flatMap encP)]) (C := [itMap Tryz.prog 3 (plainElem (H := Unit) Tryz.prog 3) gm k (mapD ks), itBlk gf 26 #[.bool false, .string (natS f.1), .string (natS f.2)]]) (a' := itRow w.heap.size 3 1 (.slice (some ⟨gp, 0, none⟩) (m - 1) c8) r.length (ivs .i64 r.reverse)) (gb_refl wr _) (by
                    have h := hrow2.out
                    have e : (ivs .i64 (t :: r).reverse).take ((m - 1) * 1) = ivs .i64 r.reverse := by rw [hm.out]; simp [ivs]
                    rw [e] at h
                    have e2 : m - 1 = r.length := by rw [hm.out]; simp
                    show wr.ownsRow w.heap.size 3 1 (.slice (some ⟨gp, 0, none⟩) (m - 1) c8) r.length (ivs .i64 r.reverse)
                    rw [e2] at h ⊢
                    exact h) (fun q hq => .inl hq))
                  have hP2 : Hid (popG L f r = P1) := Lib.hid (by rw [← hP1.out, popG, if_pos (by rw [← he2.out]; exact e0.out)])
                  have hrl : r.length = m - 1 := by rw [hm.out]; simp
                  go_roundg (m - 1)
                  case measure => omega
                  case rel => exact ⟨r, _, rfl, by omega, by omega, hP2, Lib.hid (fun q hq => hPt.out q (List.mem_cons_of_mem _ hq)), Lib.hid (hS2.out.drewN nq), Lib.hid (bDrewN hB.out nq)⟩
                all_goals
                  have hP2 : Hid (t :: r = P1) := Lib.hid (by rw [← hP1.out, popG, if_neg (by rw [← he2.out]; exact e0)])
                  clear e0
                  go_quiet (fail)
                  go_wp2_with fail
                  go_meet
                  case rel => exact ⟨_, rfl, Lib.hid (by rw [← hP2.out]; exact hS.out.drewN nq), Lib.hid (bDrewN hB.out nq)⟩
          clear hS hB hP0n
          obtain ⟨v8, rfl, hS, hB⟩ := hcut
          skip
          go_upto_block 6 with fail
          obtain ⟨cN, hcN⟩ : ∃ q, runG L f nx = q := ⟨_, rfl⟩
          have hcn : nx + cN ≤ n := by
            have h := runG_le L f nx
            rw [hcN, ← hn.out] at h
            omega
          have hhit : Hid (∀ j, j < cN → nx + j < L.length ∧ (L[nx + j]!).1 = f) := Lib.hid (fun j hj => runG_hit (by rw [hcN]; exact hj))
          have hstop : Hid (nx + cN < L.length → (L[nx + cN]!).1 ≠ f) := Lib.hid (fun h => by have h2 := runG_stop (L := L) (f := f) (next := nx) (by rw [hcN]; exact h); rwa [hcN] at h2)
          replace hcN := Lib.hid hcN
          go_cut [13] from 55 to 162 (fun s13 wx => s13 = .int .i64 ((nx + cN : Nat) : Int) ∧ Hid (NestP wx w.heap.size 71 74 6 leafE [itRow w.heap.size 26 3 (.slice (some ⟨gE, 0, none⟩) nE cE) nE (E.flatMap encP), itRow w.heap.size 3 1 v8 P1.length (ivs .i64 P1.reverse), itMap Tryz.prog 3 (plainElem (H := Unit) Tryz.prog 3) gm k (mapD ks), itBlk gf 26 #[.bool false, .string (natS f.1), .string (natS f.2)]] v9 vs out) ∧ Hid (Below w.heap.size w wx))
          case first =>
            go_wp2_with fail
            go_loopg [13] cN (fun kx s13 wx => ∃ tt : Nat, s13 = .int .i64 (tt : Int) ∧ nx ≤ tt ∧ tt ≤ nx + cN ∧ nx + cN - tt ≤ kx ∧ Hid (NestP wx w.heap.size 71 74 6 leafE [itRow w.heap.size 26 3 (.slice (some ⟨gE, 0, none⟩) nE cE) nE (E.flatMap encP), itRow w.heap.size 3 1 v8 P1.length (ivs .i64 P1.reverse), itMap Tryz.prog 3 (plainElem (H := Unit) Tryz.prog 3) gm k (mapD ks), itBlk gf 26 #[.bool false, .string (natS f.1), .string (natS f.2)]] v9 vs out) ∧ Hid (Below w.heap.size w wx))
            case atStart => exact ⟨nx, rfl, Nat.le_refl _, by omega, by omega, hS, hB⟩
            case round =>
              clear hS hB
              obtain ⟨tt, rfl, ht1, ht2, htk, hS, hB⟩ := hrel
              have y1 : wr.cell? ⟨x, 1, none⟩ = some (.slice (some ⟨g, 0, none⟩) n c) := by rw [hn.out]; exact (hLm.out.below hB.out).blk.cell 1
              go_upto_region 23 with fail
              by_cases htn : tt < n
              case neg =>
                have hte : Hid (tt = nx + cN) := Lib.hid (by omega)
                go_quiet (fail)
                go_wp2_with fail
                go_meet
                case rel => exact ⟨by rw [hte.out], Lib.hid (hS.out.drewN nq), Lib.hid (bDrewN hB.out nq)⟩
              case pos =>
                have htz : ((tt : Int) < (n : Int)) := by omega
                have htL : tt < L.length := by rw [← hn.out]; exact htn
                have hC := LRow.cell (by have h := (hLm.out.below hB.out).row; exact h) htL
                obtain ⟨e1, he1⟩ : ∃ e1, e1 = (L[tt]!).1 := ⟨_, rfl⟩
                have d0 : wr.cell? ⟨g, tt * 6, none⟩ = some (.bool false) := hC 0 _ rfl
                have d1 : wr.cell? ⟨g, tt * 6 + 1, none⟩ = some (.string (natS e1.1)) := by rw [he1]; exact hC 1 _ rfl
                have d2 : wr.cell? ⟨g, tt * 6 + 2, none⟩ = some (.string (natS e1.2)) := by rw [he1]; exact hC 2 _ rfl
                have hKf : Blk wr gf 26 #[.bool false, .string (natS f.1), .string (natS f.2)] := hS.out.2.get (a := itBlk gf 26 #[.bool false, .string (natS f.1), .string (natS f.2)]) (by simp)
                have k0 : wr.cell? ⟨gf, 0, none⟩ = some (.bool false) := hKf.cell 0
                have k1 : wr.cell? ⟨gf, 1, none⟩ = some (.string (natS f.1)) := hKf.cell 1
                have k2 : wr.cell? ⟨gf, 2, none⟩ = some (.string (natS f.2)) := hKf.cell 2
                clear hC hKf
                rcases pair_cases e1 f with ⟨e0, x1, x2⟩ | ⟨e0, x1, x2⟩ | ⟨e0, x1⟩
                case inl =>
                  have htc : tt < nx + cN := by
                    rcases Nat.lt_or_ge tt (nx + cN) with h | h
                    · exact h
                    · obtain rfl : tt = nx + cN := by omega
                      exact absurd (he1 ▸ e0 : (L[nx + cN]!).1 = f) (hstop.out htL)
                  clear e0 he1
                  go_quiet (fail)
                  go_wp2_with fail
                  go_roundg (nx + cN - (tt + 1))
                  case measure => omega
                  case rel => exact ⟨tt + 1, by go_num, by omega, by omega, Nat.le_refl _, Lib.hid (hS.out.drewN nq), Lib.hid (bDrewN hB.out nq)⟩
                all_goals
                  have hte : Hid (tt = nx + cN) := Lib.hid (by
                    rcases Nat.lt_or_ge tt (nx + cN) with h | h
                    · have h2 := (hhit.out (tt - nx) (by omega)).2
                      rw [show nx + (tt - nx) = tt by omega] at h2
                      exact absurd (he1.trans h2) e0
                    · omega)
                  clear e0 he1
                  go_quiet (fail)
                  go_wp2_with fail
                  go_meet
                  case rel => exact ⟨by rw [hte.out], Lib.hid (hS.out.drewN nq), Lib.hid (bDrewN hB.out nq)⟩
          clear hS hB hhit hstop
          obtain ⟨rfl, hS, hB⟩ := hcut
          obtain ⟨tt, htt⟩ : ∃ q, q = nx + cN := ⟨_, rfl⟩
          rw [← htt]
          have hcn2 : tt ≤ n := by omega
          replace htt := Lib.hid htt
          go_upto_block 8 with fail
          obtain ⟨P2, hP2⟩ : ∃ P, (List.range' nx cN) ++ P1 = P := ⟨_, rfl⟩
          have hP2l : P2.length ≤ nx + cN := by rw [← hP2]; simp; omega
          replace hP2 := Lib.hid hP2
          go_cut [7, 14] from 55 to 162 (fun s7 s14 wx => ∃ v5 : Value, v5 = s7 ∧ Hid (NestP wx w.heap.size 71 74 6 leafE [itRow w.heap.size 26 3 (.slice (some ⟨gE, 0, none⟩) nE cE) nE (E.flatMap encP), itRow w.heap.size 3 1 v5 P2.length (ivs .i64 P2.reverse), itMap Tryz.prog 3 (plainElem (H := Unit) Tryz.prog 3) gm k (mapD ks), itBlk gf 26 #[.bool false, .string (natS f.1), .string (natS f.2)]] v9 vs out) ∧ Hid (Below w.heap.size w wx))
          case first =>
            go_wp2_with fail
            go_loopg [14, 7] cN (fun kx s14 s7 wx => ∃ (j : Nat) (mz : Int) (v5 : Value), s14 = .int .i64 mz ∧ v5 = s7 ∧ mz + 1 + (j : Int) = (nx : Int) + (cN : Int) ∧ j ≤ cN ∧ cN - j ≤ kx ∧ Hid (NestP wx w.heap.size 71 74 6 leafE [itRow w.heap.size 26 3 (.slice (some ⟨gE, 0, none⟩) nE cE) nE (E.flatMap encP), itRow w.heap.size 3 1 v5 ((List.range' (nx + cN - j) j) ++ P1).length (ivs .i64 ((List.range' (nx + cN - j) j) ++ P1).reverse), itMap Tryz.prog 3 (plainElem (H := Unit) Tryz.prog 3) gm k (mapD ks), itBlk gf 26 #[.bool false, .string (natS f.1), .string (natS f.2)]] v9 vs out) ∧ Hid (Below w.heap.size w wx))
            case atStart => exact ⟨0, (tt : Int) - 1, _, by go_num, rfl, by have := htt.out; omega, Nat.zero_le _, Nat.le_refl _, hS, hB⟩
            case round =>
              clear hS hB
              obtain ⟨j, mz, v5, rfl, rfl, hmz, hj, hjk, hS, hB⟩ := hrel
              obtain ⟨PL, hPL⟩ : ∃ P, P = ((List.range' (nx + cN - j) j) ++ P1) := ⟨_, rfl⟩
              have hPLl : PL.length ≤ 4096 := by rw [hPL]; simp; omega
              rw [← hPL] at hS
              replace hPL := Lib.hid hPL
              by_cases hjc : j < cN
              case neg =>
                obtain rfl : j = cN := by omega
                have hlt5 : ¬ (nx : Int) ≤ mz := by omega
                have e5 : Hid (PL = P2) := Lib.hid (by rw [hPL.out, ← hP2.out, Nat.add_sub_cancel])
                clear hmz
                go_wp2_with fail
                go_meet
                case rel => exact ⟨_, rfl, Lib.hid (by rw [← e5.out]; exact hS.out), hB⟩
              case pos =>
                obtain ⟨q, rfl⟩ : ∃ q : Nat, mz = (q : Int) := ⟨mz.toNat, by omega⟩
                have hlt5 : (nx : Int) ≤ (q : Int) := by omega
                have hq5 : q ≤ 4096 := by omega
                have hqe : Hid (q + 1 + j = nx + cN) := Lib.hid (by omega)
                have hrow : wr.ownsRow w.heap.size 3 1 v5 PL.length (ivs .i64 PL.reverse) := hS.out.2.get (a := itRow w.heap.size 3 1 v5 PL.length (ivs .i64 PL.reverse)) (by simp)
                replace hrow := Lib.hid hrow
                have hBs := hB.out.size
                clear hmz
                go_wp2_with (at_builtin; refine wpList_append_own_at _ rfl _ _ 139 rfl w.heap.size 3 i3 (.int .i64 0) 1 8 Tryz.underlying139 ii iz0 iz1 iz2 rfl (by decide) _ _ _ rfl (hrow.out.alloc _) ⟨wr.heap.size, 0, none⟩ 1 1 [.int .i64 (q : Int)] rfl rfl (news_new wr 3 [.int .i64 (q : Int)]) (fun u hu => by rw [List.mem_singleton.1 hu]; rfl) (by unfold maxLen; omega) (by omega) (by simp; omega) ?_; intro v' w1 hown' hgrow' _ hloc')
                have hS2 := Lib.hid ((hS.out.alloc (.cells #[.int .i64 (q : Int)] 3)).side (A := [itRow w.heap.size 26 3 (.slice (some ⟨gE, 0, none⟩) nE cE) nE (E.flatMap encP)]) (C := [itMap Tryz.prog 3 (plainElem (H := Unit) Tryz.prog 3) gm k (mapD ks), itBlk gf 26 #[.bool false, .string (natS f.1), .string (natS f.2)]]) (a' := itRow w.heap.size 3 1 v' (q :: PL).length (ivs .i64 (q :: PL).reverse)) hgrow' (by
                  have e : ivs .i64 (q :: PL).reverse = ivs .i64 PL.reverse ++ [.int .i64 (q : Int)] := by simp [ivs]
                  show w1.ownsRow w.heap.size 3 1 v' (q :: PL).length (ivs .i64 (q :: PL).reverse)
                  rw [e]
                  exact hown') (fun r hr => by
                  have hr : v'.ownBlock = some r := hr
                  rcases hloc' with h | h
                  · exact .inl (by show v5.ownBlock = _; rw [← hr]; exact h.symm)
                  · right
                    rw [hr] at h
                    injection h with h
                    exact Nat.le_of_eq h.symm))
                have hB2 : Hid (Below w.heap.size w w1) := Lib.hid ((hB.out.alloc hB.out.size _).grown hgrow' (by simp; omega) (fun r hr => (World.ownsRow.lt hrow.out r hr).1))
                have hPL2 : Hid (q :: PL = (List.range' (nx + cN - (j + 1)) (j + 1)) ++ P1) := Lib.hid (by
                  have h := hqe.out
                  rw [hPL.out, show nx + cN - (j + 1) = q by omega, show nx + cN - j = q + 1 by omega, List.range'_succ]; rfl)
                clear hgrow' hown' hloc'
                go_roundg (cN - (j + 1))
                case measure => omega
                case rel => exact ⟨j + 1, (q : Int) - 1, _, by go_num, rfl, by have := hqe.out; omega, by omega, Nat.le_refl _, Lib.hid (by rw [← hPL2.out]; exact hS2.out), hB2⟩
          clear hS hB
          obtain ⟨v5, rfl, hS, hB⟩ := hcut
          obtain ⟨t, ht⟩ : ∃ q, topG P2 = q := ⟨_, rfl⟩
          have hP2n : ∀ q, q ∈ P2 → q < n := fun q hq => by
            rw [← hP2.out] at hq
            rcases List.mem_append.1 hq with h | h
            · rw [List.mem_range'_1] at h; have := htt.out; omega
            · rw [← hP1.out] at h
              have h2 : q < nx := hI0.out.pile q ((popG_suffix L f P0).subset h)
              omega
          have htb : -1 ≤ t ∧ t ≤ 4096 := by
            rw [← ht]
            rcases P2 with _ | ⟨q, r⟩
            · simp [topG]
            · have := hP2n q (List.mem_cons_self ..)
              simp only [topG]
              omega
          replace ht := Lib.hid ht
          replace htb := Lib.hid htb
          clear hP2n
          obtain ⟨m5, hm5⟩ : ∃ m, m = P2.length := ⟨_, rfl⟩
          have hrow5 : wc.ownsRow w.heap.size 3 1 v5 m5 (ivs .i64 P2.reverse) := by rw [hm5]; exact hS.out.2.get (a := itRow w.heap.size 3 1 v5 P2.length (ivs .i64 P2.reverse)) (by simp)
          obtain ⟨A5, c5, rfl, -, hA5⟩ := own_form hrow5
          replace hrow5 := Lib.hid hrow5
          replace hA5 := Lib.hid hA5
          have hm5l : m5 ≤ 4096 := by omega
          replace hm5 := Lib.hid hm5
          go_upto_if 120 with fail
          go_cut [15] from 55 to 162 (fun s15 wx => s15 = .int .i64 t ∧ wx = wc)
          case first =>
            by_cases hm0 : 0 < m5
            case neg =>
              have e0 : P2 = [] := List.eq_nil_of_length_eq_zero (by have := hm5.out; omega)
              have hte : Hid (t = -1) := Lib.hid (by rw [← ht.out, e0]; rfl)
              clear e0
              go_wp2_with fail
              go_meet
              case rel => exact ⟨by rw [hte.out], rfl⟩
            case pos =>
              obtain ⟨q, r, hqr⟩ : ∃ q r, P2 = q :: r := by
                rcases P2 with _ | ⟨q, r⟩
                · exact absurd hm5.out (by simp; omega)
                · exact ⟨q, r, rfl⟩
              obtain ⟨gp, rfl⟩ := hA5.out hm0
              have pc : wc.cell? ⟨gp, m5 - 1, none⟩ = some (.int .i64 (q : Int)) := by
                rw [World.ownsRow.cellAt hrow5.out (m5 - 1) (by omega), hm5.out, hqr]
                simp [ivs]
              have hte : Hid (t = (q : Int)) := Lib.hid (by rw [← ht.out, hqr]; rfl)
              have hm1 : 1 ≤ m5 := hm0
              clear hqr
              go_wp2_with fail
              go_meet
              case rel => exact ⟨by rw [hte.out], rfl⟩
          obtain ⟨rfl, rfl⟩ := hcut
          obtain ⟨ks2, hks2⟩ : ∃ q, keysG ks t = q := ⟨_, rfl⟩
          obtain ⟨out2, hout2⟩ : ∃ q, outG ks t out = q := ⟨_, rfl⟩
          obtain ⟨gi, hgi⟩ : ∃ q, idxG ks2 t = q := ⟨_, rfl⟩
          obtain ⟨hb, hhb⟩ : ∃ b, decide (t ∈ ks) = b := ⟨_, rfl⟩
          have hhas : Maps.has (mapD ks) (keyI t) = hb := by rw [has_mapD]; exact hhb
          have hkey : keyOf Tryz.prog 3 (.int .i64 t) = some (keyI t) := keyOf_int_mk Tryz.underlying3 (WalkArith.wf_i64 (by have := htb.out; omega))
          have hmap : wc.ownsMap Tryz.prog 3 (plainElem (H := Unit) Tryz.prog 3) gm k (mapD ks) := hS.out.2.get (a := itMap Tryz.prog 3 (plainElem (H := Unit) Tryz.prog 3) gm k (mapD ks)) (by simp)
          replace hks2 := Lib.hid hks2
          replace hout2 := Lib.hid hout2
          replace hgi := Lib.hid hgi
          replace hhb := Lib.hid hhb
          replace hmap := Lib.hid hmap
          replace hkey := Lib.hid hkey
          replace hhas := Lib.hid hhas
          go_upto_if 134 with (at_lookup; refine wpList_lookup_own_ok_int _ rfl _ _ 140 rfl 3 3 .i64 lawI Tryz.underlying140 Tryz.underlying3 (zeroI _) gm k (mapD ks) rfl hmap.out _ (keyI t) rfl hkey.out ?_; intro cv hat hwc; rw [hhas.out]; replace hat := Lib.hid hat; replace hwc := Lib.hid hwc)
          have hvl : vs.length = out.length := hS.out.1
          have hkl : ks.length = out.length := hI0.out.klen
          have hol : out.length ≤ k := hI0.out.olen
          have hvk : vs.length ≤ k := by omega
          replace hvl := Lib.hid hvl
          replace hkl := Lib.hid hkl
          go_cut [16, 9] from 55 to 162 (fun s16 s9 wx => ∃ (vx : Value) (vsx : List Value), s16 = .int .i64 (gi : Int) ∧ vx = s9 ∧ Hid (NestP wx w.heap.size 71 74 6 leafE [itRow w.heap.size 26 3 (.slice (some ⟨gE, 0, none⟩) nE cE) nE (E.flatMap encP), itRow w.heap.size 3 1 (.slice A5 m5 c5) P2.length (ivs .i64 P2.reverse), itMap Tryz.prog 3 (plainElem (H := Unit) Tryz.prog 3) gm (k + 1) (mapD ks2), itBlk gf 26 #[.bool false, .string (natS f.1), .string (natS f.2)]] vx vsx out2) ∧ Hid (Below w.heap.size w wx))
          case first =>
            cases hb
            case true =>
              have hmem : t ∈ ks := of_decide_eq_true hhb.out
              obtain rfl : ks = ks2 := by rw [← hks2.out]; unfold keysG; rw [if_pos hmem]
              obtain rfl : out = out2 := by rw [← hout2.out]; unfold outG; rw [if_pos hmem]
              obtain rfl : cv = (gi : Int) := by
                have h := hat.out
                rw [atKey_mapD hI0.out.nodup hmem, hgi.out] at h
                injection h with h
                injection h with h h2
                exact h2.symm
              have hS2 := Lib.hid (hS.out.side (A := [itRow w.heap.size 26 3 (.slice (some ⟨gE, 0, none⟩) nE cE) nE (E.flatMap encP), itRow w.heap.size 3 1 (.slice A5 m5 c5) P2.length (ivs .i64 P2.reverse)]) (C := [itBlk gf 26 #[.bool false, .string (natS f.1), .string (natS f.2)]]) (a' := itMap Tryz.prog 3 (plainElem (H := Unit) Tryz.prog 3) gm (k + 1) (mapD ks)) (gb_refl wc _) (World.ownsMap.mono hmap.out (Nat.le_succ k)) (fun q hq => .inl hq))
              clear hmem hS
              go_wp2_with fail
              go_meet
              case rel => exact ⟨_, _, rfl, rfl, hS2, hB⟩
            case false =>
              have hmem : t ∉ ks := of_decide_eq_false hhb.out
              have hke : Hid (mapD ks2 = (mapD ks).put (keyI t) (.lit (.int .i64 (vs.length : Int)))) := Lib.hid (by rw [← hks2.out]; unfold keysG; rw [if_neg hmem, mapD_snoc, hkl.out, hvl.out])
              have hoe : Hid (out2 = out ++ [[]]) := Lib.hid (by rw [← hout2.out]; unfold outG; rw [if_neg hmem])
              have hge : Hid (gi = vs.length) := Lib.hid (by rw [← hgi.out, ← hks2.out]; unfold keysG; rw [if_neg hmem, idxG_new hmem, hkl.out, hvl.out])
              clear hmem
              obtain ⟨A9, c9, rfl, -, -⟩ := own_form hS.out.row
              go_upto_region 37 with (at_mapUpdate; refine wpList_mapUpdate_own _ rfl _ _ _ 140 rfl 3 3 lawI Tryz.underlying140 _ gm k _ rfl hmap.out (by unfold maxLen; omega) _ _ _ rfl rfl hkey.out _ [] (plainElem_int Tryz.underlying3 (WalkArith.wf_i64 (by omega))) ?_; intro w1 hmap1 hgrow1)
              have hS1 : Hid (NestP w1 w.heap.size 71 74 6 leafE [itRow w.heap.size 26 3 (.slice (some ⟨gE, 0, none⟩) nE cE) nE (E.flatMap encP), itRow w.heap.size 3 1 (.slice A5 m5 c5) P2.length (ivs .i64 P2.reverse), itMap Tryz.prog 3 (plainElem (H := Unit) Tryz.prog 3) gm (k + 1) (mapD ks2), itBlk gf 26 #[.bool false, .string (natS f.1), .string (natS f.2)]] (.slice A9 vs.length c9) vs out) := Lib.hid (hS.out.side (A := [itRow w.heap.size 26 3 (.slice (some ⟨gE, 0, none⟩) nE cE) nE (E.flatMap encP), itRow w.heap.size 3 1 (.slice A5 m5 c5) P2.length (ivs .i64 P2.reverse)]) (C := [itBlk gf 26 #[.bool false, .string (natS f.1), .string (natS f.2)]]) (a' := itMap Tryz.prog 3 (plainElem (H := Unit) Tryz.prog 3) gm (k + 1) (mapD ks2)) hgrow1 (by show w1.ownsMap _ _ _ _ _ _; rw [hke.out]; exact hmap1) (fun q hq => .inl hq))
              have hB1 : Hid (Below w.heap.size w w1) := Lib.hid (hB.out.grown hgrow1 hB.out.size (fun q hq => by injection hq with hq; subst hq; exact hgmB))
              have hrow1 := Lib.hid hS1.out.row
              have hBs := hB1.out.size
              clear hgrow1 hmap1 hS hB
              go_wp2_with (at_builtin; refine wpList_append_own_at _ rfl _ _ 65 rfl w.heap.size 71 i2 (.slice none 0 0) 1 24 Tryz.underlying65 si sz0 sz1 sz2 rfl (by decide) _ _ _ rfl (hrow1.out.alloc _) ⟨w1.heap.size, 0, none⟩ 1 1 [.slice none 0 0] rfl rfl (news_new w1 71 [.slice none 0 0]) (fun u hu => by rw [List.mem_singleton.1 hu]; rfl) (by unfold maxLen; omega) (by omega) (by simp; omega) ?_; intro v' w2 hown' hgrow' _ hloc')
              have hS2 := Lib.hid ((hS1.out.alloc (.cells #[.slice none 0 0] 71)).push hgrow' hown' hloc')
              have hB2 : Hid (Below w.heap.size w w2) := Lib.hid ((hB1.out.alloc hB1.out.size _).grown hgrow' (by simp; omega) (fun r hr => (World.ownsRow.lt hrow1.out r hr).1))
              clear hgrow' hown' hloc'
              go_meet
              case rel => exact ⟨_, _, by rw [hge.out], rfl, Lib.hid (by rw [hoe.out]; exact hS2.out), hB2⟩
          clear hS hB hmap
          obtain ⟨v10, vs2, rfl, rfl, hS, hB⟩ := hcut
          have hgl : gi < vs2.length := by
            rw [hS.out.1, ← hout2.out, ← keysG_len hkl.out, ← hgi.out]
            have := idxG_lt (ks := ks) (k := t)
            rwa [hks2.out] at this ⊢
          obtain ⟨A9, c9, rfl, -, hA9⟩ := own_form hS.out.row
          obtain ⟨gb, rfl⟩ := hA9 (by omega)
          clear hA9
          obtain ⟨u, hu⟩ : ∃ u, u = vs2[gi] := ⟨_, rfl⟩
          obtain ⟨xI, hxI⟩ : ∃ u, u = out2[gi]'(hS.out.1 ▸ hgl) := ⟨_, rfl⟩
          have oc : wc.cell? ⟨gb, gi, none⟩ = some u := by
            rw [World.ownsRow.cellAt hS.out.row gi (by omega), List.getElem?_eq_getElem hgl, hu]
          have ofz : wc.frozen? ⟨gb, gi, none⟩ = false := World.ownsRow.frozenAt hS.out.row gi
          have hin : wc.ownsRow w.heap.size 74 6 u xI.length (xI.flatMap leafE) := by rw [hu, hxI]; exact hS.out.inner hgl
          have hxl : xI.length ≤ k := by
            have hm : xI ∈ outG ks t out := by rw [hout2.out, hxI]; exact List.getElem_mem _
            unfold outG at hm
            split at hm
            · exact hI0.out.ilen xI hm
            · rcases List.mem_append.1 hm with h | h
              · exact hI0.out.ilen xI h
              · rw [List.mem_singleton.1 h]; exact Nat.zero_le _
          have hKf : Blk wc gf 26 #[.bool false, .string (natS f.1), .string (natS f.2)] := hS.out.2.get (a := itBlk gf 26 #[.bool false, .string (natS f.1), .string (natS f.2)]) (by simp)
          have k0 : wc.cell? ⟨gf, 0, none⟩ = some (.bool false) := hKf.cell 0
          have k1 : wc.cell? ⟨gf, 1, none⟩ = some (.string (natS f.1)) := hKf.cell 1
          have k2 : wc.cell? ⟨gf, 2, none⟩ = some (.string (natS f.2)) := hKf.cell 2
          obtain ⟨qn, hqn⟩ : ∃ q, q = (k + 1) % nE := ⟨_, rfl⟩
          have hqlt : qn < nE := by rw [hqn]; exact Nat.mod_lt _ hE1
          obtain ⟨f2, hf2⟩ : ∃ f, f = E[qn]! := ⟨_, rfl⟩
          have hC := row_cellP (hS.out.2.get (a := itRow w.heap.size 26 3 (.slice (some ⟨gE, 0, none⟩) nE cE) nE (E.flatMap encP)) (by simp)) (show qn < E.length by rw [← hnE.out]; exact hqlt) hnE.out
          rw [← hf2] at hC
          have c0 : wc.cell? ⟨gE, qn * 3, none⟩ = some (.bool false) := hC 0 _ rfl
          have c1 : wc.cell? ⟨gE, qn * 3 + 1, none⟩ = some (.string (natS f2.1)) := hC 1 _ rfl
          have c2 : wc.cell? ⟨gE, qn * 3 + 2, none⟩ = some (.string (natS f2.2)) := hC 2 _ rfl
          replace hu := Lib.hid hu
          replace hxI := Lib.hid hxI
          replace hqn := Lib.hid hqn
          replace hf2 := Lib.hid hf2
          replace hin := Lib.hid hin
          clear hC hKf
          go_upto_region 38 with fail
          have hqt : (IntKind.i64.wrap ((k : Int) + 1)).tmod (nE : Int) = (qn : Int) := by
            have e : IntKind.i64.wrap ((k : Int) + 1) = (k : Int) + 1 := by rw [IntKind.wrap_i64]; omega
            rw [e, hqn.out, Int.tmod_eq_emod_of_nonneg (by omega)]; rfl
          have hnE0 : ¬ nE = 0 := by omega
          have hnE0z : ¬ (nE : Int) = 0 := by omega
          have hBs := hB.out.size
          have hglz : (gi : Int) < (vs2.length : Int) := by omega
          have hqz : (qn : Int) < (nE : Int) := by omega
          have hfar : Hid (some gb ≠ u.ownBlock) := Lib.hid (by rw [hu.out]; exact hS.out.far hgl)
          have ocH := Lib.hid oc
          have oc2 : (wc.alloc (.cells #[.bool false, .string (natS f.1), .string (natS f.2), .bool false, .string (natS f2.1), .string (natS f2.2)] 74)).cell? ⟨gb, gi, none⟩ = some u := Lib.cell?_alloc_some _ oc
          have ofH := Lib.hid ofz
          go_region_law ((refine step_append_lies _ (by rfl) _ _ _ (by rfl) w.heap.size 74 i1 (.agg #[.bool false, .string ⟨#[]⟩, .string ⟨#[]⟩, .bool false, .string ⟨#[]⟩, .string ⟨#[]⟩]) 6 80 Tryz.underlying71 ji jz0 jz1 jz2 rfl (by omega) u xI.length (xI.flatMap leafE) (by rfl) (World.ownsRow.alloc (World.ownsRow.drew hin.out) _) ⟨wc.heap.size, 0, none⟩ 1 1 (leafE (f, f2)) (by rfl) rfl (news_new _ 74 (leafE (f, f2))) (leaf_one (f, f2)) (by omega) (by unfold maxLen; omega) (by omega) (by simp; omega) _ rfl ?_; intro ga ca w1 hown1 hgrow1 hat1 hlt1; obtain ⟨z1, z2⟩ := far_cell hgrow1 ocH.out ofH.out hfar.out; replace hown1 := Lib.hid hown1; replace hgrow1 := Lib.hid hgrow1; replace hat1 := Lib.hid hat1; clear hlt1))
          all_goals
            clear z1 z2 oc oc2 ofz k0 k1 k2 c0 c1 c2 hqt hglz hqz hnE0 hnE0z
            have hS3 := Lib.hid (((hS.out.drewN 1).alloc (.cells #[.bool false, .string (natS f.1), .string (natS f.2), .bool false, .string (natS f2.1), .string (natS f2.2)] 74)).set (u := .slice (some ⟨ga, 0, none⟩) (xI.length + 1) ca) (xs' := xI ++ [(f, f2)]) hgl (by rw [← hu.out]; exact hgrow1.out) (by
              rw [List.length_append, List.flatMap_append]
              have e : [(f, f2)].flatMap leafE = leafE (f, f2) := by simp
              rw [e]
              exact hown1.out) (by
              rw [← hu.out]
              rcases hat1.out with h | h
              · exact .inl h.symm
              · exact .inr ⟨ga, rfl, by rw [h]; exact Nat.le_refl _⟩) rfl)
            have hB3 : Hid (Below w.heap.size w (w1.setCell ⟨gb, gi, none⟩ (.slice (some ⟨ga, 0, none⟩) (xI.length + 1) ca))) := Lib.hid (((hB.out.drew.alloc hB.out.drew.size _).grown hgrow1.out (by simp; omega) (fun q hq => (World.ownsRow.lt hin.out q hq).1)).setCell (p := ⟨gb, gi, none⟩) (World.ownsRow.lt hS.out.row gb rfl).1 _)
            have hnext : Hid (gapSt L (k + 1) = ⟨P2, tt, ks2, out2.set gi (xI ++ [(f, f2)])⟩) := Lib.hid (by
              have hg2 : gi < out2.length := by rw [← hS.out.1]; exact hgl
              have e : out2.set gi (xI ++ [(f, f2)]) = out2.modify gi (· ++ [(f, f2)]) := by rw [modify_set out2 gi _ hg2, hxI.out]
              rw [e, hst.out, stepG2, ← hf.out, hcN.out, hP1.out, hP2.out, ht.out, hks2.out, hout2.out, hgi.out, htt.out, hf2.out, hqn.out, hnE.out])
            clear hxI hu hS hB hst hgrow1 hat1 hown1 hin hfar ocH ofH
            go_wp2_with fail
            go_roundg (nE - (k + 1))
            case measure => omega
            case rel =>
              refine ⟨k + 1, _, _, vs2.set gi (.slice (some ⟨ga, 0, none⟩) (xI.length + 1) ca), by go_num, rfl, rfl, by rw [hnext.out], by omega, Nat.le_refl _, Lib.hid ?_, hB3⟩
              rw [hnext.out]
              exact hS3.out.drop (X := [itRow w.heap.size 26 3 (.slice (some ⟨gE, 0, none⟩) nE cE) nE (E.flatMap encP), itRow w.heap.size 3 1 (.slice A5 m5 c5) P2.length (ivs .i64 P2.reverse), itMap Tryz.prog 3 (plainElem (H := Unit) Tryz.prog 3) gm (k + 1) (mapD ks2)])
        case neg =>
          obtain rfl : k = nE := by omega
          have hfin : Hid (gapR = out) := Lib.hid (by rw [hgapR.out, gapsL, if_neg hne, ← hE.out, ← hnE.out, hout])
          clear hI hP0 hnx hks hout hst hI0
          go_wp2_with fail
          go_ret
          exact ⟨_, vs, rfl, Lib.hid (by rw [hfin.out]; exact hS.out.bare), hB⟩
end Go.Proofs.YtoaggmegmgdgbaaGreat
