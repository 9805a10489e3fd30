import Derived.Test.YtoaggmegmgdgbaaGreatLOneA
import Derived.Test.YtoaggmegmgdgbaaGreatLamL
namespace Go.Proofs.YtoaggmegmgdgbaaGreat
open Go.RowKit Go.Sort Go.Maps
theorem info_sleaf : (Tryz.prog.info? 27).map (fun i => (i.zero, i.size, i.bytes)) = some (some (.slice none 0 0), 1, 24) := by kernel_rfl
theorem row_below {w w' : World} {B n : Nat} {T : TypeId} {size : Nat} {v : Value} {xs : List Value} (h : w.ownsRow B T size v n xs) (hb : Below w.heap.size w w') : w'.ownsRow B T size v n xs := row_but h (But.of_below (r := fun _ => False) hb) (fun _ _ h => h)
theorem grpG_memO {α β : Type} [DecidableEq α] {κ : Nat → α} {arc : Nat → β} {k : Nat} {g : List β} {x : β} (hg : g ∈ grpG κ arc k) (hx : x ∈ g) : ∃ j, j < k ∧ x = arc j := by
  obtain ⟨r, -, rfl⟩ := List.mem_map.1 hg
  obtain ⟨j, hj, rfl⟩ := List.mem_map.1 hx
  exact ⟨j, List.mem_range.1 (List.mem_filter.1 hj).1, rfl⟩
set_option maxRecDepth 100000 in
set_option maxHeartbeats 16000000 in
theorem laminOne_any (n1 : Bool) (a1 d1 : ByteArray) (d : Int) (v : Value) (Ls : List RawQ) (w : World) (z1 : a1.size ≤ 9223372036854775807) (y1 : d1.size ≤ 9223372036854775807) (hv : RdK 3 encQ w v Ls) (hz : ∀ r, r ∈ Ls → szQ r) (hnl : ∀ n c, v = .slice none n c → c = 0) :
    Calls Tryz.prog 10 #[.agg #[.bool n1, .string a1, .string d1], .int .i64 d, v] w (RetVal (.bool true) w) := by
  have hB := Lib.hid (show Below w.heap.size w (w.alloc (.cells #[.bool n1, .string a1, .string d1] 26)) from (Below.refl _ w).alloc (Nat.le_refl _) _)
  have kBy := Lib.hid (Blk.new w 26 #[.bool n1, .string a1, .string d1])
  have cAw := Lib.hid (fun W => lawake_any W)
  have hnf : ∃ A c, v = .slice A Ls.length c := by
    obtain ⟨A, c, hv2, -⟩ := hv
    exact ⟨A, c, hv2⟩
  obtain ⟨n, hn⟩ : ∃ n, n = Ls.length := ⟨_, rfl⟩
  have cG := Lib.hid (fun W (hb : Below w.heap.size w W) (hl : n ≤ 200) => lGroups_any v Ls n1 a1 d1 d W (hv.below hb) hz hnl z1 y1 (by omega))
  have cO := Lib.hid (fun W (hb : Below w.heap.size w W) (hl : n ≤ 200) => lOf_any v Ls n1 a1 d1 d W (hv.below hb) hz hnl z1 y1 (by omega))
  have hAll := grp_all (n1 := n1) (a1 := a1) (d1 := d1) (d := d) (Ls := Ls)
  have cI0 : Hid (∀ p : PT, Ang p → errR (okA n1 a1 d1) d (false, natS p.1, natS p.2) = 0 → ∀ W, Calls Tryz.prog 58 #[.agg #[.bool n1, .string a1, .string d1], .agg #[.bool false, .string (natS p.1), .string (natS p.2)], .int .i64 d] W (RetRowE (rowK (be (sl a1)) (be (sl d1)) d.toNat p).1 (rowK (be (sl a1)) (be (sl d1)) d.toNat p).2 0 W)) := Lib.hid (fun p hp he W => by
    have h := iOf_any n1 a1 d1 false (natS p.1) (natS p.2) d W z1 y1 hp.szO.1 hp.szO.2 0 he.symm _ _ (by rw [if_pos rfl]) (by rw [if_pos rfl])
    rw [be_natS, be_natS] at h
    exact h)
  have hErr : Hid (errG (okA n1 a1 d1) d Ls = 0 → ∀ p, p ∈ riseL (angQ Ls) → errR (okA n1 a1 d1) d (false, natS p.1, natS p.2) = 0) := Lib.hid (fun h p hp => by
    have h0 := errG_all h
    have hok := (hAll h).2.2.2
    obtain ⟨r, hr, e⟩ := List.mem_map.1 (riseL_mem.1 hp)
    obtain ⟨-, k1, k2, k3⟩ := Ang.of_ok (okQ_get hok hr)
    have h2 : r = (false, natS p.1, natS p.2) := by
      rw [← e]
      exact Prod.ext k1 (Prod.ext k2 k3)
    rw [← h2]
    exact h0 r hr)
  obtain ⟨s, hs⟩ : ∃ x, x = be (sl a1) := ⟨_, rfl⟩
  obtain ⟨t, ht⟩ : ∃ x, x = be (sl d1) := ⟨_, rfl⟩
  obtain ⟨dn, hdn⟩ : ∃ x, x = d.toNat := ⟨_, rfl⟩
  obtain ⟨b1, hb1⟩ : ∃ x, x = okA n1 a1 d1 := ⟨_, rfl⟩
  rw [← hs, ← ht, ← hdn, ← hb1] at cI0 cG cO
  rw [← hs, ← ht, ← hdn, ← hb1] at hAll
  rw [← hb1] at hErr
  obtain ⟨EG, hEG⟩ : ∃ e, e = errG b1 d Ls := ⟨_, rfl⟩
  obtain ⟨E, hEe⟩ : ∃ E, E = riseL (angQ Ls) := ⟨_, rfl⟩
  rw [← hEG, ← hEe] at cG cO hAll
  rw [← hEG, ← hEe] at hErr
  clear hEG hEe hv hz hnl
  obtain ⟨A, c, rfl⟩ := hnf
  rw [← hn] at cG cO hAll ⊢
  replace hn := Lib.hid hn
  replace hdn := Lib.hid hdn
  replace hb1 := Lib.hid hb1
  clear hs ht
  go_enter Tryz.func10, Tryz.ntmps10
  go_upto_region 1 with fail
  generalize hW : w.alloc (.cells #[.bool n1, .string a1, .string d1] 26) = w1 at kBy hB ⊢
  clear hW
  by_cases h200 : 200 < n
  case pos =>
    have h2z : (200 : Int) < (n : Int) := by omega
    go_wp2_with fail
    refine (cAw.out _).mono ?_
    rintro en w2 ⟨rfl, hb⟩
    replace hB := Lib.hid (hB.out.trans (hb.mono hB.out.size))
    clear hb
    go_wp2_with fail
    go_ret
    exact ⟨rfl, hB.out⟩
  case neg =>
    have h2z : ¬ (200 : Int) < (n : Int) := by omega
    have hn2 : n ≤ 200 := by omega
    have b0 : w1.cell? ⟨w.heap.size, 0, none⟩ = some (.bool n1) := kBy.out.cell 0
    have b1' : w1.cell? ⟨w.heap.size, 1, none⟩ = some (.string a1) := kBy.out.cell 1
    have b2 : w1.cell? ⟨w.heap.size, 2, none⟩ = some (.string d1) := kBy.out.cell 2
    by_cases hE : EG = 0
    case neg =>
      have hEb : (EG == 0) = false := by simpa using hE
      have hEbb : (EG == EG) = true := by simp
      have cG1 : Hid (∀ W, Below w.heap.size w W → Calls Tryz.prog 54 #[.agg #[.bool n1, .string a1, .string d1], .int .i64 d, .slice A n c] W (RetVal (.tuple #[.slice none 0 0, .int .i64 EG]) W)) := Lib.hid (fun W hb => (cG.out W hb hn2).mono (fun e w' h => by
        rcases h with h | h
        · exact absurd h.1 hE
        · exact ⟨h.2.1, h.2.2⟩))
      have cO1 : Hid (∀ W, Below w.heap.size w W → Calls Tryz.prog 55 #[.agg #[.bool n1, .string a1, .string d1], .int .i64 d, .slice A n c] W (RetVal (.tuple #[.pointer none, .int .i64 EG]) W)) := Lib.hid (fun W hb => (cO.out W hb hn2).mono (fun e w' h => by
        rcases h with h | h
        · exact absurd h.1 hE
        · exact ⟨h.2.1, h.2.2⟩))
      clear cG cO hAll hErr cI0
      go_wp2_with fail
      refine (cG1.out w1 hB.out).mono ?_
      rintro en w2 ⟨rfl, hb⟩
      replace hB := Lib.hid (hB.out.trans (hb.mono hB.out.size))
      replace kBy := Lib.hid (Blk.below kBy.out hb)
      clear hb cG1 b0 b1' b2
      have b0 : w2.cell? ⟨w.heap.size, 0, none⟩ = some (.bool n1) := kBy.out.cell 0
      have b1' : w2.cell? ⟨w.heap.size, 1, none⟩ = some (.string a1) := kBy.out.cell 1
      have b2 : w2.cell? ⟨w.heap.size, 2, none⟩ = some (.string d1) := kBy.out.cell 2
      go_wp2_with fail
      refine (cO1.out w2 hB.out).mono ?_
      rintro en w3 ⟨rfl, hb⟩
      replace hB := Lib.hid (hB.out.trans (hb.mono hB.out.size))
      clear hb cO1 b0 b1' b2
      go_wp2_with fail
      refine (cAw.out _).mono ?_
      rintro en w4 ⟨rfl, hb⟩
      replace hB := Lib.hid (hB.out.trans (hb.mono hB.out.size))
      clear hb
      go_wp2_with fail
      go_ret
      exact ⟨rfl, hB.out⟩
    case pos =>
      subst hE
      obtain ⟨hH, hGo, hGs, hokq⟩ := hAll rfl
      obtain ⟨G, hG⟩ : ∃ G, G = grpE (rowK s t dn) E := ⟨_, rfl⟩
      rw [← hG] at cG cO hH hGo hGs
      have cG0 : Hid (∀ W, Below w.heap.size w W → Calls Tryz.prog 54 #[.agg #[.bool n1, .string a1, .string d1], .int .i64 d, .slice A n c] W (fun e w' => ∃ v' vs, e = .returned (.tuple #[v', .int .i64 0]) ∧ NestP w' W.heap.size 22 26 3 encP [] v' vs G ∧ Below W.heap.size W w')) := Lib.hid (fun W hb => (cG.out W hb hn2).mono (fun e w' h => by
        rcases h with h | h
        · exact h.2
        · exact absurd rfl h.1))
      have cO0 : Hid (∀ W, Below w.heap.size w W → Calls Tryz.prog 55 #[.agg #[.bool n1, .string a1, .string d1], .int .i64 d, .slice A n c] W (fun e w' => ∃ x vL, e = .returned (.tuple #[.pointer (some ⟨x, 0, none⟩), .int .i64 0]) ∧ LamS w' W.heap.size x vL (addF (G.flatMap hullL)) ∧ Below W.heap.size W w')) := Lib.hid (fun W hb => (cO.out W hb hn2).mono (fun e w' h => by
        rcases h with h | h
        · exact h.2
        · exact absurd rfl h.1))
      have hmemE : ∀ g, g ∈ G → ∀ p, p ∈ g → p ∈ E := fun g hg p hp => by
        rw [hG] at hg
        obtain ⟨j, hj, rfl⟩ := grpG_memO hg hp
        exact getBang_memP hj
      have hHl : (G.flatMap hullL).length ≤ 200 := Nat.le_trans (allH_len G) (Nat.le_trans hGs hn2)
      obtain ⟨-, hAlen, hAmem⟩ := addF_pre hH.lf hH.nc hH.nd (by omega) _ (G.flatMap hullL) rfl (List.prefix_refl _)
      have hsz : ∀ g, g ∈ G → g.length ≤ 200 := fun g hg => by
        have h1 : g.length ≤ (G.map List.length).sum := mem_le_sum (List.mem_map.2 ⟨_, hg, rfl⟩)
        omega
      have hGn : G.length ≤ 200 := by
        have h1 : G.length ≤ (G.map List.length).sum := len_le_sum (fun g hg => List.length_pos_iff.2 (hGo.ne g hg))
        omega
      have cOf : Hid (∀ (i : Nat) (p : PT), i < G.length → p ∈ G[i]! → ∀ W, Calls Tryz.prog 58 #[.agg #[.bool n1, .string a1, .string d1], .agg #[.bool false, .string (natS p.1), .string (natS p.2)], .int .i64 d] W (RetRowE (rowK s t dn p).1 (rowK s t dn p).2 0 W)) := Lib.hid (fun i p hi hp W => cI0.out p (hGo.ang _ (getBang_memP hi) p hp) (hErr.out rfl p (hmemE _ (getBang_memP hi) p hp)) W)
      have hMay : Hid (∀ (i : Nat) (p : PT), i < G.length → p ∈ G[i]! → (∀ x, x ∈ (rowK s t dn p).1 → x < 256) ∧ (∀ x, x ∈ (rowK s t dn p).2 → x < 256)) := Lib.hid (fun i p hi hp => by
        have hA := hGo.ang _ (getBang_memP hi) p hp
        obtain ⟨-, -, k3, k4, k5⟩ := ofE_ok (hErr.out rfl p (hmemE _ (getBang_memP hi) p hp))
        simp only [be_natS] at k5
        rw [← hdn.out] at k5
        have h1 := rowK_sizes (s := s) (t := t) (d := dn) (p := p) (by have := hdn.out; omega) (by have := hdn.out; omega) (by have := hA.2.1; omega) k5
        obtain ⟨-, -, m1, m2⟩ := mayI_spec h1
        exact ⟨fun x hx => (symB_facts (m1 x hx)).1, fun x hx => (symB_facts (m2 x hx)).1⟩)
      have hOne : Hid (∀ (i : Nat) (p q : PT), i < G.length → p ∈ G[i]! → q ∈ G[i]! → rowK s t dn p = rowK s t dn q) := Lib.hid (fun i p q hi hp hq => hGo.one _ (getBang_memP hi) p q hp hq)
      have cHu : Hid (∀ (i b : Nat) (u : Value) (W : World), i < G.length → W.ownsRow b 26 3 u G[i]!.length (G[i]!.flatMap encP) → Calls Tryz.prog 12 #[u] W (fun e w' => ∃ v', e = .returned (.tuple #[v', .int .i64 0]) ∧ LRow w' W.heap.size v' (hullL G[i]!) ∧ Below W.heap.size W w')) := Lib.hid (fun i b u W hi hr => lHull_grp b u G[i]! W hr (hGo.ang _ (getBang_memP hi)) (hGo.rise _ (getBang_memP hi)) (hGo.ne _ (getBang_memP hi)) (by have := hsz _ (getBang_memP hi); omega))
      have hNe : Hid (∀ i, i < G.length → 0 < G[i]!.length ∧ G[i]!.length ≤ 200 ∧ (hullL G[i]!).length ≤ 200) := Lib.hid (fun i hi => ⟨List.length_pos_iff.2 (hGo.ne _ (getBang_memP hi)), hsz _ (getBang_memP hi), Nat.le_trans (hull_len _) (hsz _ (getBang_memP hi))⟩)
      have hAng : Hid (∀ i, i < G.length → ∀ p, p ∈ G[i]! → Ang p) := Lib.hid (fun i hi p hp => hGo.ang _ (getBang_memP hi) p hp)
      have hLf : Hid (∀ i, i < G.length → ∀ l, l ∈ hullL G[i]! → Lfp l ∧ l ∈ addF (G.flatMap hullL)) := Lib.hid (fun i hi l hl => by
        have h1 : l ∈ G.flatMap hullL := List.mem_flatMap.2 ⟨_, getBang_memP hi, hl⟩
        exact ⟨hH.lf _ h1, (hAmem l).2 h1⟩)
      have hCr : Hid (∀ i j, i < G.length → j < G.length → ∀ l m, l ∈ hullL G[i]! → m ∈ hullL G[j]! → crossP l m = false) := Lib.hid (fun i j hi hj l m hl hm => hH.nc l m (List.mem_flatMap.2 ⟨_, getBang_memP hi, hl⟩) (List.mem_flatMap.2 ⟨_, getBang_memP hj, hm⟩))
      have hPt : Hid (∀ i, i < G.length → ∀ p q, p ∈ G[i]! → q ∈ G[i]! → ((addF (G.flatMap hullL)).any fun l => partsP l p q) = false) := Lib.hid (fun i hi p q hp hq => List.any_eq_false.2 (fun l hl => by
        rw [hH.parts l ((hAmem l).1 hl) _ (getBang_memP hi) p q hp hq]; exact Bool.false_ne_true))
      have hPl : Hid (∀ i, i < G.length → (preH G i (hullL G[i]!).length) = preH G (i + 1) 0) := Lib.hid (fun i hi => preH_next hi)
      have hFin : Hid ((preH G G.length 0).length = (addF (G.flatMap hullL)).length) := Lib.hid (by rw [preH_end, hAlen])
      have hPb : Hid (∀ i j, i < G.length → (preH G i j).length ≤ 200) := Lib.hid (fun i j hi => Nat.le_trans (preH_pre hi).length_le hHl)
      clear cG cO hAll hErr cI0 hH hGo hGs hokq hG hmemE hHl hAlen hAmem hsz
      go_wp2_with fail
      refine (cG0.out w1 hB.out).mono ?_
      rintro en w2 ⟨v', vs, rfl, hN, hb⟩
      replace hB := Lib.hid (hB.out.trans (hb.mono hB.out.size))
      replace kBy := Lib.hid (Blk.below kBy.out hb)
      obtain ⟨m, hm⟩ : ∃ m, m = G.length := ⟨_, rfl⟩
      have hvl : vs.length = m := by rw [hN.1, hm]
      obtain ⟨Au, cu, rfl, -, hAu⟩ := own_form hN.row
      rw [hvl] at hN hAu ⊢
      have hN2 := Lib.hid hN
      clear hb cG0 b0 b1' b2 hN
      have b0 : w2.cell? ⟨w.heap.size, 0, none⟩ = some (.bool n1) := kBy.out.cell 0
      have b1' : w2.cell? ⟨w.heap.size, 1, none⟩ = some (.string a1) := kBy.out.cell 1
      have b2 : w2.cell? ⟨w.heap.size, 2, none⟩ = some (.string d1) := kBy.out.cell 2
      go_wp2_with fail
      refine (cO0.out w2 hB.out).mono ?_
      rintro en w3 ⟨x, vL, rfl, hS, hb⟩
      replace hB := Lib.hid (hB.out.trans (hb.mono hB.out.size))
      replace kBy := Lib.hid (Blk.below kBy.out hb)
      have hN3 := hN2.out.below hb
      have hr0 : Hid (∀ i, i < m → ∀ W, Below w3.heap.size w3 W → (∀ gu, Au = some ⟨gu, 0, none⟩ → W.cell? ⟨gu, i, none⟩ = some vs[i]!) ∧ W.ownsRow w1.heap.size 26 3 vs[i]! G[i]!.length (G[i]!.flatMap encP)) := Lib.hid (fun i hi W hb => by
        have h := hN3.below hb
        have hi1 : i < vs.length := by rw [hvl]; exact hi
        refine ⟨fun gu e => ?_, ?_⟩
        · subst e
          have h1 := h.row
          rw [hvl] at h1
          rw [World.ownsRow.cellAt h1 i (by omega), List.getElem?_eq_getElem hi1, getElem!_pos vs i hi1]
        · have h1 := h.inner (g := i) hi1
          rw [← getElem!_pos vs i hi1, ← getElem!_pos G i (by rw [← hm]; exact hi)] at h1
          exact h1)
      rw [← hm] at hGn
      obtain ⟨LL, hLL⟩ : ∃ L, L = addF (G.flatMap hullL) := ⟨_, rfl⟩
      rw [← hLL] at hS hLf hPt hFin
      clear hLL
      have cAp : Hid (∀ (i : Nat) (p q : PT) (W : World), i < G.length → p ∈ G[i]! → q ∈ G[i]! → Below w3.heap.size w3 W → Calls Tryz.prog 37 #[.pointer (some ⟨x, 0, none⟩), .agg #[.bool false, .string (natS p.1), .string (natS p.2)], .agg #[.bool false, .string (natS q.1), .string (natS q.2)]] W (RetVal (.tuple #[.bool false, .int .i64 0]) W)) := Lib.hid (fun i p q W hi hp hq hb => by
        have ap := hAng.out i hi p hp
        have aq := hAng.out i hi q hq
        have h := lApart_any _ x vL LL false (natS p.1) (natS p.2) false (natS q.1) (natS q.2) W (hS.below hb) ap.szO.1 ap.szO.2 aq.szO.1 aq.szO.2
        rw [apartR_angO ap aq, hPt.out i hi p q hp hq] at h
        exact h)
      have cHas : Hid (∀ (l : Lf) (W : World), Lfp l → l ∈ LL → Below w3.heap.size w3 W → Calls Tryz.prog 42 #[.pointer (some ⟨x, 0, none⟩), .agg #[.bool false, .string (natS l.1.1), .string (natS l.1.2), .bool false, .string (natS l.2.1), .string (natS l.2.2)]] W (RetVal (.bool true) W)) := Lib.hid (fun l W hl hm hb => by
        have h := lHas_leafO _ x vL LL l W (hS.below hb) hl
        rw [decide_eq_true hm] at h
        exact h)
      have cLen : Hid (∀ W, Below w3.heap.size w3 W → Calls Tryz.prog 29 #[.pointer (some ⟨x, 0, none⟩)] W (RetVal (.int .i64 (LL.length : Int)) W)) := Lib.hid (fun W hb => lLenS _ x vL LL W (hS.below hb))
      have hK : Hid (∀ W, Below w3.heap.size w3 W → Blk W w.heap.size 26 #[.bool n1, .string a1, .string d1]) := Lib.hid (fun W hb => Blk.below kBy.out hb)
      have hC := Lib.hid (Below.refl w3.heap.size w3)
      have hB3 := Lib.hid hB.out
      obtain ⟨i1, ji, jz0, jz1, jz2⟩ := info_parts info_sleaf
      replace hm := Lib.hid hm
      replace hAu := Lib.hid hAu
      clear hb cO0 b0 b1' b2 hN2 hN3 hS kBy hvl hPt hB
      have hH0 : Hid (w3.ownsRow w3.heap.size 27 1 (.slice none 0 0) 0 []) := Lib.hid (World.ownsRow_nil _ _ _ _)
      have hHs0 : Hid (∀ j, j < 0 → ∃ b, LRow w3 b ([] : List Value)[j]! (hullL G[j]!)) := Lib.hid (fun j hj => absurd hj (Nat.not_lt_zero _))
      go_wp2_with fail
      go_loopg [11, 12, 13] m (fun kx s11 s12 s13 wr => ∃ (i : Nat) (vH : Value) (us : List Value), vH = s11 ∧ s12 = .int .i64 ((preH G i 0).length : Int) ∧ s13 = .int .i64 (i : Int) ∧ i ≤ m ∧ m - i ≤ kx ∧ us.length = i ∧ Hid (wr.ownsRow w3.heap.size 27 1 vH i us) ∧ Hid (∀ j, j < i → ∃ b, LRow wr b us[j]! (hullL G[j]!)) ∧ Hid (Below w3.heap.size w3 wr))
      case atStart => exact ⟨0, _, [], rfl, by rw [preH_zero]; rfl, rfl, Nat.zero_le _, Nat.le_refl _, rfl, hH0, hHs0, hC⟩
      case round =>
        clear hC hH0 hHs0
        obtain ⟨i, vH, us, rfl, rfl, rfl, hin, hg, hus, hH, hHs, hC⟩ := hrel
        by_cases hlt : i < m
        case neg =>
          obtain rfl : m = i := by omega
          rw [hm.out, hFin.out, ← hm.out]
          obtain ⟨AH, cH, rfl, -, -⟩ := own_form hH.out
          have hB := Lib.hid (hB3.out.trans (hC.out.mono hB3.out.size))
          have hEq : ((LL.length : Int) == (LL.length : Int)) = true := by simp
          go_wp2_with fail
          refine (cLen.out wr hC.out).mono ?_
          rintro en wq ⟨rfl, hb⟩
          replace hB := Lib.hid (hB.out.trans (hb.mono hB.out.size))
          clear hb
          go_wp2_with fail
          refine (cAw.out _).mono ?_
          rintro en wx ⟨rfl, hb⟩
          replace hB := Lib.hid (hB.out.trans (hb.mono hB.out.size))
          clear hb
          go_wp2_with fail
          go_ret
          exact ⟨rfl, hB.out⟩
        case pos =>
          obtain ⟨gu, rfl⟩ := hAu.out (by omega)
          have hiG : i < G.length := by rw [← hm.out]; exact hlt
          obtain ⟨ei, hei⟩ : ∃ e, e = G[i]!.length := ⟨_, rfl⟩
          have hrw := hr0.out i hlt
          have hne := hNe.out i hiG
          obtain ⟨ui, hui⟩ : ∃ u, u = vs[i]! := ⟨_, rfl⟩
          rw [← hui] at hrw
          rw [← hei] at hrw hne
          obtain ⟨Ai, ci, rfl, -, hAi⟩ := own_form (hrw wr hC.out).2
          obtain ⟨gi, rfl⟩ := hAi hne.1
          have hgc : Hid (∀ W, Below w3.heap.size w3 W → W.cell? ⟨gu, i, none⟩ = some (.slice (some ⟨gi, 0, none⟩) ei ci) ∧ ∀ k, k < ei → ∀ (j : Nat) (u : Value), (encP G[i]![k]!)[j]? = some u → W.cell? ⟨gi, k * 3 + j, none⟩ = some u) := Lib.hid (fun W hb => by
            have h := hrw W hb
            exact ⟨h.1 gu rfl, fun k hk => row_cellP h.2 (by omega) hei⟩)
          have c0 : wr.cell? ⟨gu, i, none⟩ = some (.slice (some ⟨gi, 0, none⟩) ei ci) := (hgc.out wr hC.out).1
          have cHi := Lib.hid (cHu.out i w1.heap.size _ wr hiG (by rw [← hei]; exact (hrw wr hC.out).2))
          have hmemG : Hid (∀ k, k < ei → G[i]![k]! ∈ G[i]!) := Lib.hid (fun k hk => getBang_memP (by omega))
          obtain ⟨p0, hp0⟩ : ∃ p, p = G[i]![0]! := ⟨_, rfl⟩
          obtain ⟨ne1, ne2, ne3⟩ := hne
          have hiz : (i : Int) < (m : Int) := by omega
          have hiz0 : (0 : Int) ≤ (i : Int) := by omega
          have hez : (0 : Int) < (ei : Int) := by omega
          have hwi : Hid (IntKind.i64.wrap ((i : Int) + 1) = (i : Int) + 1) := Lib.hid (by rw [IntKind.wrap_i64]; omega)
          have hpb := hPb.out i 0 hiG
          have hpl := hPl.out i hiG
          obtain ⟨H, hHd⟩ : ∃ H, H = hullL G[i]! := ⟨_, rfl⟩
          obtain ⟨N0, hN0⟩ : ∃ n, n = (preH G i 0).length := ⟨_, rfl⟩
          have hN1 : Hid ((preH G (i + 1) 0).length = N0 + H.length) := Lib.hid (by rw [← hpl, hN0, hHd]; exact preH_lenj (Nat.le_refl _))
          rw [← hHd] at cHi ne3
          rw [← hN0] at hpb ⊢
          have hLfi := Lib.hid (hLf.out i hiG)
          rw [← hHd] at hLfi
          replace hHd := Lib.hid hHd
          replace hN0 := Lib.hid hN0
          replace hei := Lib.hid hei
          replace hui := Lib.hid hui
          replace hp0 := Lib.hid hp0
          replace hus := Lib.hid hus
          clear hrw hAi hpl
          go_wp2_with fail
          refine cHi.out.mono ?_
          rintro en w4 ⟨vh, rfl, hRh, hb⟩
          obtain ⟨hn1, hhn⟩ : ∃ m, m = H.length := ⟨_, rfl⟩
          obtain ⟨Ah, ch, rfl, hAh⟩ := LRow.form hRh
          replace hH := Lib.hid (row_below hH.out hb)
          replace hHs : Hid (∀ j, j < i → ∃ b, LRow w4 b us[j]! (hullL G[j]!)) := Lib.hid (fun j hj => by
            obtain ⟨b, h⟩ := hHs.out j hj
            exact ⟨b, h.below hb⟩)
          replace hC := Lib.hid (hC.out.trans (hb.mono hC.out.size))
          have hRh := Lib.hid hRh
          rw [← hhn] at hRh hAh ne3 hN1 ⊢
          replace hhn := Lib.hid hhn
          replace hAh := Lib.hid hAh
          clear hb cHi c0
          have cI := Lib.hid (cOf.out i p0 (by rw [← hm.out]; exact hlt) (by rw [hp0.out]; exact hmemG.out 0 ne1))
          have hKb := Lib.hid (hK.out w4 hC.out)
          have y0 : w4.cell? ⟨w.heap.size, 0, none⟩ = some (.bool n1) := hKb.out.cell 0
          have y1 : w4.cell? ⟨w.heap.size, 1, none⟩ = some (.string a1) := hKb.out.cell 1
          have y2 : w4.cell? ⟨w.heap.size, 2, none⟩ = some (.string d1) := hKb.out.cell 2
          have y3 : w4.cell? ⟨gu, i, none⟩ = some (.slice (some ⟨gi, 0, none⟩) ei ci) := (hgc.out w4 hC.out).1
          have y4 : w4.cell? ⟨gi, 0, none⟩ = some (.bool false) := (by have h := (hgc.out w4 hC.out).2 0 ne1; rw [← hp0.out] at h; simpa using h 0 _ rfl)
          have y5 : w4.cell? ⟨gi, 1, none⟩ = some (.string (natS p0.1)) := (by have h := (hgc.out w4 hC.out).2 0 ne1; rw [← hp0.out] at h; simpa using h 1 _ rfl)
          have y6 : w4.cell? ⟨gi, 2, none⟩ = some (.string (natS p0.2)) := (by have h := (hgc.out w4 hC.out).2 0 ne1; rw [← hp0.out] at h; simpa using h 2 _ rfl)
          go_upto_region 15 with fail
          go_cut [16, 17] from 70 to 87 (fun s16 s17 wx => ∃ (gS : Nat) (A1 A2 : Option Addr) (lp lq : Nat), s16 = .pointer (some ⟨gS, 0, none⟩) ∧ s17 = .int .i64 0 ∧ Hid (Blk wx gS 120 #[.slice A1 lp lp, .slice A2 lq lq]) ∧ Hid (∃ b, Pf wx b (.slice A1 lp lp) (rowK s t dn p0).1 ∧ Pf wx b (.slice A2 lq lq) (rowK s t dn p0).2) ∧ Hid (lp = (rowK s t dn p0).1.length ∧ lq = (rowK s t dn p0).2.length) ∧ Hid (Below w4.heap.size w4 wx))
          case first =>
            have hE0 := Lib.hid (show Below w4.heap.size w4 w4.drew from (Below.refl _ w4).drew)
            have hE1 := Lib.hid (show Below w4.heap.size w4 (w4.alloc (.cells #[.slice none 0 0, .slice none 0 0] 120)).drew from ((Below.refl _ w4).alloc (Nat.le_refl _) _).drew)
            have q0 : w.heap.size < w4.heap.size := block_lt_of_cell y0
            have q1 : gu < w4.heap.size := block_lt_of_cell y3
            have q2 : gi < w4.heap.size := block_lt_of_cell y4
            go_region_held3 (fun w' => w'.cell? ⟨w.heap.size, 0, none⟩ = some (.bool n1) ∧ w'.cell? ⟨w.heap.size, 1, none⟩ = some (.string a1) ∧ w'.cell? ⟨w.heap.size, 2, none⟩ = some (.string d1) ∧ w'.cell? ⟨gu, i, none⟩ = some (.slice (some ⟨gi, 0, none⟩) ei ci) ∧ w'.cell? ⟨gi, 0, none⟩ = some (.bool false) ∧ w'.cell? ⟨gi, 1, none⟩ = some (.string (natS p0.1)) ∧ w'.cell? ⟨gi, 2, none⟩ = some (.string (natS p0.2))) (first | (have hq0 := x0; with_reducible exact ⟨keep_set2 z0 (by simp; omega), keep_set2 z1 (by simp; omega), keep_set2 z2 (by simp; omega), keep_set2 z3 (by simp; omega), keep_set2 z4 (by simp; omega), keep_set2 z5 (by simp; omega), keep_set2 z6 (by simp; omega)⟩) | go_keep)
              (first
                | (go_at_call 58; (with_reducible refine Calls.mono (cI.out w4.drew) ?_); rintro en w5 ⟨v1, v2, rfl, hP, hQ, hb⟩; obtain ⟨A1, hv1⟩ := hP.2; obtain ⟨A2, hv2⟩ := hQ.2; subst hv1 hv2; obtain ⟨lp, hlp⟩ : ∃ l, l = (rowK s t dn p0).1.length := ⟨_, rfl⟩; obtain ⟨lq, hlq⟩ : ∃ l, l = (rowK s t dn p0).2.length := ⟨_, rfl⟩; rw [← hlp] at hP ⊢; rw [← hlq] at hQ ⊢; replace hlp := Lib.hid hlp; replace hlq := Lib.hid hlq; replace hP := Lib.hid hP.1; replace hQ := Lib.hid hQ.1; have hE := Lib.hid (hE0.out.trans (hb.mono hE0.out.size)); have hC5 := hC.out.trans (hE.out.mono hC.out.size); have z0 : w5.cell? ⟨w.heap.size, 0, none⟩ = some (.bool n1) := (hK.out w5 hC5).cell 0; have z1 : w5.cell? ⟨w.heap.size, 1, none⟩ = some (.string a1) := (hK.out w5 hC5).cell 1; have z2 : w5.cell? ⟨w.heap.size, 2, none⟩ = some (.string d1) := (hK.out w5 hC5).cell 2; have z3 : w5.cell? ⟨gu, i, none⟩ = some (.slice (some ⟨gi, 0, none⟩) ei ci) := (hgc.out w5 hC5).1; have z4 : w5.cell? ⟨gi, 0, none⟩ = some (.bool false) := (by have h := (hgc.out w5 hC5).2 0 ne1; rw [← hp0.out] at h; simpa using h 0 _ rfl); have z5 : w5.cell? ⟨gi, 1, none⟩ = some (.string (natS p0.1)) := (by have h := (hgc.out w5 hC5).2 0 ne1; rw [← hp0.out] at h; simpa using h 1 _ rfl); have z6 : w5.cell? ⟨gi, 2, none⟩ = some (.string (natS p0.2)) := (by have h := (hgc.out w5 hC5).2 0 ne1; rw [← hp0.out] at h; simpa using h 2 _ rfl); clear hb hC5)
                | (go_at_call 58; (with_reducible refine Calls.mono (cI.out (w4.alloc (.cells #[.slice none 0 0, .slice none 0 0] 120)).drew) ?_); rintro en w5 ⟨v1, v2, rfl, hP, hQ, hb⟩; obtain ⟨A1, hv1⟩ := hP.2; obtain ⟨A2, hv2⟩ := hQ.2; subst hv1 hv2; obtain ⟨lp, hlp⟩ : ∃ l, l = (rowK s t dn p0).1.length := ⟨_, rfl⟩; obtain ⟨lq, hlq⟩ : ∃ l, l = (rowK s t dn p0).2.length := ⟨_, rfl⟩; rw [← hlp] at hP ⊢; rw [← hlq] at hQ ⊢; replace hlp := Lib.hid hlp; replace hlq := Lib.hid hlq; replace hP := Lib.hid hP.1; replace hQ := Lib.hid hQ.1; have hX := Lib.hid (show Blk w5 w4.heap.size 120 #[.slice none 0 0, .slice none 0 0] from Blk.below (show Blk (w4.alloc (.cells #[.slice none 0 0, .slice none 0 0] 120)).drew w4.heap.size 120 #[.slice none 0 0, .slice none 0 0] from Blk.new w4 120 #[.slice none 0 0, .slice none 0 0]) hb); have x0 : w5.cell? ⟨w4.heap.size, 0, none⟩ = some (.slice none 0 0) := hX.out.cell 0; have xf0 := hX.out.frozen 0; have x1 : w5.cell? ⟨w4.heap.size, 1, none⟩ = some (.slice none 0 0) := hX.out.cell 1; have xf1 := hX.out.frozen 1; have hE := Lib.hid (hE1.out.trans (hb.mono hE1.out.size)); have hC5 := hC.out.trans (hE.out.mono hC.out.size); have z0 : w5.cell? ⟨w.heap.size, 0, none⟩ = some (.bool n1) := (hK.out w5 hC5).cell 0; have z1 : w5.cell? ⟨w.heap.size, 1, none⟩ = some (.string a1) := (hK.out w5 hC5).cell 1; have z2 : w5.cell? ⟨w.heap.size, 2, none⟩ = some (.string d1) := (hK.out w5 hC5).cell 2; have z3 : w5.cell? ⟨gu, i, none⟩ = some (.slice (some ⟨gi, 0, none⟩) ei ci) := (hgc.out w5 hC5).1; have z4 : w5.cell? ⟨gi, 0, none⟩ = some (.bool false) := (by have h := (hgc.out w5 hC5).2 0 ne1; rw [← hp0.out] at h; simpa using h 0 _ rfl); have z5 : w5.cell? ⟨gi, 1, none⟩ = some (.string (natS p0.1)) := (by have h := (hgc.out w5 hC5).2 0 ne1; rw [← hp0.out] at h; simpa using h 1 _ rfl); have z6 : w5.cell? ⟨gi, 2, none⟩ = some (.string (natS p0.2)) := (by have h := (hgc.out w5 hC5).2 0 ne1; rw [← hp0.out] at h; simpa using h 2 _ rfl); clear hb hC5))
            · have kD := Lib.hid (Blk.new w5 120 #[.slice A1 lp lp, .slice A2 lq lq])
              have hE5 := Lib.hid (show Below w4.heap.size w4 (w5.alloc (.cells #[.slice A1 lp lp, .slice A2 lq lq] 120)) from hE.out.alloc hE.out.size _)
              have hPf : Hid (∃ b, Pf (w5.alloc (.cells #[.slice A1 lp lp, .slice A2 lq lq] 120)) b (.slice A1 lp lp) (rowK s t dn p0).1 ∧ Pf (w5.alloc (.cells #[.slice A1 lp lp, .slice A2 lq lq] 120)) b (.slice A2 lq lq) (rowK s t dn p0).2) := Lib.hid ⟨_, hP.out.alloc (.cells #[.slice A1 lp lp, .slice A2 lq lq] 120), hQ.out.alloc (.cells #[.slice A1 lp lp, .slice A2 lq lq] 120)⟩
              go_wp2_with fail
              go_meet
              case rel => exact ⟨_, A1, A2, lp, lq, rfl, rfl, kD, hPf, Lib.hid ⟨hlp.out, hlq.out⟩, hE5⟩
            · have kD := Lib.hid (show Blk ((w5.setCell ⟨w4.heap.size, 0, none⟩ (.slice A1 lp lp)).setCell ⟨w4.heap.size, 1, none⟩ (.slice A2 lq lq)) w4.heap.size 120 #[.slice A1 lp lp, .slice A2 lq lq] from (hX.out.set_ 0 (.slice A1 lp lp)).set_ 1 (.slice A2 lq lq))
              have hE5 := Lib.hid (show Below w4.heap.size w4 ((w5.setCell ⟨w4.heap.size, 0, none⟩ (.slice A1 lp lp)).setCell ⟨w4.heap.size, 1, none⟩ (.slice A2 lq lq)) from (hE.out.setCell (p := ⟨w4.heap.size, 0, none⟩) (by simp) _).setCell (p := ⟨w4.heap.size, 1, none⟩) (by simp) _)
              have hPf : Hid (∃ b, Pf ((w5.setCell ⟨w4.heap.size, 0, none⟩ (.slice A1 lp lp)).setCell ⟨w4.heap.size, 1, none⟩ (.slice A2 lq lq)) b (.slice A1 lp lp) (rowK s t dn p0).1 ∧ Pf ((w5.setCell ⟨w4.heap.size, 0, none⟩ (.slice A1 lp lp)).setCell ⟨w4.heap.size, 1, none⟩ (.slice A2 lq lq)) b (.slice A2 lq lq) (rowK s t dn p0).2) := Lib.hid ⟨_, pf_set2 hP.out (u0 := .slice A1 lp lp) (u1 := .slice A2 lq lq) (show w4.heap.size < (w4.alloc (.cells #[.slice none 0 0, .slice none 0 0] 120)).drew.heap.size by show w4.heap.size < (w4.alloc (.cells #[.slice none 0 0, .slice none 0 0] 120)).heap.size; simp), pf_set2 hQ.out (show w4.heap.size < (w4.alloc (.cells #[.slice none 0 0, .slice none 0 0] 120)).drew.heap.size by show w4.heap.size < (w4.alloc (.cells #[.slice none 0 0, .slice none 0 0] 120)).heap.size; simp)⟩
              go_wp2_with fail
              go_meet
              case rel => exact ⟨_, A1, A2, lp, lq, rfl, rfl, kD, hPf, Lib.hid ⟨hlp.out, hlq.out⟩, hE5⟩
          skip
          obtain ⟨gS, A1, A2, lp, lq, rfl, rfl, kS, hSf, hSl, hE⟩ := hcut
          replace hH := Lib.hid (row_below hH.out hE.out)
          replace hHs : Hid (∀ j, j < i → ∃ b, LRow wc b us[j]! (hullL G[j]!)) := Lib.hid (fun j hj => by
            obtain ⟨b, h⟩ := hHs.out j hj
            exact ⟨b, h.below hE.out⟩)
          replace hRh := Lib.hid (row_below hRh.out hE.out)
          replace hC := Lib.hid (hC.out.trans (hE.out.mono hC.out.size))
          clear y0 y1 y2 y3 y4 y5 y6 hKb cI hE
          have hCS := Lib.hid hC.out
          generalize hWS : wc = wS at kS hSf hH hHs hRh hC hCS ⊢
          clear hWS
          have hD := Lib.hid (Below.refl wS.heap.size wS)
          go_wp2_with fail
          go_loopg [18] ei (fun kx s18 wr => ∃ k : Nat, s18 = .int .i64 (k : Int) ∧ k ≤ ei ∧ ei - k ≤ kx ∧ Hid (Below wS.heap.size wS wr))
          case atStart => exact ⟨0, rfl, Nat.zero_le _, Nat.le_refl _, hD⟩
          case round =>
            clear hD
            obtain ⟨k, rfl, hkm, hgk, hD⟩ := hrel
            have hC := Lib.hid (hCS.out.trans (hD.out.mono hCS.out.size))
            have c0 : wr.cell? ⟨gu, i, none⟩ = some (.slice (some ⟨gi, 0, none⟩) ei ci) := (hgc.out wr hC.out).1
            by_cases hlk : k < ei
            case pos =>
              obtain ⟨pk, hpk⟩ : ∃ p, p = G[i]![k]! := ⟨_, rfl⟩
              have hmk := hmemG.out k hlk
              have hm0 := hmemG.out 0 ne1
              have hkz : (k : Int) < (ei : Int) := by omega
              have hkz0 : (0 : Int) ≤ (k : Int) := by omega
              have hwk : Hid (IntKind.i64.wrap ((k : Int) + 1) = (k : Int) + 1) := Lib.hid (by rw [IntKind.wrap_i64]; omega)
              rw [← hpk] at hmk
              rw [← hp0.out] at hm0
              replace hpk := Lib.hid hpk
              replace hmk := Lib.hid hmk
              replace hm0 := Lib.hid hm0
              have cI := Lib.hid (cOf.out i pk (by rw [← hm.out]; exact hlt) hmk.out)
              have hKb := Lib.hid (hK.out wr hC.out)
              have y0 : wr.cell? ⟨w.heap.size, 0, none⟩ = some (.bool n1) := hKb.out.cell 0
              have y1 : wr.cell? ⟨w.heap.size, 1, none⟩ = some (.string a1) := hKb.out.cell 1
              have y2 : wr.cell? ⟨w.heap.size, 2, none⟩ = some (.string d1) := hKb.out.cell 2
              have y3 : wr.cell? ⟨gu, i, none⟩ = some (.slice (some ⟨gi, 0, none⟩) ei ci) := (hgc.out wr hC.out).1
              have y4 : wr.cell? ⟨gi, k * 3, none⟩ = some (.bool false) := (by have h := (hgc.out wr hC.out).2 k hlk; rw [← hpk.out] at h; exact h 0 _ rfl)
              have y5 : wr.cell? ⟨gi, k * 3 + 1, none⟩ = some (.string (natS pk.1)) := (by have h := (hgc.out wr hC.out).2 k hlk; rw [← hpk.out] at h; exact h 1 _ rfl)
              have y6 : wr.cell? ⟨gi, k * 3 + 2, none⟩ = some (.string (natS pk.2)) := (by have h := (hgc.out wr hC.out).2 k hlk; rw [← hpk.out] at h; exact h 2 _ rfl)
              go_upto_region 21 with fail
              go_cut [19, 20] from 97 to 142 (fun s16 s17 wx => ∃ (gS : Nat) (A1 A2 : Option Addr) (lp lq : Nat), s16 = .pointer (some ⟨gS, 0, none⟩) ∧ s17 = .int .i64 0 ∧ Hid (Blk wx gS 120 #[.slice A1 lp lp, .slice A2 lq lq]) ∧ Hid (∃ b, Pf wx b (.slice A1 lp lp) (rowK s t dn pk).1 ∧ Pf wx b (.slice A2 lq lq) (rowK s t dn pk).2) ∧ Hid (lp = (rowK s t dn pk).1.length ∧ lq = (rowK s t dn pk).2.length) ∧ Hid (Below wr.heap.size wr wx))
              case first =>
                have hE0 := Lib.hid (show Below wr.heap.size wr wr.drew from (Below.refl _ wr).drew)
                have hE1 := Lib.hid (show Below wr.heap.size wr (wr.alloc (.cells #[.slice none 0 0, .slice none 0 0] 120)).drew from ((Below.refl _ wr).alloc (Nat.le_refl _) _).drew)
                have q0 : w.heap.size < wr.heap.size := block_lt_of_cell y0
                have q1 : gu < wr.heap.size := block_lt_of_cell y3
                have q2 : gi < wr.heap.size := block_lt_of_cell y4
                go_region_held3 (fun w' => w'.cell? ⟨w.heap.size, 0, none⟩ = some (.bool n1) ∧ w'.cell? ⟨w.heap.size, 1, none⟩ = some (.string a1) ∧ w'.cell? ⟨w.heap.size, 2, none⟩ = some (.string d1) ∧ w'.cell? ⟨gu, i, none⟩ = some (.slice (some ⟨gi, 0, none⟩) ei ci) ∧ w'.cell? ⟨gi, k * 3, none⟩ = some (.bool false) ∧ w'.cell? ⟨gi, k * 3 + 1, none⟩ = some (.string (natS pk.1)) ∧ w'.cell? ⟨gi, k * 3 + 2, none⟩ = some (.string (natS pk.2))) (first | (have hq0 := x0; with_reducible exact ⟨keep_set2 z0 (by simp; omega), keep_set2 z1 (by simp; omega), keep_set2 z2 (by simp; omega), keep_set2 z3 (by simp; omega), keep_set2 z4 (by simp; omega), keep_set2 z5 (by simp; omega), keep_set2 z6 (by simp; omega)⟩) | go_keep)
                  (first
                    | (go_at_call 58; (with_reducible refine Calls.mono (cI.out wr.drew) ?_); rintro en w5 ⟨v1, v2, rfl, hP, hQ, hb⟩; obtain ⟨A1, hv1⟩ := hP.2; obtain ⟨A2, hv2⟩ := hQ.2; subst hv1 hv2; obtain ⟨lp, hlp⟩ : ∃ l, l = (rowK s t dn pk).1.length := ⟨_, rfl⟩; obtain ⟨lq, hlq⟩ : ∃ l, l = (rowK s t dn pk).2.length := ⟨_, rfl⟩; rw [← hlp] at hP ⊢; rw [← hlq] at hQ ⊢; replace hlp := Lib.hid hlp; replace hlq := Lib.hid hlq; replace hP := Lib.hid hP.1; replace hQ := Lib.hid hQ.1; have hE := Lib.hid (hE0.out.trans (hb.mono hE0.out.size)); have hC5 := hC.out.trans (hE.out.mono hC.out.size); have z0 : w5.cell? ⟨w.heap.size, 0, none⟩ = some (.bool n1) := (hK.out w5 hC5).cell 0; have z1 : w5.cell? ⟨w.heap.size, 1, none⟩ = some (.string a1) := (hK.out w5 hC5).cell 1; have z2 : w5.cell? ⟨w.heap.size, 2, none⟩ = some (.string d1) := (hK.out w5 hC5).cell 2; have z3 : w5.cell? ⟨gu, i, none⟩ = some (.slice (some ⟨gi, 0, none⟩) ei ci) := (hgc.out w5 hC5).1; have z4 : w5.cell? ⟨gi, k * 3, none⟩ = some (.bool false) := (by have h := (hgc.out w5 hC5).2 k hlk; rw [← hpk.out] at h; exact h 0 _ rfl); have z5 : w5.cell? ⟨gi, k * 3 + 1, none⟩ = some (.string (natS pk.1)) := (by have h := (hgc.out w5 hC5).2 k hlk; rw [← hpk.out] at h; exact h 1 _ rfl); have z6 : w5.cell? ⟨gi, k * 3 + 2, none⟩ = some (.string (natS pk.2)) := (by have h := (hgc.out w5 hC5).2 k hlk; rw [← hpk.out] at h; exact h 2 _ rfl); clear hb hC5)
                    | (go_at_call 58; (with_reducible refine Calls.mono (cI.out (wr.alloc (.cells #[.slice none 0 0, .slice none 0 0] 120)).drew) ?_); rintro en w5 ⟨v1, v2, rfl, hP, hQ, hb⟩; obtain ⟨A1, hv1⟩ := hP.2; obtain ⟨A2, hv2⟩ := hQ.2; subst hv1 hv2; obtain ⟨lp, hlp⟩ : ∃ l, l = (rowK s t dn pk).1.length := ⟨_, rfl⟩; obtain ⟨lq, hlq⟩ : ∃ l, l = (rowK s t dn pk).2.length := ⟨_, rfl⟩; rw [← hlp] at hP ⊢; rw [← hlq] at hQ ⊢; replace hlp := Lib.hid hlp; replace hlq := Lib.hid hlq; replace hP := Lib.hid hP.1; replace hQ := Lib.hid hQ.1; have hX := Lib.hid (show Blk w5 wr.heap.size 120 #[.slice none 0 0, .slice none 0 0] from Blk.below (show Blk (wr.alloc (.cells #[.slice none 0 0, .slice none 0 0] 120)).drew wr.heap.size 120 #[.slice none 0 0, .slice none 0 0] from Blk.new wr 120 #[.slice none 0 0, .slice none 0 0]) hb); have x0 : w5.cell? ⟨wr.heap.size, 0, none⟩ = some (.slice none 0 0) := hX.out.cell 0; have xf0 := hX.out.frozen 0; have x1 : w5.cell? ⟨wr.heap.size, 1, none⟩ = some (.slice none 0 0) := hX.out.cell 1; have xf1 := hX.out.frozen 1; have hE := Lib.hid (hE1.out.trans (hb.mono hE1.out.size)); have hC5 := hC.out.trans (hE.out.mono hC.out.size); have z0 : w5.cell? ⟨w.heap.size, 0, none⟩ = some (.bool n1) := (hK.out w5 hC5).cell 0; have z1 : w5.cell? ⟨w.heap.size, 1, none⟩ = some (.string a1) := (hK.out w5 hC5).cell 1; have z2 : w5.cell? ⟨w.heap.size, 2, none⟩ = some (.string d1) := (hK.out w5 hC5).cell 2; have z3 : w5.cell? ⟨gu, i, none⟩ = some (.slice (some ⟨gi, 0, none⟩) ei ci) := (hgc.out w5 hC5).1; have z4 : w5.cell? ⟨gi, k * 3, none⟩ = some (.bool false) := (by have h := (hgc.out w5 hC5).2 k hlk; rw [← hpk.out] at h; exact h 0 _ rfl); have z5 : w5.cell? ⟨gi, k * 3 + 1, none⟩ = some (.string (natS pk.1)) := (by have h := (hgc.out w5 hC5).2 k hlk; rw [← hpk.out] at h; exact h 1 _ rfl); have z6 : w5.cell? ⟨gi, k * 3 + 2, none⟩ = some (.string (natS pk.2)) := (by have h := (hgc.out w5 hC5).2 k hlk; rw [← hpk.out] at h; exact h 2 _ rfl); clear hb hC5))
                · have kD := Lib.hid (Blk.new w5 120 #[.slice A1 lp lp, .slice A2 lq lq])
                  have hE5 := Lib.hid (show Below wr.heap.size wr (w5.alloc (.cells #[.slice A1 lp lp, .slice A2 lq lq] 120)) from hE.out.alloc hE.out.size _)
                  have hPf : Hid (∃ b, Pf (w5.alloc (.cells #[.slice A1 lp lp, .slice A2 lq lq] 120)) b (.slice A1 lp lp) (rowK s t dn pk).1 ∧ Pf (w5.alloc (.cells #[.slice A1 lp lp, .slice A2 lq lq] 120)) b (.slice A2 lq lq) (rowK s t dn pk).2) := Lib.hid ⟨_, hP.out.alloc (.cells #[.slice A1 lp lp, .slice A2 lq lq] 120), hQ.out.alloc (.cells #[.slice A1 lp lp, .slice A2 lq lq] 120)⟩
                  go_wp2_with fail
                  go_meet
                  case rel => exact ⟨_, A1, A2, lp, lq, rfl, rfl, kD, hPf, Lib.hid ⟨hlp.out, hlq.out⟩, hE5⟩
                · have kD := Lib.hid (show Blk ((w5.setCell ⟨wr.heap.size, 0, none⟩ (.slice A1 lp lp)).setCell ⟨wr.heap.size, 1, none⟩ (.slice A2 lq lq)) wr.heap.size 120 #[.slice A1 lp lp, .slice A2 lq lq] from (hX.out.set_ 0 (.slice A1 lp lp)).set_ 1 (.slice A2 lq lq))
                  have hE5 := Lib.hid (show Below wr.heap.size wr ((w5.setCell ⟨wr.heap.size, 0, none⟩ (.slice A1 lp lp)).setCell ⟨wr.heap.size, 1, none⟩ (.slice A2 lq lq)) from (hE.out.setCell (p := ⟨wr.heap.size, 0, none⟩) (by simp) _).setCell (p := ⟨wr.heap.size, 1, none⟩) (by simp) _)
                  have hPf : Hid (∃ b, Pf ((w5.setCell ⟨wr.heap.size, 0, none⟩ (.slice A1 lp lp)).setCell ⟨wr.heap.size, 1, none⟩ (.slice A2 lq lq)) b (.slice A1 lp lp) (rowK s t dn pk).1 ∧ Pf ((w5.setCell ⟨wr.heap.size, 0, none⟩ (.slice A1 lp lp)).setCell ⟨wr.heap.size, 1, none⟩ (.slice A2 lq lq)) b (.slice A2 lq lq) (rowK s t dn pk).2) := Lib.hid ⟨_, pf_set2 hP.out (u0 := .slice A1 lp lp) (u1 := .slice A2 lq lq) (show wr.heap.size < (wr.alloc (.cells #[.slice none 0 0, .slice none 0 0] 120)).drew.heap.size by show wr.heap.size < (wr.alloc (.cells #[.slice none 0 0, .slice none 0 0] 120)).heap.size; simp), pf_set2 hQ.out (show wr.heap.size < (wr.alloc (.cells #[.slice none 0 0, .slice none 0 0] 120)).drew.heap.size by show wr.heap.size < (wr.alloc (.cells #[.slice none 0 0, .slice none 0 0] 120)).heap.size; simp)⟩
                  go_wp2_with fail
                  go_meet
                  case rel => exact ⟨_, A1, A2, lp, lq, rfl, rfl, kD, hPf, Lib.hid ⟨hlp.out, hlq.out⟩, hE5⟩
              obtain ⟨gT, B1, B2, lp2, lq2, rfl, rfl, kT, hTf, hTl, hE⟩ := hcut
              have hDc := Lib.hid (hD.out.trans (hE.out.mono hD.out.size))
              have hCc := Lib.hid (hC.out.trans (hE.out.mono hC.out.size))
              clear y0 y1 y2 y3 y4 y5 y6 hKb cI hE hD hC c0
              have cM : ∀ d os, Calls Tryz.prog 37 #[.pointer (some ⟨x, 0, none⟩), .agg #[.bool false, .string (natS p0.1), .string (natS p0.2)], .agg #[.bool false, .string (natS pk.1), .string (natS pk.2)]] (grow (redrawn wc d) os) fun e w'' => e = .returned (.tuple #[.bool false, .int .i64 0]) ∧ ∃ p : Regrown, w'' = grow (redrawn wc p.d) p.os := fun d os => Calls.regrown_of (cAp.out i p0 pk _ hiG hm0.out hmk.out (hCc.out.trans ((below_regrown wc d os).mono hCc.out.size)))
              have c0r : ∀ d os, (grow (redrawn wc d) os).cell? ⟨gu, i, none⟩ = some (.slice (some ⟨gi, 0, none⟩) ei ci) := cell_regrown (hgc.out wc hCc.out).1
              have s0 : ∀ d os, (grow (redrawn wc d) os).cell? ⟨gi, 0, none⟩ = some (.bool false) := cell_regrown (by have h := (hgc.out wc hCc.out).2 0 ne1; rw [← hp0.out] at h; simpa using h 0 _ rfl)
              have s1 : ∀ d os, (grow (redrawn wc d) os).cell? ⟨gi, 1, none⟩ = some (.string (natS p0.1)) := cell_regrown (by have h := (hgc.out wc hCc.out).2 0 ne1; rw [← hp0.out] at h; simpa using h 1 _ rfl)
              have s2 : ∀ d os, (grow (redrawn wc d) os).cell? ⟨gi, 2, none⟩ = some (.string (natS p0.2)) := cell_regrown (by have h := (hgc.out wc hCc.out).2 0 ne1; rw [← hp0.out] at h; simpa using h 2 _ rfl)
              have r0 : ∀ d os, (grow (redrawn wc d) os).cell? ⟨gi, k * 3, none⟩ = some (.bool false) := cell_regrown (by have h := (hgc.out wc hCc.out).2 k hlk; rw [← hpk.out] at h; exact h 0 _ rfl)
              have r1 : ∀ d os, (grow (redrawn wc d) os).cell? ⟨gi, k * 3 + 1, none⟩ = some (.string (natS pk.1)) := cell_regrown (by have h := (hgc.out wc hCc.out).2 k hlk; rw [← hpk.out] at h; exact h 1 _ rfl)
              have r2 : ∀ d os, (grow (redrawn wc d) os).cell? ⟨gi, k * 3 + 2, none⟩ = some (.string (natS pk.2)) := cell_regrown (by have h := (hgc.out wc hCc.out).2 k hlk; rw [← hpk.out] at h; exact h 2 _ rfl)
              go_upto_region 22 with fail
              refine wp_region_quiet_below (by kernel_rfl) (by kernel_rfl) ?_
              iterate 14 (quiet_step (fail))
              quiet_step (exact cM _ _)
              iterate 5 (quiet_step (fail))
              refine wpQuiet_nil ?_
              intro w6 hw'
              have hE : Hid (Below wc.heap.size wc w6) := Lib.hid (by
                obtain ⟨p, rfl⟩ := hw'
                exact below_regrown wc p.d p.os)
              clear hw'
              replace hDc := Lib.hid (hDc.out.trans (hE.out.mono hDc.out.size))
              replace kT := Lib.hid (Blk.below kT.out hE.out)
              have hrk := hOne.out i p0 pk hiG hm0.out hmk.out
              have hmy := hMay.out i p0 hiG hm0.out
              obtain ⟨bT, hT1, hT2⟩ := hTf.out
              obtain ⟨bS, hS1, hS2⟩ := hSf.out
              obtain ⟨hSl1, hSl2⟩ := hSl.out
              obtain ⟨hTl1, hTl2⟩ := hTl.out
              rw [← hrk] at hT1 hT2 hTl1 hTl2
              obtain rfl : lp2 = lp := by omega
              obtain rfl : lq2 = lq := by omega
              have kS6 := Lib.hid (Blk.below kS.out hDc.out)
              have hSR := Lib.hid (lsameRows_eq A1 A2 B1 B2 _ _ _ _ _ _ w6 (hS1.below hDc.out) (hS2.below hDc.out) (hT1.below hE.out) (hT2.below hE.out) hmy.1 hmy.2)
              have u0 : w6.cell? ⟨gS, 0, none⟩ = some (.slice A1 lp2 lp2) := kS6.out.cell 0
              have u1 : w6.cell? ⟨gS, 1, none⟩ = some (.slice A2 lq2 lq2) := kS6.out.cell 1
              have t0 : w6.cell? ⟨gT, 0, none⟩ = some (.slice B1 lp2 lp2) := kT.out.cell 0
              have t1 : w6.cell? ⟨gT, 1, none⟩ = some (.slice B2 lq2 lq2) := kT.out.cell 1
              have hwk := hwk.out
              clear cM c0r s0 s1 s2 r0 r1 r2 hE hrk hmy hT1 hT2 hS1 hS2 hSl1 hSl2 hTl1 hTl2 kS6 kT
              go_wp2_with fail
              refine hSR.out.mono ?_
              rintro en w7 ⟨rfl, hb⟩
              replace hDc := Lib.hid (hDc.out.trans (hb.mono hDc.out.size))
              clear hb hSR u0 u1 t0 t1
              go_wp2_with fail
              go_roundg (ei - (k + 1))
              case measure => omega
              case rel => exact ⟨k + 1, by simp, by omega, Nat.le_refl _, hDc⟩
            case neg =>
              obtain rfl : ei = k := by omega
              replace hH := Lib.hid (row_below hH.out hD.out)
              replace hHs : Hid (∀ j, j < i → ∃ b, LRow wr b us[j]! (hullL G[j]!)) := Lib.hid (fun j hj => by
                obtain ⟨b, h⟩ := hHs.out j hj
                exact ⟨b, h.below hD.out⟩)
              replace hRh := Lib.hid (row_below hRh.out hD.out)
              clear kS hSf hD hCS
              have hCS := Lib.hid hC.out
              go_upto_region 25 with fail
              generalize hWS : wr = wT at hH hHs hRh hC hCS ⊢
              clear hWS
              have hD := Lib.hid (Below.refl wT.heap.size wT)
              go_wp2_with fail
              go_loopg [12, 23] hn1 (fun kx s12 s23 wr => ∃ k : Nat, s12 = .int .i64 ((N0 + k : Nat) : Int) ∧ s23 = .int .i64 (k : Int) ∧ k ≤ hn1 ∧ hn1 - k ≤ kx ∧ Hid (Below wT.heap.size wT wr))
              case atStart => exact ⟨0, rfl, rfl, Nat.zero_le _, Nat.le_refl _, hD⟩
              case round =>
                clear hD
                obtain ⟨k, rfl, rfl, hkm, hgk, hD⟩ := hrel
                have hC := Lib.hid (hCS.out.trans (hD.out.mono hCS.out.size))
                by_cases hlk : k < hn1
                case pos =>
                  obtain ⟨gh, hgh⟩ := hAh.out (by omega)
                  subst hgh
                  obtain ⟨l, hl⟩ : ∃ l, l = H[k]! := ⟨_, rfl⟩
                  have hkH : k < H.length := by rw [← hhn.out]; exact hlk
                  have hlm : l ∈ H := by rw [hl]; exact getBang_memP hkH
                  obtain ⟨hlp, hlL⟩ := hLfi.out l hlm
                  have hcl : Hid (∀ W, Below wT.heap.size wT W → ∀ (q : Nat) (u : Value), (leafE l)[q]? = some u → W.cell? ⟨gh, k * 6 + q, none⟩ = some u) := Lib.hid (fun W hb => by
                    rw [hl]
                    exact LRow.cell (LRow.below hRh.out hb) hkH)
                  have cHl := Lib.hid (fun W hb => cHas.out l W hlp hlL hb)
                  have hkz : (k : Int) < (hn1 : Int) := by omega
                  have hkz0 : (0 : Int) ≤ (k : Int) := by omega
                  have hwk : Hid (IntKind.i64.wrap ((k : Int) + 1) = (k : Int) + 1) := Lib.hid (by rw [IntKind.wrap_i64]; omega)
                  have hwn : Hid (IntKind.i64.wrap (((N0 + k : Nat) : Int) + 1) = ((N0 + (k + 1) : Nat) : Int)) := Lib.hid (by rw [IntKind.wrap_i64]; omega)
                  replace hl := Lib.hid hl
                  replace hlm := Lib.hid hlm
                  replace hlp := Lib.hid hlp
                  clear hlL
                  have p0 : wr.cell? ⟨gh, k * 6, none⟩ = some (.bool false) := hcl.out wr hD.out 0 _ rfl
                  have p1 : wr.cell? ⟨gh, k * 6 + 1, none⟩ = some (.string (natS l.1.1)) := hcl.out wr hD.out 1 _ rfl
                  have p2 : wr.cell? ⟨gh, k * 6 + 2, none⟩ = some (.string (natS l.1.2)) := hcl.out wr hD.out 2 _ rfl
                  have p3 : wr.cell? ⟨gh, k * 6 + 3, none⟩ = some (.bool false) := hcl.out wr hD.out 3 _ rfl
                  have p4 : wr.cell? ⟨gh, k * 6 + 4, none⟩ = some (.string (natS l.2.1)) := hcl.out wr hD.out 4 _ rfl
                  have p5 : wr.cell? ⟨gh, k * 6 + 5, none⟩ = some (.string (natS l.2.2)) := hcl.out wr hD.out 5 _ rfl
                  go_wp2_with fail
                  refine (cHl.out wr hC.out).mono ?_
                  rintro en w7 ⟨rfl, hb⟩
                  replace hD := Lib.hid (hD.out.trans (hb.mono hD.out.size))
                  clear hb hC cHl p0 p1 p2 p3 p4 p5
                  go_wp2_with fail
                  go_loopg [24] i (fun kx s24 wr => ∃ j : Nat, s24 = .int .i64 (j : Int) ∧ j ≤ i ∧ i - j ≤ kx ∧ Hid (Below wT.heap.size wT wr))
                  case atStart => exact ⟨0, rfl, Nat.zero_le _, Nat.le_refl _, hD⟩
                  case round =>
                    clear hD
                    obtain ⟨j, rfl, hjm, hgj, hD⟩ := hrel
                    have hH2 := Lib.hid (row_below hH.out hD.out)
                    obtain ⟨AH, cH, hvH, -, hAH⟩ := own_form hH2.out
                    subst hvH
                    by_cases hlj : j < i
                    case neg =>
                      obtain rfl : i = j := by omega
                      have hwk := hwk.out
                      have hwn := hwn.out
                      go_wp2_with fail
                      go_roundg (hn1 - (k + 1))
                      case measure => omega
                      case rel => exact ⟨k + 1, by congr 1, by simp, by omega, Nat.le_refl _, hD⟩
                    case pos =>
                      obtain ⟨gH, rfl⟩ := hAH (by omega)
                      obtain ⟨Hj, hHj⟩ : ∃ H, H = hullL G[j]! := ⟨_, rfl⟩
                      obtain ⟨uj, huj⟩ : ∃ u, u = us[j]! := ⟨_, rfl⟩
                      have hjG : j < G.length := by omega
                      have hRj : Hid (∃ b, LRow wT b uj Hj) := Lib.hid (by rw [huj, hHj]; exact hHs.out j hlj)
                      have hcj : Hid (∀ W, Below wT.heap.size wT W → W.cell? ⟨gH, j, none⟩ = some uj) := Lib.hid (fun W hb => by
                        rw [World.ownsRow.cellAt (row_below hH.out hb) j (by omega), List.getElem?_eq_getElem (by rw [hus.out]; exact hlj), huj, getElem!_pos us j (by rw [hus.out]; exact hlj)])
                      obtain ⟨lj, hlj2⟩ : ∃ l, l = Hj.length := ⟨_, rfl⟩
                      have hljb : lj ≤ 200 := by rw [hlj2, hHj]; exact (hNe.out j hjG).2.2
                      have hform : ∃ A c, uj = .slice A Hj.length c ∧ (0 < Hj.length → ∃ g, A = some ⟨g, 0, none⟩) := by
                        obtain ⟨b, h⟩ := hRj.out
                        exact LRow.form h
                      obtain ⟨Aj, cj, rfl, hAj⟩ := hform
                      rw [← hlj2] at hRj hcj hAj
                      have hcx : Hid (∀ o, o < Hj.length → Lfp Hj[o]! ∧ crossP l Hj[o]! = false) := Lib.hid (fun o ho => by
                        have h1 : Hj[o]! ∈ hullL G[j]! := by rw [← hHj]; exact getBang_memP ho
                        refine ⟨(hLf.out j hjG _ h1).1, hCr.out i j (by omega) hjG l _ ?_ h1⟩
                        rw [← hHd.out]; exact hlm.out)
                      have hjz : (j : Int) < (i : Int) := by omega
                      have hjz0 : (0 : Int) ≤ (j : Int) := by omega
                      have hwj : Hid (IntKind.i64.wrap ((j : Int) + 1) = (j : Int) + 1) := Lib.hid (by rw [IntKind.wrap_i64]; omega)
                      replace hHj := Lib.hid hHj
                      replace huj := Lib.hid huj
                      replace hlj2 := Lib.hid hlj2
                      replace hAj := Lib.hid hAj
                      clear hH2 hAH
                      go_wp2_with fail
                      go_loopg [25] lj (fun kx s25 wr => ∃ o : Nat, s25 = .int .i64 (o : Int) ∧ o ≤ lj ∧ lj - o ≤ kx ∧ Hid (Below wT.heap.size wT wr))
                      case atStart => exact ⟨0, rfl, Nat.zero_le _, Nat.le_refl _, hD⟩
                      case round =>
                        clear hD
                        obtain ⟨o, rfl, hom, hgo, hD⟩ := hrel
                        have c1 := hcj.out wr hD.out
                        by_cases hlo : o < lj
                        case neg =>
                          obtain rfl : lj = o := by omega
                          have hwj := hwj.out
                          go_wp2_with fail
                          go_roundg (i - (j + 1))
                          case measure => omega
                          case rel => exact ⟨j + 1, by simp, by omega, Nat.le_refl _, hD⟩
                        case pos =>
                          obtain ⟨gj, hgj2⟩ := hAj.out (by omega)
                          subst hgj2
                          obtain ⟨l2, hl2⟩ : ∃ l, l = Hj[o]! := ⟨_, rfl⟩
                          have hoH : o < Hj.length := by rw [← hlj2.out]; exact hlo
                          have hx := hcx.out o hoH
                          rw [← hl2] at hx
                          have hCL : ∀ (q : Nat) (u : Value), (leafE l2)[q]? = some u → wr.cell? ⟨gj, o * 6 + q, none⟩ = some u := by
                            obtain ⟨b, h⟩ := hRj.out
                            rw [hl2]
                            exact LRow.cell (h.below hD.out) hoH
                          have cM : ∀ d os, Calls Tryz.prog 18 #[.agg #[.bool false, .string (natS l.1.1), .string (natS l.1.2), .bool false, .string (natS l.2.1), .string (natS l.2.2)], .agg #[.bool false, .string (natS l2.1.1), .string (natS l2.1.2), .bool false, .string (natS l2.2.1), .string (natS l2.2.2)]] (grow (redrawn wr d) os) fun e w'' => e = .returned (.tuple #[.bool false, .int .i64 0]) ∧ ∃ p : Regrown, w'' = grow (redrawn wr p.d) p.os := fun d os => by
                            have h := lCross_lfpO hlp.out hx.1 (grow (redrawn wr d) os)
                            rw [hx.2] at h
                            exact Calls.regrown_of h
                          have c1r : ∀ d os, (grow (redrawn wr d) os).cell? ⟨gH, j, none⟩ = some (.slice (some ⟨gj, 0, none⟩) lj cj) := cell_regrown c1
                          have hoz : (o : Int) < (lj : Int) := by omega
                          have hoz0 : (0 : Int) ≤ (o : Int) := by omega
                          have hwo : Hid (IntKind.i64.wrap ((o : Int) + 1) = (o : Int) + 1) := Lib.hid (by rw [IntKind.wrap_i64]; omega)
                          replace hl2 := Lib.hid hl2
                          have p0 : ∀ d os, (grow (redrawn wr d) os).cell? ⟨gh, k * 6, none⟩ = some (.bool false) := cell_regrown (hcl.out wr hD.out 0 _ rfl)
                          have p1 : ∀ d os, (grow (redrawn wr d) os).cell? ⟨gh, k * 6 + 1, none⟩ = some (.string (natS l.1.1)) := cell_regrown (hcl.out wr hD.out 1 _ rfl)
                          have p2 : ∀ d os, (grow (redrawn wr d) os).cell? ⟨gh, k * 6 + 2, none⟩ = some (.string (natS l.1.2)) := cell_regrown (hcl.out wr hD.out 2 _ rfl)
                          have p3 : ∀ d os, (grow (redrawn wr d) os).cell? ⟨gh, k * 6 + 3, none⟩ = some (.bool false) := cell_regrown (hcl.out wr hD.out 3 _ rfl)
                          have p4 : ∀ d os, (grow (redrawn wr d) os).cell? ⟨gh, k * 6 + 4, none⟩ = some (.string (natS l.2.1)) := cell_regrown (hcl.out wr hD.out 4 _ rfl)
                          have p5 : ∀ d os, (grow (redrawn wr d) os).cell? ⟨gh, k * 6 + 5, none⟩ = some (.string (natS l.2.2)) := cell_regrown (hcl.out wr hD.out 5 _ rfl)
                          have r0 : ∀ d os, (grow (redrawn wr d) os).cell? ⟨gj, o * 6, none⟩ = some (.bool false) := cell_regrown (hCL 0 _ rfl)
                          have r1 : ∀ d os, (grow (redrawn wr d) os).cell? ⟨gj, o * 6 + 1, none⟩ = some (.string (natS l2.1.1)) := cell_regrown (hCL 1 _ rfl)
                          have r2 : ∀ d os, (grow (redrawn wr d) os).cell? ⟨gj, o * 6 + 2, none⟩ = some (.string (natS l2.1.2)) := cell_regrown (hCL 2 _ rfl)
                          have r3 : ∀ d os, (grow (redrawn wr d) os).cell? ⟨gj, o * 6 + 3, none⟩ = some (.bool false) := cell_regrown (hCL 3 _ rfl)
                          have r4 : ∀ d os, (grow (redrawn wr d) os).cell? ⟨gj, o * 6 + 4, none⟩ = some (.string (natS l2.2.1)) := cell_regrown (hCL 4 _ rfl)
                          have r5 : ∀ d os, (grow (redrawn wr d) os).cell? ⟨gj, o * 6 + 5, none⟩ = some (.string (natS l2.2.2)) := cell_regrown (hCL 5 _ rfl)
                          clear hCL hx
                          go_upto_region 36 with fail
                          refine wp_region_quiet_below (by kernel_rfl) (by kernel_rfl) ?_
                          iterate 11 (quiet_step (fail))
                          quiet_step (exact cM _ _)
                          iterate 5 (quiet_step (fail))
                          refine wpQuiet_nil ?_
                          intro w8 hw'
                          have hE : Hid (Below wr.heap.size wr w8) := Lib.hid (by
                            obtain ⟨p, rfl⟩ := hw'
                            exact below_regrown wr p.d p.os)
                          clear hw'
                          replace hD := Lib.hid (hD.out.trans (hE.out.mono hD.out.size))
                          have hwo := hwo.out
                          clear hE cM c1r c1 p0 r0 p1 r1 p2 r2 p3 r3 p4 r4 p5 r5
                          go_wp2_with fail
                          go_roundg (lj - (o + 1))
                          case measure => omega
                          case rel => exact ⟨o + 1, by simp, by omega, Nat.le_refl _, hD⟩
                case neg =>
                  obtain rfl : hn1 = k := by omega
                  replace hH := Lib.hid (row_below hH.out hD.out)
                  replace hHs : Hid (∀ j, j < i → ∃ b, LRow wr b us[j]! (hullL G[j]!)) := Lib.hid (fun j hj => by
                    obtain ⟨b, h⟩ := hHs.out j hj
                    exact ⟨b, h.below hD.out⟩)
                  replace hRh := Lib.hid (row_below hRh.out hD.out)
                  clear hD hCS
                  have hCsz := hC.out.size
                  obtain ⟨AH, cH, rfl, -, -⟩ := own_form hH.out
                  rw [← hN1.out]
                  have hwi := hwi.out
                  go_wp2_with (at_builtin; refine wpList_append_own_at _ rfl _ _ 117 rfl w3.heap.size 27 i1 (.slice none 0 0) 1 24 Tryz.underlying117 ji jz0 jz1 jz2 rfl (by decide) _ _ _ rfl (hH.out.alloc _) ⟨wr.heap.size, 0, none⟩ 1 1 [.slice Ah hn1 ch] rfl rfl (news_new wr 27 [.slice Ah hn1 ch]) (fun u hu => by rw [List.mem_singleton.1 hu]; rfl) (by unfold maxLen; omega) (by omega) (by simp; omega) ?_; intro v' w9 hown' hgrow' _ hloc'; replace hown' := Lib.hid hown'; replace hgrow' := Lib.hid hgrow'; clear hloc')
                  have hHn : Hid (∀ j, j < i + 1 → ∃ b, LRow w9 b (us ++ [.slice Ah hn1 ch])[j]! (hullL G[j]!)) := Lib.hid (fun j hj => by
                    rcases Nat.lt_or_ge j i with h | h
                    · obtain ⟨b, h2⟩ := hHs.out j h
                      have e : (us ++ [Value.slice Ah hn1 ch])[j]! = us[j]! := by
                        rw [getElem!_pos (us ++ [Value.slice Ah hn1 ch]) j (by rw [List.length_append, hus.out]; omega), getElem!_pos us j (by rw [hus.out]; exact h), List.getElem_append_left (by rw [hus.out]; exact h)]
                      rw [e]
                      exact ⟨b, World.ownsRow.kept (World.ownsRow.alloc h2 _) hgrow'.out (row_apart h2 hH.out (by decide))⟩
                    · obtain rfl : j = i := by omega
                      have e : (us ++ [Value.slice Ah hn1 ch])[j]! = .slice Ah hn1 ch := by
                        rw [getElem!_pos (us ++ [Value.slice Ah hn1 ch]) j (by rw [List.length_append, hus.out]; simp)]
                        simp [hus.out]
                      rw [e, ← hHd.out]
                      have h2 := hRh.out
                      exact ⟨_, World.ownsRow.kept (World.ownsRow.alloc h2 _) hgrow'.out (row_apart h2 hH.out (by decide))⟩)
                  have hC9 : Hid (Below w3.heap.size w3 w9) := Lib.hid ((hC.out.alloc hC.out.size _).grown hgrow'.out (by simp; omega) (fun q hq => (World.ownsRow.lt hH.out q hq).1))
                  have hH9 : Hid (w9.ownsRow w3.heap.size 27 1 v' (i + 1) (us ++ [.slice Ah hn1 ch])) := Lib.hid hown'.out
                  clear hgrow' hown' hH hHs hRh hC hCsz
                  go_wp2_with fail
                  go_roundg (m - (i + 1))
                  case measure => omega
                  case rel => exact ⟨i + 1, _, us ++ [.slice Ah hn1 ch], rfl, rfl, by simp, by omega, Nat.le_refl _, by rw [List.length_append, hus.out]; rfl, hH9, hHn, hC9⟩
end Go.Proofs.YtoaggmegmgdgbaaGreat
