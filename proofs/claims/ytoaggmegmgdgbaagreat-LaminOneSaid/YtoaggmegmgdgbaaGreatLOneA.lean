import Derived.Test.YtoaggmegmgdgbaaGreatLOf
namespace Go.Proofs.YtoaggmegmgdgbaaGreat
open Go.RowKit Go.Sort Go.Maps
theorem Ang.szO {p : Nat × Nat} (h : Ang p) : (natS p.1).size ≤ 9223372036854775807 ∧ (natS p.2).size ≤ 9223372036854775807 := okA_size h.ok
theorem chkLf_lfpO {l : Lf} (h : Lfp l) : chkLf false (natS l.1.1) (natS l.1.2) false (natS l.2.1) (natS l.2.2) = 0 := by
  rw [chkLf_leaf l h.1, if_neg (by have := h.2; omega), if_neg (by have := h.2; omega)]
theorem lHas_leafO (B x : Nat) (v : Value) (L : List Lf) (l : Lf) (w : World) (hS : LamS w B x v L) (hl : Lfp l) :
    Calls Tryz.prog 42 #[.pointer (some ⟨x, 0, none⟩), .agg #[.bool false, .string (natS l.1.1), .string (natS l.1.2), .bool false, .string (natS l.2.1), .string (natS l.2.2)]] w (RetVal (.bool (decide (l ∈ L))) w) := by
  have h := lHas_all B x v L false (natS l.1.1) (natS l.1.2) false (natS l.2.1) (natS l.2.2) w hS hl.1.1.szO.1 hl.1.1.szO.2 hl.1.2.szO.1 hl.1.2.szO.2
  have e : hasR L false (natS l.1.1) (natS l.1.2) false (natS l.2.1) (natS l.2.2) = decide (l ∈ L) := by
    unfold hasR
    rw [be_natS, be_natS, be_natS, be_natS]
    exact decide_eq_decide.2 ⟨fun h => h.2, fun h => ⟨chkLf_lfpO hl, h⟩⟩
  rw [e] at h
  exact h
theorem lCross_lfpO {l m : Lf} (hl : Lfp l) (hm : Lfp m) (w : World) : Calls Tryz.prog 18 #[.agg #[.bool false, .string (natS l.1.1), .string (natS l.1.2), .bool false, .string (natS l.2.1), .string (natS l.2.2)], .agg #[.bool false, .string (natS m.1.1), .string (natS m.1.2), .bool false, .string (natS m.2.1), .string (natS m.2.2)]] w (RetVal (.tuple #[.bool (crossP l m), .int .i64 0]) w) := by
  have h := lCross_any false (natS l.1.1) (natS l.1.2) false (natS l.2.1) (natS l.2.2) false (natS m.1.1) (natS m.1.2) false (natS m.2.1) (natS m.2.2) w hl.1.1.szO.1 hl.1.1.szO.2 hl.1.2.szO.1 hl.1.2.szO.2 hm.1.1.szO.1 hm.1.1.szO.2 hm.1.2.szO.1 hm.1.2.szO.2
  have e : crossLf false (natS l.1.1) (natS l.1.2) false (natS l.2.1) (natS l.2.2) false (natS m.1.1) (natS m.1.2) false (natS m.2.1) (natS m.2.2) = (crossP l m, 0) := by
    unfold crossLf
    rw [if_pos (chkLf_lfpO hl), if_pos (chkLf_lfpO hm), be_natS, be_natS, be_natS, be_natS, be_natS, be_natS, be_natS, be_natS]
    rfl
  rw [e] at h
  exact h
theorem apartR_angO {L : List Lf} {p q : PT} (hp : Ang p) (hq : Ang q) : apartR L false (natS p.1) (natS p.2) false (natS q.1) (natS q.2) = (L.any fun l => partsP l p q, 0) := by
  unfold apartR
  rw [if_pos hp.ok, if_pos hq.ok, be_natS, be_natS, be_natS, be_natS]
theorem lHull_grp (B : Nat) (v : Value) (g : List PT) (w : World) (hrow : w.ownsRow B 26 3 v g.length (g.flatMap encP)) (hA : ∀ p, p ∈ g → Ang p) (hr : Rises below_ g) (hne : g ≠ []) (hlen : g.length ≤ 4096) :
    Calls Tryz.prog 12 #[v] w fun e w' => ∃ v', e = .returned (.tuple #[v', .int .i64 0]) ∧ LRow w' w.heap.size v' (hullL g) ∧ Below w.heap.size w w' := by
  obtain ⟨A, c, rfl, -, hAA⟩ := own_form hrow
  obtain ⟨gg, rfl⟩ := hAA (List.length_pos_iff.2 hne)
  obtain ⟨Ls, hLs⟩ : ∃ Ls : List RawQ, Ls = g.map fun p => (false, natS p.1, natS p.2) := ⟨_, rfl⟩
  have hl : Ls.length = g.length := by rw [hLs, List.length_map]
  have hok : okQ Ls = true := List.all_eq_true.2 fun r hr => by
    rw [hLs] at hr
    obtain ⟨p, hp, rfl⟩ := List.mem_map.1 hr
    exact (hA p hp).ok
  have hang : angQ Ls = g := by
    unfold angQ
    rw [hLs, List.map_map]
    conv => rhs; rw [← List.map_id g]
    refine List.map_congr_left fun p _ => ?_
    simp only [Function.comp, be_natS, id]
  have hky : ∀ {l : List PT}, (∀ p, p ∈ l → Ang p) → Rises below_ l → Rises (fun p q => ky p < ky q) l := fun hl hr => List.Pairwise.imp_of_mem (fun {a b} ha hb hab => (ky_lt (hl a ha) (hl b hb)).1 hab) hr
  have hrise : riseL g = g := rises_ext (lt := fun p q => ky p < ky q) (fun x => Nat.lt_irrefl _) (fun x y z h1 h2 => Nat.lt_trans h1 h2) (hky (fun p hp => hA p (riseL_mem.1 hp)) (riseL_rises hA)) (hky hA hr) (fun x => riseL_mem)
  have h := lHull_any gg c Ls w (fun i hi j u hu => by
    have hi2 : i < g.length := by omega
    refine row_cellP hrow hi2 rfl j u ?_
    rw [getElem!_pos Ls i hi] at hu
    rw [getElem!_pos g i hi2]
    simp only [hLs, List.getElem_map, encQ] at hu
    exact hu) (fun r hr => by
    rw [hLs] at hr
    obtain ⟨p, hp, rfl⟩ := List.mem_map.1 hr
    exact (hA p hp).szO) (by omega)
  rw [hl] at h
  refine h.mono ?_
  rintro e w' (⟨-, v', rfl, h1, h2⟩ | ⟨h1, -⟩)
  · rw [hang, hrise] at h1
    exact ⟨v', rfl, h1, h2⟩
  · rw [hok] at h1; exact Bool.noConfusion h1
set_option maxRecDepth 100000 in
set_option maxHeartbeats 2000000 in
theorem lsameRows_eq (A1 A2 A3 A4 : Option Addr) (n1 n2 : Nat) (B B' : Nat) (P Q : List Nat) (w : World) (h1 : Pf w B (.slice A1 n1 n1) P) (h2 : Pf w B (.slice A2 n2 n2) Q) (h3 : Pf w B' (.slice A3 n1 n1) P) (h4 : Pf w B' (.slice A4 n2 n2) Q) (hP : ∀ x, x ∈ P → x < 256) (hQ : ∀ x, x ∈ Q → x < 256) :
    Calls Tryz.prog 59 #[.agg #[.slice A1 n1 n1, .slice A2 n2 n2], .agg #[.slice A3 n1 n1, .slice A4 n2 n2]] w (RetVal (.bool true) w) := by
  have k0 := (Blk.new w 120 #[.slice A1 n1 n1, .slice A2 n2 n2]).alloc (.cells #[.slice A3 n1 n1, .slice A4 n2 n2] 120)
  have k1 := Blk.new (w.alloc (.cells #[.slice A1 n1 n1, .slice A2 n2 n2] 120)) 120 #[.slice A3 n1 n1, .slice A4 n2 n2]
  simp only [World.size_alloc] at k1
  have hB := Lib.hid (show Below w.heap.size w ((w.alloc (.cells #[.slice A1 n1 n1, .slice A2 n2 n2] 120)).alloc (.cells #[.slice A3 n1 n1, .slice A4 n2 n2] 120)) from ((Below.refl _ w).alloc (Nat.le_refl _) _).alloc (by simp) _)
  have e1 := conv_pf ((h1.alloc (.cells #[.slice A1 n1 n1, .slice A2 n2 n2] 120)).alloc (.cells #[.slice A3 n1 n1, .slice A4 n2 n2] 120)) hP
  have e2 := conv_pf ((h2.alloc (.cells #[.slice A1 n1 n1, .slice A2 n2 n2] 120)).alloc (.cells #[.slice A3 n1 n1, .slice A4 n2 n2] 120)) hQ
  have e3 := conv_pf ((h3.alloc (.cells #[.slice A1 n1 n1, .slice A2 n2 n2] 120)).alloc (.cells #[.slice A3 n1 n1, .slice A4 n2 n2] 120)) hP
  have e4 := conv_pf ((h4.alloc (.cells #[.slice A1 n1 n1, .slice A2 n2 n2] 120)).alloc (.cells #[.slice A3 n1 n1, .slice A4 n2 n2] 120)) hQ
  obtain ⟨sp, hsp⟩ : ∃ s, s = mkB P := ⟨_, rfl⟩
  obtain ⟨sq, hsq⟩ : ∃ s, s = mkB Q := ⟨_, rfl⟩
  rw [← hsp] at e1 e3
  rw [← hsq] at e2 e4
  clear h1 h2 h3 h4 hP hQ hsp hsq
  go_enter Tryz.func59, Tryz.ntmps59
  go_upto_region 1 with fail
  generalize hW : (w.alloc (.cells #[.slice A1 n1 n1, .slice A2 n2 n2] 120)).alloc (.cells #[.slice A3 n1 n1, .slice A4 n2 n2] 120) = w1 at k0 k1 hB e1 e2 e3 e4 ⊢
  clear hW
  have a0 : w1.cell? ⟨w.heap.size, 0, none⟩ = some (.slice A1 n1 n1) := k0.cell 0
  have a1 : w1.cell? ⟨w.heap.size, 1, none⟩ = some (.slice A2 n2 n2) := k0.cell 1
  have a2 : w1.cell? ⟨w.heap.size + 1, 0, none⟩ = some (.slice A3 n1 n1) := k1.cell 0
  have a3 : w1.cell? ⟨w.heap.size + 1, 1, none⟩ = some (.slice A4 n2 n2) := k1.cell 1
  clear k0 k1
  go_wp2_with fail
  go_ret
  exact ⟨rfl, hB.out⟩
theorem row_apart {w : World} {B B' n m : Nat} {T T' : TypeId} {s s' : Nat} {v v' : Value} {xs ys : List Value} (h : w.ownsRow B T s v n xs) (k : w.ownsRow B' T' s' v' m ys) (hT : T ≠ T') : v.ownBlock = none ∨ v.ownBlock ≠ v'.ownBlock := by
  rcases h.2 with ⟨rfl, -⟩ | ⟨g, cap, cur, rfl, -, h2, -⟩
  · exact .inl rfl
  · right
    intro e
    rcases k.2 with ⟨rfl, -⟩ | ⟨g', cap', cur', rfl, -, k2, -⟩
    · cases e
    · have e : some g = some g' := e
      injection e with e
      subst e
      rw [h2] at k2
      injection k2 with k2
      injection k2 with _ k2
      exact hT k2
theorem keep_set2 {W : World} {a : Addr} {v u0 u1 : Value} {g : Nat} (h : W.cell? a = some v) (hne : a.block ≠ g) : ((W.setCell ⟨g, 0, none⟩ u0).setCell ⟨g, 1, none⟩ u1).cell? a = some v := by
  rw [World.cell?_setCell_other _ _ _ _ (fun e => hne (by rw [← e])), World.cell?_setCell_other _ _ _ _ (fun e => hne (by rw [← e]))]
  exact h
theorem pf_set2 {W : World} {B g : Nat} {v u0 u1 : Value} {l : List Nat} (h : Pf W B v l) (hg : g < B) : Pf ((W.setCell ⟨g, 0, none⟩ u0).setCell ⟨g, 1, none⟩ u1) B v l :=
  h.keep fun k hk hk2 => (Below.heap_setCell _ ⟨g, 1, none⟩ u1 k (show k ≠ g by omega)).trans (Below.heap_setCell W ⟨g, 0, none⟩ u0 k (show k ≠ g by omega))
theorem preH_lenj {G : List (List PT)} {i j : Nat} (hj : j ≤ (hullL G[i]!).length) : (preH G i j).length = (preH G i 0).length + j := by
  unfold preH
  rw [List.length_append, List.length_append, List.length_take, List.take_zero, List.length_nil]
  omega
end Go.Proofs.YtoaggmegmgdgbaaGreat
